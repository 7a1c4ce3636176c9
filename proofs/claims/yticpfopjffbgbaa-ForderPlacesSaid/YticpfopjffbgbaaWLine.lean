/- The walk of ForderLine: the law returns true. -/
import Derived.Test.YticpfopjffbgbaaLa2
namespace Go.Proofs.Yticpfopjffbgbaa
open Go.RowKit Fl
def ck (x : Nat) : Nat := keyF (canon x)
theorem cmpF_lt {x y : Nat} (h : ck x < ck y) : cmpF x y = -1 ∧ cmpF y x = 1 := by
  unfold ck at h; unfold cmpF cmpN
  exact ⟨if_pos h, by rw [if_neg (by omega), if_pos h]⟩
theorem cmpF_eq {x y : Nat} (h : ck x = ck y) : cmpF x y = 0 := by
  unfold ck at h; unfold cmpF cmpN
  rw [if_neg (by omega), if_neg (by omega)]
theorem ck_canon {x y : Nat} (hx : x < 2^64) (hy : y < 2^64) : ck x = ck y ↔ canon x = canon y := by
  constructor
  · intro h; exact keyF_inj (canon_lt' hx) (canon_lt' hy) h
  · intro h; unfold ck; rw [h]
theorem ck_same {x y : Nat} (hx : x < 2^64) (hy : y < 2^64) : (canon x == canon y) = decide (ck x = ck y) := by
  rw [Bool.eq_iff_iff, beq_iff_eq, decide_eq_true_eq]; exact (ck_canon hx hy).symm

set_option maxHeartbeats 1600000 in
set_option maxRecDepth 8000 in
theorem line_go (a b c : Nat) (p q r t : Int) (s : Bool) (HAB : Hid (cmpF a b = p)) (HBA : Hid (cmpF b a = q)) (HBC : Hid (cmpF b c = r)) (HAC : Hid (cmpF a c = t)) (HS : Hid ((canon a == canon b) = s))
    (h : (p = 1 ∧ q = -1 ∧ s = false) ∨ (p = 0 ∧ q = 0 ∧ s = true ∧ (r = 1 ∨ (r = 0 ∧ t = 0) ∨ (r = 0 ∧ t = -1) ∨ (r = -1 ∧ t = 0) ∨ (r = -1 ∧ t = -1))) ∨ (p = -1 ∧ q = 1 ∧ s = false ∧ (r = 1 ∨ (r = 0 ∧ t = 0) ∨ (r = 0 ∧ t = -1) ∨ (r = -1 ∧ t = 0) ∨ (r = -1 ∧ t = -1)))) (w : World) :
    Calls Try.prog 4 #[.float .f64 a, .float .f64 b, .float .f64 c] w fun e w' => e = .returned (.bool true) ∧ Below w.heap.size w w' := by
  have HAA : Hid (cmpF a a = 0) := cmpF_eq rfl
  rcases h with ⟨rfl, rfl, rfl⟩ | ⟨rfl, rfl, rfl, rfl | ⟨rfl, rfl⟩ | ⟨rfl, rfl⟩ | ⟨rfl, rfl⟩ | ⟨rfl, rfl⟩⟩ | ⟨rfl, rfl, rfl, rfl | ⟨rfl, rfl⟩ | ⟨rfl, rfl⟩ | ⟨rfl, rfl⟩ | ⟨rfl, rfl⟩⟩
  all_goals
    go_enter Try.func4, Try.ntmps4
    go_wp2_with (first
      | (go_at_call 14; refine (compare_any _ _ _).mono ?_; rintro e w' ⟨rfl, rfl⟩; first | rw [HAB.out] | rw [HBA.out] | rw [HAA.out] | rw [HBC.out] | rw [HAC.out])
      | (go_at_call 15; refine (same_any _ _ _).mono ?_; rintro e w' ⟨rfl, rfl⟩; rw [HS.out])
      | (go_at_call 12; refine (awake2_any _).mono ?_; rintro e w' ⟨rfl, hbb⟩))
    go_ret
    exact ⟨rfl, hbb⟩

theorem walk_ForderLine (a : Nat) (ha : a < 2^64) (b : Nat) (hb : b < 2^64) (c : Nat) (_ : c < 2^64) (w : World) :
    Calls Try.prog 4 #[.float .f64 a, .float .f64 b, .float .f64 c] w fun e w' => e = .returned (.bool true) ∧ Below w.heap.size w w' := by
  refine line_go a b c _ _ _ _ _ rfl rfl rfl rfl rfl ?_ w
  have hs := ck_same ha hb
  rcases Nat.lt_trichotomy (ck a) (ck b) with h | h | h
  · obtain ⟨h1, h2⟩ := cmpF_lt h
    refine .inr (.inr ⟨h1, h2, by rw [hs, decide_eq_false_iff_not]; omega, ?_⟩)
    rcases Nat.lt_trichotomy (ck b) (ck c) with g | g | g
    · exact .inr (.inr (.inr (.inr ⟨(cmpF_lt g).1, (cmpF_lt (by omega)).1⟩)))
    · exact .inr (.inr (.inl ⟨cmpF_eq g, (cmpF_lt (by omega)).1⟩))
    · exact .inl (cmpF_lt g).2
  · refine .inr (.inl ⟨cmpF_eq h, cmpF_eq h.symm, by rw [hs, decide_eq_true_eq]; exact h, ?_⟩)
    rcases Nat.lt_trichotomy (ck b) (ck c) with g | g | g
    · exact .inr (.inr (.inr (.inr ⟨(cmpF_lt g).1, (cmpF_lt (by omega)).1⟩)))
    · exact .inr (.inl ⟨cmpF_eq g, cmpF_eq (by omega)⟩)
    · exact .inl (cmpF_lt g).2
  · obtain ⟨h1, h2⟩ := cmpF_lt h
    exact .inl ⟨h2, h1, by rw [hs, decide_eq_false_iff_not]; omega⟩
end Go.Proofs.Yticpfopjffbgbaa
