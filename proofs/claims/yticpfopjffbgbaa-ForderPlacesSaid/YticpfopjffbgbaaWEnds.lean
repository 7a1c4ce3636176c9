/- The walk of ForderEnds: the law returns true. -/
import Derived.Test.YticpfopjffbgbaaEnp
namespace Go.Proofs.Yticpfopjffbgbaa
open Go.RowKit Fl

set_option maxHeartbeats 400000 in
theorem small2_any (a : Option Addr) (n cap : Nat) (w : World) :
    Calls Try.prog 11 #[.slice a n cap] w fun e w' => e = .returned (.bool (decide (n ≤ 300))) ∧ w = w' := by
  have h : decide ((n : Int) ≤ 300) = decide (n ≤ 300) := by rw [Bool.eq_iff_iff, decide_eq_true_eq, decide_eq_true_eq]; omega
  have H := Lib.hid h
  clear h
  go_enter Try.func11, Try.ntmps11
  go_wp2
  go_ret
  exact ⟨by rw [← H.out]; rfl, rfl⟩

set_option maxHeartbeats 3200000 in
set_option maxRecDepth 8000 in
theorem ends_some (v : Value) (a : Option Addr) (cap : Nat) (l : List Nat) (hv : v = .slice a l.length cap) (h0 : 0 < l.length) (hl : l.length ≤ 300) (hbd : ∀ x ∈ l, x < 2^64) (w : World) (hS : Sl encF w v l) :
    Calls Try.prog 6 #[v] w fun e w' => e = .returned (.bool true) ∧ Below w.heap.size w w' := by
  have hsm : decide (l.length ≤ 300) = true := decide_eq_true hl
  have hne : ((l.length : Int) == 0) = false := beq_eq_false_iff_ne.2 (by omega)
  have hl8 : l.length * 8 ≤ 140737488351232 := by omega
  have hle := sortF_len l
  have hs0 : 0 < (sortF l).length := by rw [hle]; exact h0
  obtain ⟨E1, E2⟩ := ends_end hbd h0 hs0
  have hne0 : l ≠ [] := List.length_pos_iff.1 h0
  generalize hlast : (sortF l)[(sortF l).length - 1] = last at E1 E2
  generalize hfst : (sortF l)[0] = fst at E2
  have C0 : Calls Try.prog 13 #[v] w fun e w' => ∃ g cp, e = .returned (.slice (some ⟨g, 0, none⟩) l.length cp) ∧ w'.cell? ⟨g, 0, none⟩ = some (.float .f64 fst) ∧ w'.cell? ⟨g, l.length - 1, none⟩ = some (.float .f64 last) ∧ Below w.heap.size w w' ∧
      (Calls Try.prog 18 #[v] w' fun e w2 => e = .returned (.tuple #[.float .f64 (mostV false l), .int .i64 0]) ∧ w' = w2) ∧ (Calls Try.prog 20 #[v] w' fun e w2 => e = .returned (.tuple #[.float .f64 (mostV true l), .int .i64 0]) ∧ w' = w2) := by
    refine (sort_any v l hbd hl8 w hS).mono ?_
    rintro e w' ⟨v', rfl, ho, hb⟩
    obtain ⟨g, cp, rfl, _, _, hr⟩ := ho.read (List.length_pos_iff.1 hs0)
    have m1 := min_any v l hl8 w' (hS.below (Nat.le_refl _) hb)
    have m2 := max_any v l hl8 w' (hS.below (Nat.le_refl _) hb)
    rw [show mostR false l = mostV false l from if_neg hne0, show mostE l = 0 from if_neg hne0] at m1
    rw [show mostR true l = mostV true l from if_neg hne0, show mostE l = 0 from if_neg hne0] at m2
    refine ⟨g, cp, by rw [hle], by rw [← hfst]; exact hr 0 hs0, ?_, hb, m1, m2⟩
    have := hr ((sortF l).length - 1) (by omega)
    rw [hlast] at this
    rw [show l.length - 1 = (sortF l).length - 1 by rw [hle]]
    exact this
  have hix : ((l.length : Int) - 1).toNat = l.length - 1 := by omega
  have hix2 : (l.length : Int) - 1 = ((l.length - 1 : Nat) : Int) := by omega
  have C0 := Lib.hid C0
  clear hle hs0 hne0 hlast hfst hS hbd
  generalize mostV false l = MN at *
  generalize mostV true l = MX at *
  subst hv
  have HS1 : Hid (isNaN last = false → (canon MN == canon fst) = true) := fun h => (E2 h).1
  have HS2 : Hid (isNaN last = false → (canon MX == canon last) = true) := fun h => (E2 h).2
  cases hn : isNaN last
  · have HS1 := Lib.hid (HS1.out hn)
    have HS2 := Lib.hid (HS2.out hn)
    clear E1 E2
    go_enter Try.func6, Try.ntmps6
    go_wp2_with (go_at_call 11; refine (small2_any _ _ _ _).mono ?_; rintro e w' ⟨rfl, rfl⟩)
    refine C0.out.mono ?_
    rintro e w1 ⟨g, cp, rfl, hc0, hcl, hb1, hR⟩
    have C1 := Lib.hid (hR.1)
    have C2 := Lib.hid (hR.2)
    have HB1 := Lib.hid hb1
    clear hR hb1
    go_wp2_with (first
      | (go_at_call 18; refine (C1.out).mono ?_; rintro e w' ⟨rfl, rfl⟩)
      | (go_at_call 20; refine (C2.out).mono ?_; rintro e w' ⟨rfl, rfl⟩)
      | (go_at_call 15; refine (same_any _ _ _).mono ?_; rintro e w' ⟨rfl, rfl⟩; first | rw [HS1.out] | rw [HS2.out])
      | (go_at_call 12; refine (awake2_any _).mono ?_; rintro e w' ⟨rfl, hbb⟩))
    go_ret
    exact ⟨rfl, HB1.out.trans (hbb.mono HB1.out.size)⟩
  · obtain ⟨e1, e2⟩ := E1 hn
    have n1 : isNaN MN = true := by rw [e1]; exact cN_nan
    have n2 : isNaN MX = true := by rw [e2]; exact cN_nan
    clear E1 E2 e1 e2
    go_enter Try.func6, Try.ntmps6
    go_wp2_with (go_at_call 11; refine (small2_any _ _ _ _).mono ?_; rintro e w' ⟨rfl, rfl⟩)
    refine C0.out.mono ?_
    rintro e w1 ⟨g, cp, rfl, hc0, hcl, hb1, hR⟩
    have C1 := Lib.hid (hR.1)
    have C2 := Lib.hid (hR.2)
    have HB1 := Lib.hid hb1
    clear hR hb1
    go_wp2_with (first
      | (go_at_call 18; refine (C1.out).mono ?_; rintro e w' ⟨rfl, rfl⟩)
      | (go_at_call 20; refine (C2.out).mono ?_; rintro e w' ⟨rfl, rfl⟩)
      | (go_at_call 15; refine (same_any _ _ _).mono ?_; rintro e w' ⟨rfl, rfl⟩; first | rw [HS1.out] | rw [HS2.out])
      | (go_at_call 12; refine (awake2_any _).mono ?_; rintro e w' ⟨rfl, hbb⟩))
    go_ret
    exact ⟨rfl, HB1.out.trans (hbb.mono HB1.out.size)⟩

set_option maxHeartbeats 400000 in
set_option maxRecDepth 8000 in
theorem ends_big (a : Option Addr) (n cap : Nat) (hl : 300 < n) (w : World) :
    Calls Try.prog 6 #[.slice a n cap] w fun e w' => e = .returned (.bool true) ∧ Below w.heap.size w w' := by
  have hsm : decide (n ≤ 300) = false := decide_eq_false (by omega)
  go_enter Try.func6, Try.ntmps6
  go_wp2_with (first | (go_at_call 11; refine (small2_any _ _ _ _).mono ?_; rintro e w' ⟨rfl, rfl⟩) | (go_at_call 12; refine (awake2_any _).mono ?_; rintro e w' ⟨rfl, hbb⟩))
  go_ret
  exact ⟨rfl, hbb⟩

set_option maxHeartbeats 400000 in
set_option maxRecDepth 8000 in
theorem ends_none (a : Option Addr) (cap : Nat) (w : World) :
    Calls Try.prog 6 #[.slice a 0 cap] w fun e w' => e = .returned (.bool true) ∧ Below w.heap.size w w' := by
  go_enter Try.func6, Try.ntmps6
  go_wp2_with (first | (go_at_call 11; refine (small2_any _ _ _ _).mono ?_; rintro e w' ⟨rfl, rfl⟩) | (go_at_call 12; refine (awake2_any _).mono ?_; rintro e w' ⟨rfl, hbb⟩))
  go_ret
  exact ⟨rfl, hbb⟩

theorem walk_ForderEnds (w : World) (v : Value) (l : List Nat) (h : Sl encF w v l) (hb : ∀ x ∈ l, x < 2^64) (_ : l.length * 8 ≤ 140737488351232) :
    Calls Try.prog 6 #[v] w fun e w' => e = .returned (.bool true) ∧ Below w.heap.size w w' := by
  obtain ⟨a, cap, hv, _⟩ := id h
  rcases Nat.lt_or_ge 300 l.length with hl | hl
  · subst hv; exact ends_big a _ cap hl w
  · rcases Nat.eq_zero_or_pos l.length with h0 | h0
    · subst hv; rw [h0]; exact ends_none a cap w
    · exact ends_some v a cap l hv h0 hl hb w h
end Go.Proofs.Yticpfopjffbgbaa
