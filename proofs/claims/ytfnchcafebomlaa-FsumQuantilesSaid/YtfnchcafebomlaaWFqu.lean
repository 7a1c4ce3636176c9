/- The walk of FsumQuantiles: the law returns true. -/
import Derived.Test.YtfnchcafebomlaaQtr
import Derived.Test.YtfnchcafebomlaaWDoubles
namespace Go.Proofs.Ytfnchcafebomlaa
open Go.RowKit Fl

set_option maxHeartbeats 1600000 in
set_option maxRecDepth 8000 in
theorem quantiles_small (q : Nat) (v : Value) (a : Option Addr) (cap : Nat) (l : List Nat) (hv : v = .slice a l.length cap) (hl : l.length ≤ 300) (hbd : ∀ x ∈ l, x < 2^64) (w : World) (hS : Sl encF w v l) :
    Calls Try.prog 9 #[v, .float .f64 q] w fun e w' => e = .returned (.bool true) ∧ Below w.heap.size w w' := by
  have C1 := Lib.hid (quantile_any v l q (by omega) hbd w hS)
  have C2 : Hid (∀ w', Below w.heap.size w w' → Calls Try.prog 26 #[v, .float .f64 q] w' fun e w2 => e = .returned (.tuple #[.float .f64 (quantV l q), .int .i64 (quantE l q)]) ∧ Below w'.heap.size w' w2) := fun w' h =>
    rquantile_any v l q (by omega) hbd w' (hS.below (Nat.le_refl _) h)
  have J := Lib.hid (beq_self_eq_true (canon (quantV l q)))
  have hsm : decide (l.length ≤ 300) = true := decide_eq_true hl
  clear hS hbd
  generalize quantV l q = V at *
  generalize quantE l q = E at *
  subst hv
  go_enter Try.func9, Try.ntmps9
  go_wp2_with (go_at_call 15; refine (small4_any _ _ _ _).mono ?_; rintro e w' ⟨rfl, rfl⟩)
  refine C1.out.mono ?_
  rintro e w1 ⟨rfl, hb1⟩
  have HB1 := Lib.hid hb1
  clear hb1
  go_wp2_with fail
  refine (C2.out w1 HB1.out).mono ?_
  rintro e w2 ⟨rfl, hb2⟩
  have HB2 : Hid (Below w.heap.size w w2) := HB1.out.trans (hb2.mono HB1.out.size)
  clear hb2
  go_wp2_with (first
    | (go_at_call 17; refine (same_any _ _ _).mono ?_; rintro e w' ⟨rfl, rfl⟩; rw [J.out])
    | (go_at_call 12; refine (awake4_any _).mono ?_; rintro e w' ⟨rfl, hbb⟩))
  go_ret
  exact ⟨rfl, HB2.out.trans (hbb.mono HB2.out.size)⟩

set_option maxHeartbeats 800000 in
set_option maxRecDepth 8000 in
theorem quantiles_big (q : Nat) (a : Option Addr) (n cap : Nat) (hl : 300 < n) (w : World) :
    Calls Try.prog 9 #[.slice a n cap, .float .f64 q] w fun e w' => e = .returned (.bool true) ∧ Below w.heap.size w w' := by
  have hsm : decide (n ≤ 300) = false := decide_eq_false (by omega)
  go_enter Try.func9, Try.ntmps9
  go_wp2_with (first | (go_at_call 15; refine (small4_any _ _ _ _).mono ?_; rintro e w' ⟨rfl, rfl⟩) | (go_at_call 12; refine (awake4_any _).mono ?_; rintro e w' ⟨rfl, hbb⟩))
  go_ret
  exact ⟨rfl, hbb⟩

theorem walk_FsumQuantiles (w : World) (v : Value) (l : List Nat) (h : Sl encF w v l) (hb : ∀ x ∈ l, x < 2^64) (_ : l.length * 8 ≤ 140737488351232) (q : Nat) (_ : q < 2^64) :
    Calls Try.prog 9 #[v, .float .f64 q] w fun e w' => e = .returned (.bool true) ∧ Below w.heap.size w w' := by
  obtain ⟨a, cap, hv, _⟩ := id h
  rcases Nat.lt_or_ge 300 l.length with hl | hl
  · subst hv; exact quantiles_big q a _ cap hl w
  · exact quantiles_small q v a cap l hv hl hb w h
end Go.Proofs.Ytfnchcafebomlaa
