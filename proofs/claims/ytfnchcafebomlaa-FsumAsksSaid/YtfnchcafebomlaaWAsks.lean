/- The walk of FsumAsks: the law returns true. -/
import Derived.Test.YtfnchcafebomlaaRsd
import Derived.Test.YtfnchcafebomlaaSame
import Derived.Test.YtfnchcafebomlaaWDoubles
namespace Go.Proofs.Ytfnchcafebomlaa
open Go.RowKit Fl

set_option maxHeartbeats 6400000 in
set_option maxRecDepth 8000 in
theorem asks_small (v u : Value) (a a2 : Option Addr) (cap cap2 : Nat) (l r : List Nat) (hv : v = .slice a l.length cap) (hu : u = .slice a2 r.length cap2) (hl : l.length ≤ 300) (hr : r.length ≤ 300) (hbd : ∀ x ∈ l, x < 2^64) (w : World)
    (hS : Sl encF w v l) (hR : Sl encF w u r) :
    Calls Try.prog 8 #[v, u] w fun e w' => e = .returned (.bool true) ∧ Below w.heap.size w w' := by
  generalize hB : w.heap.size = B
  have HB := Lib.hid hB
  have HL : ∀ w', Below B w w' → Sl encF w' v l := fun w' h => hS.below (Nat.le_of_eq hB) h
  have HR : ∀ w', Below B w w' → Sl encF w' u r := fun w' h => hR.below (Nat.le_of_eq hB) h
  clear hB
  have l8 : l.length * 8 ≤ 140737488351232 := by omega
  have r8 : r.length * 8 ≤ 140737488351232 := by omega
  have C1 := Lib.hid (fun w' (h : Hid (Below B w w')) => mean_any v l hbd w' (HL w' h.out))
  have C2 := Lib.hid (fun w' (h : Hid (Below B w w')) => rmean_any v l hbd w' (HL w' h.out))
  have C3 := Lib.hid (fun w' (h : Hid (Below B w w')) => spread_any v l hbd l8 w' (HL w' h.out))
  have C4 := Lib.hid (fun w' (h : Hid (Below B w w')) => rspread_any v l hbd l8 w' (HL w' h.out))
  have C5 := Lib.hid (fun w' (h : Hid (Below B w w')) => dot_any v u l r l8 w' (HL w' h.out) (HR w' h.out))
  have C6 := Lib.hid (fun w' (h : Hid (Below B w w')) => rdot_any v u l r l8 w' (HL w' h.out) (HR w' h.out))
  have C7 := Lib.hid (fun w' (h : Hid (Below B w w')) => sum_any v l hbd w' (HL w' h.out))
  have C8 := Lib.hid (fun w' (h : Hid (Below B w w')) => rsum_any v l hbd w' (HL w' h.out))
  clear HL HR hS hR l8 r8 hbd
  have hsm : decide (l.length ≤ 300) = true := decide_eq_true hl
  have hsm2 : decide (r.length ≤ 300) = true := decide_eq_true hr
  have HSZ : Hid (∀ w', Below B w w' → B ≤ w'.heap.size) := fun w' h => by have := h.size; have := HB.out; omega
  have HT : Hid (∀ w1 w2, Below B w w1 → Below w1.heap.size w1 w2 → Below B w w2) := fun w1 w2 h1 h2 => h1.trans (h2.mono (HSZ.out _ h1))
  subst hv hu
  generalize sumF l = S at *
  generalize meanV l = MV at *
  generalize meanE l = ME at *
  generalize spreadV l = SV at *
  generalize dotV l r = DV at *
  generalize dotE l r = DE at *
  go_enter Try.func8, Try.ntmps8
  go_wp2_with (go_at_call 15; refine (small4_any _ _ _ _).mono ?_; rintro e w' ⟨rfl, rfl⟩)
  refine (C1.out _ ?h1).mono ?_
  case h1 => exact Below.refl _ _
  rintro e w1 ⟨rfl, n1, rfl⟩
  go_wp2_with fail
  refine (C2.out _ ?h2).mono ?_
  case h2 => exact below_drewN (Below.refl _ _) _
  rintro e w2 ⟨rfl, n2, rfl⟩
  go_wp2_with fail
  refine (C3.out _ ?h3).mono ?_
  case h3 => exact below_drewN (Below.refl _ _) _
  rintro e w3 ⟨rfl, b3⟩
  have B3 : Hid (Below B w w3) := HT.out _ _ (below_drewN (Below.refl _ _) _) b3
  clear b3
  go_wp2_with fail
  refine (C4.out w3 B3).mono ?_
  rintro e w4 ⟨rfl, b4⟩
  have B4 : Hid (Below B w w4) := HT.out _ _ B3.out b4
  clear b4
  go_wp2_with fail
  refine (C5.out w4 B4).mono ?_
  rintro e w5 ⟨rfl, b5⟩
  have B5 : Hid (Below B w w5) := HT.out _ _ B4.out b5
  clear b5
  go_wp2_with fail
  refine (C6.out w5 B5).mono ?_
  rintro e w6 ⟨rfl, b6⟩
  have B6 : Hid (Below B w w6) := HT.out _ _ B5.out b6
  clear b6
  go_wp2_with fail
  refine (C7.out w6 B6).mono ?_
  rintro e w7 ⟨rfl, n7, rfl⟩
  go_wp2_with fail
  refine (C8.out _ ?h8).mono ?_
  case h8 => exact below_drewN B6.out _
  rintro e w8 ⟨rfl, n8, rfl⟩
  go_wp2_with (first
    | (go_at_call 17; refine (same_any _ _ _).mono ?_; rintro e w' ⟨rfl, rfl⟩)
    | (go_at_call 12; refine (awake4_any _).mono ?_; rintro e w' ⟨rfl, hbb⟩))
  go_ret
  exact ⟨rfl, B6.out.trans ((below_drewN (Below.refl _ _) _).trans (hbb.mono (HSZ.out _ (below_drewN B6.out _))))⟩

set_option maxHeartbeats 800000 in
set_option maxRecDepth 8000 in
theorem asks_big1 (a a2 : Option Addr) (n m cap cap2 : Nat) (hl : 300 < n) (w : World) :
    Calls Try.prog 8 #[.slice a n cap, .slice a2 m cap2] w fun e w' => e = .returned (.bool true) ∧ Below w.heap.size w w' := by
  have hsm : decide (n ≤ 300) = false := decide_eq_false (by omega)
  go_enter Try.func8, Try.ntmps8
  go_wp2_with (first | (go_at_call 15; refine (small4_any _ _ _ _).mono ?_; rintro e w' ⟨rfl, rfl⟩) | (go_at_call 12; refine (awake4_any _).mono ?_; rintro e w' ⟨rfl, hbb⟩))
  go_ret
  exact ⟨rfl, hbb⟩

set_option maxHeartbeats 800000 in
set_option maxRecDepth 8000 in
theorem asks_big2 (a a2 : Option Addr) (n m cap cap2 : Nat) (hl : n ≤ 300) (hm : 300 < m) (w : World) :
    Calls Try.prog 8 #[.slice a n cap, .slice a2 m cap2] w fun e w' => e = .returned (.bool true) ∧ Below w.heap.size w w' := by
  have hsm : decide (n ≤ 300) = true := decide_eq_true hl
  have hsm2 : decide (m ≤ 300) = false := decide_eq_false (by omega)
  go_enter Try.func8, Try.ntmps8
  go_wp2_with (first | (go_at_call 15; refine (small4_any _ _ _ _).mono ?_; rintro e w' ⟨rfl, rfl⟩) | (go_at_call 12; refine (awake4_any _).mono ?_; rintro e w' ⟨rfl, hbb⟩))
  go_ret
  exact ⟨rfl, hbb⟩

theorem walk_FsumAsks (w : World) (v : Value) (l : List Nat) (h : Sl encF w v l) (hb : ∀ x ∈ l, x < 2^64) (_ : l.length * 8 ≤ 140737488351232)
    (u : Value) (r : List Nat) (g : Sl encF w u r) (_ : ∀ x ∈ r, x < 2^64) (_ : r.length * 8 ≤ 140737488351232) :
    Calls Try.prog 8 #[v, u] w fun e w' => e = .returned (.bool true) ∧ Below w.heap.size w w' := by
  obtain ⟨a, cap, hv, _⟩ := id h
  obtain ⟨a2, cap2, hu, _⟩ := id g
  rcases Nat.lt_or_ge 300 l.length with hl | hl
  · subst hv hu
    exact asks_big1 a a2 _ _ cap cap2 hl w
  · rcases Nat.lt_or_ge 300 r.length with hr | hr
    · subst hv hu
      exact asks_big2 a a2 _ _ cap cap2 hl hr w
    · exact asks_small v u a a2 cap cap2 l r hv hu hl hr hb w h g
end Go.Proofs.Ytfnchcafebomlaa
