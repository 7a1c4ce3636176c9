/- The walk of ForderFinds: the law returns true. -/
import Derived.Test.YticpfopjffbgbaaWFasks
import Derived.Test.YticpfopjffbgbaaFnd
import Derived.Test.YticpfopjffbgbaaRfd
import Derived.Test.YticpfopjffbgbaaRcl
namespace Go.Proofs.Yticpfopjffbgbaa
open Go.RowKit Fl

theorem Fz.below {α : Type} {enc : α → Value} {w w' : World} {v : Value} {l : List α} (h : Fz w v l) (hs : Sl enc w v l) {B : Nat} (hB : w.heap.size ≤ B) (hb : Below B w w') : Fz w' v l := by
  intro b o n cap hv i hi
  obtain ⟨a, c, hv2, _, _, hA⟩ := hs
  rw [hv] at hv2
  simp only [Value.slice.injEq] at hv2
  obtain ⟨rfl, _, _⟩ := hv2
  obtain h1 | ⟨b2, o2, h2, hb2, _⟩ := hA
  · rw [h1] at hi; simp at hi
  · obtain ⟨rfl, rfl⟩ := by simpa using h2
    rw [hb.frozen (p := ⟨b, o + i, none⟩) (Nat.lt_of_lt_of_le hb2 hB)]
    exact h b o n cap hv i hi
theorem OwnF.fz {w : World} {base : Nat} {v : Value} {xs : List Nat} (h : OwnF w base v xs) : Fz w v xs := by
  intro b o n cap hv i hi
  subst hv
  have h' := h
  obtain ⟨_, ⟨h1, _⟩ | ⟨g, c, cur, h1, _⟩⟩ := h
  · cases h1
  · simp only [Value.slice.injEq, Option.some.injEq, Addr.mk.injEq] at h1
    obtain ⟨⟨rfl, rfl, _⟩, _, _⟩ := h1
    rw [Nat.zero_add]
    exact (OwnF.cellOf h' i hi).2

set_option maxHeartbeats 3200000 in
set_option maxRecDepth 8000 in
theorem finds_small (x lo hi : Nat) (hx : x < 2^64) (v : Value) (a : Option Addr) (cap : Nat) (l : List Nat) (hv : v = .slice a l.length cap) (hl : l.length ≤ 300) (hbd : ∀ x ∈ l, x < 2^64) (w : World) (hS : Sl encF w v l) (hF : Fz w v l) :
    Calls Try.prog 10 #[v, .float .f64 x, .float .f64 lo, .float .f64 hi] w fun e w' => e = .returned (.bool true) ∧ Below w.heap.size w w' := by
  generalize hB : w.heap.size = B
  have HL : Hid (∀ w', Hid (Below B w w') → Sl encF w' v l) := fun w' h => hS.below (Nat.le_of_eq hB) h.out
  have HF : Hid (∀ w', Hid (Below B w w') → Fz w' v l) := fun w' h => hF.below hS (Nat.le_of_eq hB) h.out
  have l8 : l.length * 8 ≤ 140737488351232 := by omega
  have L8 := Lib.hid l8
  have C1 := Lib.hid (rsort_any v l l8 w hS)
  have C2 := Lib.hid (fun w' (h : Hid (Below B w w')) => find_any v l x l8 w' (HL.out w' h) (HF.out w' h))
  have C3 := Lib.hid (fun w' (h : Hid (Below B w w')) => rfind_any v l x l8 hx hbd w' (HL.out w' h))
  have C4 : Hid (∀ m, RSL l m → ∀ w' v', Sl encF w' v' m → Fz w' v' m → Calls Try.prog 24 #[v', .float .f64 x] w' fun e w2 => e = .returned (.tuple #[.int .i64 (findK m x), .bool (findB m x)]) ∧ Below w'.heap.size w' w2) := fun m hm w' v' h1 h2 =>
    find_any v' m x (by rw [hm.len]; omega) w' h1 h2
  have C5 : Hid (∀ m, RSL l m → ∀ w' v', Sl encF w' v' m → Calls Try.prog 25 #[v', .float .f64 x] w' fun e w2 => e = .returned (.tuple #[.int .i64 (findK m x), .bool (findB m x)]) ∧ Drw w' w2) := fun m hm w' v' h1 =>
    rfind_any v' m x (by rw [hm.len]; omega) hx (hm.bd hbd) w' h1
  have J1 := Lib.hid (beq_self_eq_true (canon (clampF x lo hi)))
  have hsm : decide (l.length ≤ 300) = true := decide_eq_true hl
  clear hS hF hbd l8 HF hx
  generalize findK l x = K1 at *
  generalize findB l x = F1 at *
  subst hv
  have hB1 : Hid (B ≤ w.heap.size) := Nat.le_of_eq hB.symm
  clear hB
  go_enter Try.func10, Try.ntmps10
  go_wp2_with (go_at_call 11; refine (small2_any _ _ _ _).mono ?_; rintro e w' ⟨rfl, rfl⟩)
  refine C1.out.mono ?_
  rintro e w1 ⟨v1, m, rfl, hr, ho, hb⟩
  have B1 : Hid (Below B w w1) := hb.mono hB1.out
  have S1 : Hid (B ≤ w1.heap.size) := Nat.le_trans hB1.out B1.out.size
  have HSM : Hid (Sl encF w1 v1 m) := ho.sl (by rw [hr.len]; omega)
  have HFM : Hid (Fz w1 v1 m) := ho.fz
  have C4 := Lib.hid (C4.out m hr)
  have C5 := Lib.hid (C5.out m hr)
  clear hr ho hb C1
  generalize findK m x = K2 at *
  generalize findB m x = F2 at *
  go_wp2_with fail
  refine (C2.out w1 B1).mono ?_
  rintro e w2 ⟨rfl, hb2⟩
  have B2 : Hid (Below B w w2) := B1.out.trans (hb2.mono S1.out)
  have D2 := Lib.hid hb2
  clear hb2
  go_wp2_with fail
  refine (C3.out w2 B2).mono ?_
  rintro e w3 ⟨rfl, hd3⟩
  have B3 : Hid (Below B w w3) := B2.out.trans (hd3.below B)
  have D3 : Hid (Below w1.heap.size w1 w3) := D2.out.trans (hd3.below _)
  clear hd3
  go_wp2_with fail
  refine (C4.out w3 v1 (HSM.out.below (Nat.le_refl _) D3.out) (HFM.out.below HSM.out (Nat.le_refl _) D3.out)).mono ?_
  rintro e w4 ⟨rfl, hb4⟩
  have B4 : Hid (Below B w w4) := B3.out.trans (hb4.mono (Nat.le_trans hB1.out B3.out.size))
  have D4 : Hid (Below w1.heap.size w1 w4) := D3.out.trans (hb4.mono D3.out.size)
  clear hb4
  go_wp2_with fail
  refine (C5.out w4 v1 (HSM.out.below (Nat.le_refl _) D4.out)).mono ?_
  rintro e w5 ⟨rfl, hd5⟩
  have B5 : Hid (Below B w w5) := B4.out.trans (hd5.below B)
  clear hd5
  go_wp2_with (first
    | (go_at_call 23; refine (clamp_any _ _ _ _).mono ?_; rintro e w' ⟨rfl, rfl⟩)
    | (go_at_call 26; refine (rclamp_any _ _ _ _).mono ?_; rintro e w' ⟨rfl, rfl⟩)
    | (go_at_call 15; refine (same_any _ _ _).mono ?_; rintro e w' ⟨rfl, rfl⟩; rw [J1.out])
    | (go_at_call 12; refine (awake2_any _).mono ?_; rintro e w' ⟨rfl, hbb⟩))
  go_ret
  exact ⟨rfl, B5.out.trans (hbb.mono (Nat.le_trans hB1.out B5.out.size))⟩

set_option maxHeartbeats 800000 in
set_option maxRecDepth 8000 in
theorem finds_big (x lo hi : Nat) (a : Option Addr) (n cap : Nat) (hl : 300 < n) (w : World) :
    Calls Try.prog 10 #[.slice a n cap, .float .f64 x, .float .f64 lo, .float .f64 hi] w fun e w' => e = .returned (.bool true) ∧ Below w.heap.size w w' := by
  have hsm : decide (n ≤ 300) = false := decide_eq_false (by omega)
  go_enter Try.func10, Try.ntmps10
  go_wp2_with (first | (go_at_call 11; refine (small2_any _ _ _ _).mono ?_; rintro e w' ⟨rfl, rfl⟩) | (go_at_call 12; refine (awake2_any _).mono ?_; rintro e w' ⟨rfl, hbb⟩))
  go_ret
  exact ⟨rfl, hbb⟩

theorem walk_ForderFinds (w : World) (v : Value) (l : List Nat) (h : Sl encF w v l) (hb : ∀ x ∈ l, x < 2^64) (_ : l.length * 8 ≤ 140737488351232) (hf : Fz w v l) (x : Nat) (hx : x < 2^64) (lo : Nat) (_ : lo < 2^64) (hi : Nat) (_ : hi < 2^64) :
    Calls Try.prog 10 #[v, .float .f64 x, .float .f64 lo, .float .f64 hi] w fun e w' => e = .returned (.bool true) ∧ Below w.heap.size w w' := by
  obtain ⟨a, cap, hv, _⟩ := id h
  rcases Nat.lt_or_ge 300 l.length with hl | hl
  · subst hv; exact finds_big x lo hi a _ cap hl w
  · exact finds_small x lo hi hx v a cap l hv hl hb w h hf
end Go.Proofs.Yticpfopjffbgbaa
