/- The walk of ForderAsks: the law returns true. -/
import Derived.Test.YticpfopjffbgbaaWEnds
import Derived.Test.YticpfopjffbgbaaRnm
namespace Go.Proofs.Yticpfopjffbgbaa
open Go.RowKit Fl

theorem canon_sortF {l : List Nat} : (sortF l).map canon = sortF l := by
  unfold sortF
  rw [List.map_map]
  exact List.map_congr_left fun c _ => c.2.2
theorem rsl_canon {l m : List Nat} (h : RSL l m) (hb : ∀ x ∈ l, x < 2^64) : (sortF l).map canon = m.map canon := by
  rw [canon_sortF]
  unfold sortF
  rw [← h.map hb]
  exact map_toCW (h.bd hb)

set_option maxHeartbeats 3200000 in
set_option maxRecDepth 8000 in
theorem asks2_small (x y : Nat) (v : Value) (a : Option Addr) (cap : Nat) (l : List Nat) (hv : v = .slice a l.length cap) (hl : l.length ≤ 300) (hbd : ∀ x ∈ l, x < 2^64) (w : World) (hS : Sl encF w v l) :
    Calls Try.prog 5 #[.float .f64 x, .float .f64 y, v] w fun e w' => e = .returned (.bool true) ∧ Below w.heap.size w w' := by
  generalize hB : w.heap.size = B
  have HL : Hid (∀ w', Hid (Below B w w') → Sl encF w' v l) := fun w' h => hS.below (Nat.le_of_eq hB) h.out
  have l8 : l.length * 8 ≤ 140737488351232 := by omega
  have L8 := Lib.hid l8
  have C1 := Lib.hid (fun w' (h : Hid (Below B w w')) => min_any v l l8 w' (HL.out w' h))
  have C2 := Lib.hid (fun w' (h : Hid (Below B w w')) => rmost_any false v l l8 w' (HL.out w' h))
  have C3 := Lib.hid (fun w' (h : Hid (Below B w w')) => max_any v l l8 w' (HL.out w' h))
  have C4 := Lib.hid (fun w' (h : Hid (Below B w w')) => rmost_any true v l l8 w' (HL.out w' h))
  rw [show wayI false = -1 from rfl] at C2
  rw [show wayI true = 1 from rfl] at C4
  have C5 := Lib.hid (fun w' (h : Hid (Below B w w')) => sort_any v l hbd l8 w' (HL.out w' h))
  have C6 := Lib.hid (fun w' (h : Hid (Below B w w')) => rsort_any v l l8 w' (HL.out w' h))
  have HRC : Hid (∀ m, RSL l m → (sortF l).map canon = m.map canon) := fun m h => rsl_canon h hbd
  have J1 := Lib.hid (beq_self_eq_true (canon (mostR false l)))
  have J2 := Lib.hid (beq_self_eq_true (canon (mostR true l)))
  have hsm : decide (l.length ≤ 300) = true := decide_eq_true hl
  have HLE := Lib.hid (sortF_len l)
  obtain ⟨p, hp⟩ : ∃ p, cmpF x y = p := ⟨_, rfl⟩
  have HP := Lib.hid hp
  clear hS hbd l8 hp
  generalize mostR false l = MN at *
  generalize mostR true l = MX at *
  generalize mostE l = ME at *
  subst hv
  have hB1 : Hid (B ≤ w.heap.size) := Nat.le_of_eq hB.symm
  clear hB
  go_enter Try.func5, Try.ntmps5
  go_wp2_with (go_at_call 11; refine (small2_any _ _ _ _).mono ?_; rintro e w' ⟨rfl, rfl⟩)
  refine (C1.out w (Below.refl _ _)).mono ?_
  rintro e w1 ⟨rfl, rfl⟩
  go_wp2_with fail
  refine (C2.out w (Below.refl _ _)).mono ?_
  rintro e w1 ⟨rfl, hd1⟩
  have B1 : Hid (Below B w w1) := hd1.below B
  clear hd1
  go_wp2_with fail
  refine (C3.out w1 B1).mono ?_
  rintro e w2 ⟨rfl, rfl⟩
  go_wp2_with fail
  refine (C4.out w1 B1).mono ?_
  rintro e w2 ⟨rfl, hd2⟩
  have B2 : Hid (Below B w w2) := B1.out.trans (hd2.below B)
  clear hd2
  go_wp2_with (first
    | (go_at_call 14; refine (compare_any _ _ _).mono ?_; rintro e w' ⟨rfl, rfl⟩; rw [HP.out])
    | (go_at_call 21; refine (rcompare_any _ _ _).mono ?_; rintro e w' ⟨rfl, rfl⟩; rw [HP.out]))
  refine (C5.out w2 B2).mono ?_
  rintro e w3 ⟨v3, rfl, ho3, hb3⟩
  have S2 : Hid (B ≤ w2.heap.size) := Nat.le_trans hB1.out B2.out.size
  have B3 : Hid (Below B w w3) := B2.out.trans (hb3.mono S2.out)
  have HO3 := Lib.hid ho3
  clear ho3 hb3
  go_wp2_with fail
  refine (C6.out w3 B3).mono ?_
  rintro e w4 ⟨v4, m, rfl, hr4, ho4, hb4⟩
  have S3 : Hid (B ≤ w3.heap.size) := Nat.le_trans hB1.out B3.out.size
  have B4 : Hid (Below B w w4) := B3.out.trans (hb4.mono S3.out)
  have N1 := Lib.hid (nums_any v3 v4 (sortF l) m (by rw [HLE.out]; exact L8.out) (HRC.out m hr4) w4 ((HO3.out.sl (by rw [HLE.out]; have := L8.out; omega)).below (Nat.le_refl _) hb4) (ho4.sl (by rw [hr4.len]; have := L8.out; omega)))
  clear hr4 ho4 hb4
  go_wp2_with fail
  refine N1.out.mono ?_
  rintro e w5 ⟨rfl, hd5⟩
  have B5 : Hid (Below B w w5) := B4.out.trans (hd5.below B)
  clear hd5
  go_wp2_with (first
    | (go_at_call 15; refine (same_any _ _ _).mono ?_; rintro e w' ⟨rfl, rfl⟩; first | rw [J1.out] | rw [J2.out])
    | (go_at_call 12; refine (awake2_any _).mono ?_; rintro e w' ⟨rfl, hbb⟩))
  go_ret
  exact ⟨rfl, B5.out.trans (hbb.mono (Nat.le_trans hB1.out B5.out.size))⟩

set_option maxHeartbeats 800000 in
set_option maxRecDepth 8000 in
theorem asks2_big (x y : Nat) (a : Option Addr) (n cap : Nat) (hl : 300 < n) (w : World) :
    Calls Try.prog 5 #[.float .f64 x, .float .f64 y, .slice a n cap] w fun e w' => e = .returned (.bool true) ∧ Below w.heap.size w w' := by
  have hsm : decide (n ≤ 300) = false := decide_eq_false (by omega)
  go_enter Try.func5, Try.ntmps5
  go_wp2_with (first | (go_at_call 11; refine (small2_any _ _ _ _).mono ?_; rintro e w' ⟨rfl, rfl⟩) | (go_at_call 12; refine (awake2_any _).mono ?_; rintro e w' ⟨rfl, hbb⟩))
  go_ret
  exact ⟨rfl, hbb⟩

theorem walk_ForderAsks (w : World) (x : Nat) (_ : x < 2^64) (y : Nat) (_ : y < 2^64) (v : Value) (l : List Nat) (h : Sl encF w v l) (hb : ∀ x ∈ l, x < 2^64) (_ : l.length * 8 ≤ 140737488351232) :
    Calls Try.prog 5 #[.float .f64 x, .float .f64 y, v] w fun e w' => e = .returned (.bool true) ∧ Below w.heap.size w w' := by
  obtain ⟨a, cap, hv, _⟩ := id h
  rcases Nat.lt_or_ge 300 l.length with hl | hl
  · subst hv; exact asks2_big x y a _ cap hl w
  · exact asks2_small x y v a cap l hv hl hb w h
end Go.Proofs.Yticpfopjffbgbaa
