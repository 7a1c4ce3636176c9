/- The walk of FsumKeeps: the law returns true. -/
import Derived.Test.YtfnchcafebomlaaQtw
import Derived.Test.YtfnchcafebomlaaSe
import Derived.Test.YtfnchcafebomlaaWDoubles
namespace Go.Proofs.Ytfnchcafebomlaa
open Go.RowKit Fl

theorem same_quietK {x : Nat} (w : World) (n : Nat) :
    Calls Try.prog 17 #[.float .f64 x, .float .f64 x] (w.drewN n) fun e w'' => e = .returned (.bool true) ∧ ∃ m, w'' = w.drewN m := by
  have := same_any x x (w.drewN n)
  rw [beq_self_eq_true] at this
  exact quiet_eq this
theorem same_quietK2 {x : Nat} (w : World) (a n : Nat) :
    Calls Try.prog 17 #[.float .f64 x, .float .f64 x] (w.drewN (a + n)) fun e w'' => e = .returned (.bool true) ∧ ∃ m, w'' = w.drewN (a + m) := by
  have := same_any x x (w.drewN (a + n))
  rw [beq_self_eq_true] at this
  exact this.mono fun _ _ ⟨he, hm⟩ => ⟨he, n, hm.symm⟩
/-- the cells of a slice, by places -/
def CellsK (w : World) (a : Option Addr) (l : List Nat) : Prop := ∀ k (hk : k < l.length), ∃ b o, a = some ⟨b, o, none⟩ ∧ w.cell? ⟨b, o + k, none⟩ = some (.float .f64 l[k])
theorem Sl.cellsK {w : World} {a : Option Addr} {n cap : Nat} {l : List Nat} (h : Sl encF w (.slice a n cap) l) : CellsK w a l := fun k hk => by
  obtain ⟨_, _, hv, _, _, hA⟩ := h
  simp only [Value.slice.injEq] at hv
  obtain ⟨rfl, _, rfl⟩ := hv
  obtain h0 | ⟨b, o, rfl, hb, hc⟩ := hA
  · exfalso; rw [h0] at hk; simp at hk
  · exact ⟨b, o, rfl, hc k hk⟩

set_option maxHeartbeats 3200000 in
set_option maxRecDepth 8000 in
theorem keeps_small (q : Nat) (a : Option Addr) (cap : Nat) (l : List Nat) (hl : l.length ≤ 300) (hbd : ∀ x ∈ l, x < 2^64) (w : World) (hS : Sl encF w (.slice a l.length cap) l) :
    Calls Try.prog 11 #[.slice a l.length cap, .float .f64 q] w fun e w' => e = .returned (.bool true) ∧ Below w.heap.size w w' := by
  generalize hB : w.heap.size = B
  have HL : Hid (∀ w', Hid (Below B w w') → Sl encF w' (.slice a l.length cap) l) := fun w' h => hS.below (Nat.le_of_eq hB) h.out
  have hsm : decide (l.length ≤ 300) = true := decide_eq_true hl
  have HBD := Lib.hid hbd
  have hB1 : Hid (B ≤ w.heap.size) := Nat.le_of_eq hB.symm
  clear hS hbd hB
  go_enter Try.func11, Try.ntmps11
  go_wp2_with (first
    | (go_at_call 15; refine (small4_any _ _ _ _).mono ?_; rintro e w' ⟨rfl, rfl⟩)
    | (at_builtin; go_must (refine wpList_appF rfl _ _ rfl B (.slice (some ⟨w.heap.size, 0, none⟩) 0 0) [] rfl (OwnF.empty (by exact heap_alloc_new w _) hB1.out) (.slice a l.length cap) l rfl (HL.out _ ((Below.refl _ _).alloc hB1.out _)) ?c1 ?c2 ?c3)))
  case c1 => simp; omega
  case c2 => simp; have := hB1.out; omega
  intro v1 w1 ho1 hg1
  have B1 : Hid (Below B w w1) := OwnF.below (OwnF.empty (by exact heap_alloc_new w _) hB1.out) hg1 ((Below.refl _ _).alloc hB1.out _) (Nat.le_refl _) (by simp; have := hB1.out; omega)
  have HSC : Hid (∀ w', Below w1.heap.size w1 w' → Sl encF w' v1 l) := fun w' h => (OwnF.sl (xs := l) ho1 (by omega)).below (Nat.le_refl _) h
  have S1 : Hid (B ≤ w1.heap.size) := Nat.le_trans hB1.out B1.out.size
  clear ho1 hg1
  obtain ⟨a1, c1, hv1, _⟩ := HSC.out w1 (Below.refl _ _)
  subst hv1
  have C1 := Lib.hid (fun w' (h : Hid (Below w1.heap.size w1 w')) => sum_any (.slice a1 l.length c1) l HBD.out w' (HSC.out w' h.out))
  have C2 := Lib.hid (fun w' (h : Hid (Below w1.heap.size w1 w')) => quantile_any (.slice a1 l.length c1) l q (by omega) HBD.out w' (HSC.out w' h.out))
  have C3 := Lib.hid (fun w' (h : Hid (Below w1.heap.size w1 w')) => spread_any (.slice a1 l.length c1) l HBD.out (by omega) w' (HSC.out w' h.out))
  have C4 := Lib.hid (fun w' (h : Hid (Below w1.heap.size w1 w')) => dot_any (.slice a1 l.length c1) (.slice a1 l.length c1) l l (by omega) w' (HSC.out w' h.out) (HSC.out w' h.out))
  generalize sumF l = V1 at *
  generalize quantV l q = V2 at *
  generalize quantE l q = E2 at *
  generalize spreadV l = V3 at *
  generalize meanE l = E3 at *
  generalize dotV l l = V4 at *
  generalize dotE l l = E4 at *
  have J : Hid (∀ x, (canon x == canon x) = true) := fun x => beq_self_eq_true _
  go_wp2_with fail
  refine (C1.out w1 (Below.refl _ _)).mono ?_
  rintro e w2 ⟨rfl, n2, rfl⟩
  have D2 : Hid (Below w1.heap.size w1 (w1.drewN n2)) := below_drewN (Below.refl _ _) _
  go_wp2_with fail
  refine (C2.out _ D2).mono ?_
  rintro e w3 ⟨rfl, hb3⟩
  have D3 : Hid (Below w1.heap.size w1 w3) := D2.out.trans (hb3.mono D2.out.size)
  clear hb3
  go_wp2_with fail
  refine (C3.out w3 D3).mono ?_
  rintro e w4 ⟨rfl, hb4⟩
  have D4 : Hid (Below w1.heap.size w1 w4) := D3.out.trans (hb4.mono D3.out.size)
  clear hb4
  go_wp2_with fail
  refine (C4.out w4 D4).mono ?_
  rintro e w5 ⟨rfl, hb5⟩
  have D5 : Hid (Below w1.heap.size w1 w5) := D4.out.trans (hb5.mono D4.out.size)
  clear hb5
  have HK1 : Hid (CellsK w5 a1 l) := Sl.cellsK (HSC.out w5 D5.out)
  have HK0 : Hid (CellsK w5 a l) := Sl.cellsK (HL.out w5 (B1.out.trans (D5.out.mono S1.out)))
  go_wp2
  go_loopw [13] (fun iv wr => ∃ (i n : Nat), i ≤ l.length ∧ iv = .int .i64 i ∧ Hid (wr = w5.drewN n)) (fun iv _ => l.length - (intOf iv).toNat)
  case atStart => exact ⟨0, 0, by omega, rfl, rfl⟩
  case round =>
    obtain ⟨i, n, hi, rfl, hw⟩ := hrel
    obtain rfl := hw.out
    clear hw
    by_cases hil : i < l.length
    · obtain ⟨b, o, rfl, hc0⟩ := HK0.out i hil
      obtain ⟨b1, o1, rfl, hc1⟩ := HK1.out i hil
      generalize l[i] = x at *
      go_wp2
      go_quiet ((go_at_call 17; first | exact same_quietK2 _ _ _ | exact same_quietK _ _))
      go_wp2
      exact ⟨⟨i + 1, _, by omega, by go_num, rfl⟩, by simp [intOf]; omega⟩
    · have D6 : Hid (Below w1.heap.size w1 (w5.drewN n)) := below_drewN D5.out _
      go_wp2_with fail
      refine (C2.out _ D6).mono ?_
      rintro e w7 ⟨rfl, hb7⟩
      have D7 : Hid (Below w1.heap.size w1 w7) := D6.out.trans (hb7.mono D6.out.size)
      clear hb7
      go_wp2_with fail
      refine (C3.out w7 D7).mono ?_
      rintro e w8 ⟨rfl, hb8⟩
      have D8 : Hid (Below w1.heap.size w1 w8) := D7.out.trans (hb8.mono D7.out.size)
      clear hb8
      go_wp2_with fail
      refine (C4.out w8 D8).mono ?_
      rintro e w9 ⟨rfl, hb9⟩
      have D9 : Hid (Below w1.heap.size w1 w9) := D8.out.trans (hb9.mono D8.out.size)
      clear hb9
      go_wp2_with fail
      refine (C1.out w9 D9).mono ?_
      rintro e wa ⟨rfl, na, rfl⟩
      go_wp2_with (first
        | (go_at_call 17; refine (same_any _ _ _).mono ?_; rintro e w' ⟨rfl, rfl⟩; rw [J.out])
        | (go_at_call 12; refine (awake4_any _).mono ?_; rintro e w' ⟨rfl, hbb⟩))
      go_ret
      have DA : Below w1.heap.size w1 (w9.drewN na) := below_drewN D9.out _
      exact ⟨rfl, B1.out.trans ((DA.trans (hbb.mono DA.size)).mono S1.out)⟩

set_option maxHeartbeats 800000 in
set_option maxRecDepth 8000 in
theorem keeps_big (q : Nat) (a : Option Addr) (n cap : Nat) (hl : 300 < n) (w : World) :
    Calls Try.prog 11 #[.slice a n cap, .float .f64 q] w fun e w' => e = .returned (.bool true) ∧ Below w.heap.size w w' := by
  have hsm : decide (n ≤ 300) = false := decide_eq_false (by omega)
  go_enter Try.func11, Try.ntmps11
  go_wp2_with (first | (go_at_call 15; refine (small4_any _ _ _ _).mono ?_; rintro e w' ⟨rfl, rfl⟩) | (go_at_call 12; refine (awake4_any _).mono ?_; rintro e w' ⟨rfl, hbb⟩))
  go_ret
  exact ⟨rfl, hbb⟩

theorem walk_FsumKeeps (w : World) (v : Value) (l : List Nat) (h : Sl encF w v l) (hb : ∀ x ∈ l, x < 2^64) (_ : l.length * 8 ≤ 140737488351232) (q : Nat) (_ : q < 2^64) :
    Calls Try.prog 11 #[v, .float .f64 q] w fun e w' => e = .returned (.bool true) ∧ Below w.heap.size w w' := by
  obtain ⟨a, cap, rfl, _⟩ := id h
  rcases Nat.lt_or_ge 300 l.length with hl | hl
  · exact keeps_big q a _ cap hl w
  · exact keeps_small q a cap l hl hb w h
end Go.Proofs.Ytfnchcafebomlaa
