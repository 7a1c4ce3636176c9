/- The walk of the reference's Sort. -/
import Derived.Test.YtfnchcafebomlaaCkf
import Derived.Test.YtfnchcafebomlaaOwn3
namespace Go.Proofs.Ytfnchcafebomlaa
open Go.RowKit Fl

theorem rcmp_quiet {x y : Nat} {p : Int} (h : cmpF x y = p) (w : World) (n : Nat) :
    Calls Try.prog 38 #[.float .f64 x, .float .f64 y] (w.drewN n) fun e w'' => e = .returned (.int .i64 p) ∧ ∃ m, w'' = w.drewN m := by
  have := rcompare_any x y (w.drewN n)
  rw [h] at this
  exact quiet_eq this

theorem swap_two {xs : List Nat} {j : Nat} {x y : Nat} (hx : xs.getD j 0 = x) (hy : xs.getD (j + 1) 0 = y) : (xs.set (j + 1) x).set j y = swapL xs j := by rw [← hx, ← hy]; rfl

set_option maxHeartbeats 3200000 in
set_option maxRecDepth 8000 in
theorem rsort_some (a : Option Addr) (cap : Nat) (l : List Nat) (h0 : 0 < l.length) (hl : l.length * 8 ≤ 140737488351232) (w : World) (h : Sl encF w (.slice a l.length cap) l) :
    Calls Try.prog 27 #[.slice a l.length cap] w fun e w' => ∃ v' m, e = .returned v' ∧ RSL l m ∧ OwnF w' w.heap.size v' m ∧ Below w.heap.size w w' := by
  have HS := Lib.hid h
  clear h
  generalize hB : w.heap.size = B
  have HB := Lib.hid hB
  have hB0 : Hid (B ≤ w.heap.size) := Nat.le_of_eq hB.symm
  have hlb := Lib.hid hl
  clear hB
  go_enter Try.func27, Try.ntmps27
  go_wp2_with (at_builtin; go_must (refine wpList_appF rfl _ _ rfl B (.slice (some ⟨w.heap.size, 0, none⟩) 0 0) [] rfl (OwnF.empty (by exact heap_alloc_new w _) hB0.out) (.slice a l.length cap) l rfl (HS.out.below (Nat.le_refl _) ((Below.refl _ _).alloc (Nat.le_refl _) _)) ?c1 ?c2 ?c3))
  case c1 => have := hlb.out; simp; omega
  case c2 => simp; have := hB0.out; omega
  intro v1 w1 ho1 hg1
  have hb1 : Hid (Below B w w1) := OwnF.below (OwnF.empty (by exact heap_alloc_new w _) hB0.out) hg1 ((Below.refl _ _).alloc hB0.out _) (Nat.le_refl _) (by simp; have := hB0.out; omega)
  have HO1 := Lib.hid ho1
  clear ho1 hg1
  obtain ⟨g, cap1, rfl, hbg, _, _⟩ := HO1.out.read (List.length_pos_iff.1 h0)
  have HBG := Lib.hid hbg
  clear hbg
  go_wp2
  go_loopw [4] (fun iv wr => ∃ (i : Nat) (xs : List Nat), 1 ≤ i ∧ i ≤ l.length ∧ iv = .int .i64 i ∧ Hid (xs.Perm l) ∧ Hid (InsInv xs i i) ∧ Hid (OwnF wr B (.slice (some ⟨g, 0, none⟩) l.length cap1) xs) ∧ Hid (Below B w wr)) (fun iv _ => l.length - (intOf iv).toNat)
  case atStart => exact ⟨1, l, by omega, by omega, rfl, List.Perm.refl _, InsInv.first l, HO1, hb1⟩
  case round =>
    obtain ⟨i, xs0, hi1, hil, rfl, hp0, hv0, ho0, hbl0⟩ := hrel
    by_cases hlt : i < l.length
    · obtain ⟨wo, hwo⟩ : ∃ wo : World, wo = wr := ⟨_, rfl⟩
      subst hwo
      clear HO1
      go_wp2
      go_loopw [5] (fun kv wr => ∃ (k : Nat) (xs : List Nat), k ≤ i ∧ kv = .int .i64 k ∧ Hid (xs.Perm l) ∧ Hid (InsInv xs i k) ∧ Hid (OwnF wr B (.slice (some ⟨g, 0, none⟩) l.length cap1) xs) ∧ Hid (Below B w wr)) (fun kv _ => (intOf kv).toNat)
      case atStart => exact ⟨i, xs0, by omega, rfl, hp0, hv0, ho0, hbl0⟩
      case round =>
        clear hp0 hv0 ho0 hbl0
        obtain ⟨k, xs, hk, rfl, hp, hv, ho, hbl⟩ := hrel
        have hxl : xs.length = l.length := hp.out.length_eq
        cases k with
        | zero =>
          have HD : Hid (InsInv xs (i + 1) (i + 1)) := hv.out.done hk (.inl rfl)
          clear hv hxl
          rw [show ((0 : Nat) : Int) = 0 from rfl]
          go_wp2
          go_quiet (fail)
          go_wp2
          exact ⟨⟨i + 1, xs, by omega, by omega, by go_num, hp, HD, ho.out.drewN _, below_drewN hbl.out _⟩, by simp [intOf]; omega⟩
        | succ j =>
          have hqz : ((j + 1 : Nat) : Int) = (j : Int) + 1 := by omega
          obtain ⟨hc1, hf1⟩ := ho.out.cellOf (j + 1) (by omega)
          obtain ⟨hc0, hf0⟩ := ho.out.cellOf j (by omega)
          rw [hqz]
          clear hqz
          generalize hx0 : xs.getD j 0 = x0 at *
          generalize hx1 : xs.getD (j + 1) 0 = x1 at *
          by_cases hlt2 : ckf x1 < ckf x0
          · have hpm : Hid ((swapL xs j).Perm l) := (swapL_perm (by omega)).trans hp.out
            have hiv : Hid (InsInv (swapL xs j) i j) := hv.out.step (by omega) (by omega) (by rw [hx0, hx1]; exact hlt2)
            have HP : Hid (cmpF x1 x0 = -1) := (cmpF_ltf hlt2).1
            have hox : Hid (OwnF ((wr.setCell ⟨g, j + 1, none⟩ (.float .f64 x0)).setCell ⟨g, j, none⟩ (.float .f64 x1)) B (.slice (some ⟨g, 0, none⟩) l.length cap1) (swapL xs j)) := by
              have := (ho.out.put (j + 1) x0).put j x1
              rw [swap_two hx0 hx1] at this; exact this
            have hbx : Hid (Below B w ((wr.setCell ⟨g, j + 1, none⟩ (.float .f64 x0)).setCell ⟨g, j, none⟩ (.float .f64 x1))) := (hbl.out.setCell (p := ⟨g, j + 1, none⟩) HBG.out _).setCell (p := ⟨g, j, none⟩) HBG.out _
            clear hp hv ho hbl hlt2 hx0 hx1 hxl
            go_wp2
            go_quiet ((go_at_call 38; exact rcmp_quiet HP.out _ _))
            go_wp2
            go_region
            all_goals
              go_wp2
              exact ⟨⟨j, swapL xs j, by omega, by go_num, hpm, hiv, hox, below_drewN hbx.out _⟩, by simp [intOf]⟩
          · have HD : Hid (InsInv xs (i + 1) (i + 1)) := hv.out.done hk (.inr ⟨j, rfl, by rw [hx0, hx1]; omega⟩)
            have hp2 : cmpF x1 x0 = 1 ∨ cmpF x1 x0 = 0 := by
              rcases Nat.lt_or_eq_of_le (Nat.le_of_not_lt hlt2) with h | h
              · exact .inl (cmpF_ltf h).2
              · exact .inr (cmpF_eqf h.symm)
            clear hv hlt2 hx0 hx1 hxl
            rcases hp2 with hp2 | hp2
            all_goals
              have HP := Lib.hid hp2
              clear hp2
              go_wp2
              go_quiet ((go_at_call 38; exact rcmp_quiet HP.out _ _))
              go_wp2
              exact ⟨⟨i + 1, xs, by omega, by omega, by go_num, hp, HD, ho.out.drewN _, below_drewN hbl.out _⟩, by simp [intOf]; omega⟩
    · have hil2 : i = l.length := by omega
      have hR := Lib.hid (RSL.of hp0.out hv0.out (by rw [hp0.out.length_eq]; omega))
      go_wp2
      go_ret
      exact ⟨_, xs0, rfl, hR.out, ho0.out, hbl0.out⟩

set_option maxHeartbeats 400000 in
theorem rsort_nil (a : Option Addr) (cap : Nat) (w : World) (h : Sl encF w (.slice a 0 cap) ([] : List Nat)) :
    Calls Try.prog 27 #[.slice a 0 cap] w fun e w' => ∃ v' m, e = .returned v' ∧ RSL [] m ∧ OwnF w' w.heap.size v' m ∧ Below w.heap.size w w' := by
  have HS := Lib.hid h
  clear h
  generalize hB : w.heap.size = B
  have hB0 : Hid (B ≤ w.heap.size) := Nat.le_of_eq hB.symm
  clear hB
  go_enter Try.func27, Try.ntmps27
  go_wp2_with (at_builtin; go_must (refine wpList_appF rfl _ _ rfl B (.slice (some ⟨w.heap.size, 0, none⟩) 0 0) [] rfl (OwnF.empty (by exact heap_alloc_new w _) hB0.out) (.slice a 0 cap) [] rfl (HS.out.below (Nat.le_refl _) ((Below.refl _ _).alloc (Nat.le_refl _) _)) ?c1 ?c2 ?c3))
  case c1 => simp
  case c2 => simp; have := hB0.out; omega
  intro v1 w1 ho1 hg1
  have hb1 : Hid (Below B w w1) := OwnF.below (OwnF.empty (by exact heap_alloc_new w _) hB0.out) hg1 ((Below.refl _ _).alloc hB0.out _) (Nat.le_refl _) (by simp; have := hB0.out; omega)
  have HO1 : Hid (OwnF w1 B v1 []) := ho1
  have hv : ∃ a1 c1, v1 = .slice a1 0 c1 := by
    obtain ⟨_, h | ⟨g, c, cur, h, _⟩⟩ := ho1
    · exact ⟨_, _, h.1⟩
    · exact ⟨_, _, h⟩
  clear ho1 hg1
  obtain ⟨a1, c1, rfl⟩ := hv
  go_wp2
  go_loop [4] (fun iv => iv = .int .i64 1) (fun _ => 0)
  case atStart => rfl
  case round =>
    subst hrel
    go_wp2
    go_ret
    exact ⟨_, rfl, [], ⟨List.Perm.refl _, List.Pairwise.nil⟩, HO1.out, hb1.out⟩

theorem rsort_any (v : Value) (l : List Nat) (hl : l.length * 8 ≤ 140737488351232) (w : World) (h : Sl encF w v l) :
    Calls Try.prog 27 #[v] w fun e w' => ∃ v' m, e = .returned v' ∧ RSL l m ∧ OwnF w' w.heap.size v' m ∧ Below w.heap.size w w' := by
  obtain ⟨a, cap, rfl, _⟩ := id h
  by_cases h0 : l = []
  · subst h0; exact rsort_nil a cap w h
  · exact rsort_some a cap l (List.length_pos_iff.2 h0) hl w h
end Go.Proofs.Ytfnchcafebomlaa
