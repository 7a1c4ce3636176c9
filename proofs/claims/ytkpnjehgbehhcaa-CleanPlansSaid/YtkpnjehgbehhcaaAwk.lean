/- What the document fixes (awake). -/
import Derived.Test.YtkpnjehgbehhcaaDta
import Derived.Test.YtkpnjehgbehhcaaMde
import Derived.Test.YtkpnjehgbehhcaaNxt
namespace Go.Proofs.Ytkpnjehgbehhcaa
open Go.RowKit Fl

theorem SlG.new {w : World} {k n : Nat} {cs : List Value} {t : TypeId} {p : Nat → Nat → Value → Prop} (hn : n ≤ 1000000) (h : ∀ i j, i < n → j < k → ∃ u, cs[i * k + j]? = some u ∧ p i j u) : SlG (w.alloc (.cells cs.toArray t)) k (.slice (some ⟨w.heap.size, 0, none⟩) n n) n p := by
  refine ⟨_, n, rfl, (fun h => by cases h), Nat.le_refl _, by omega, fun i hi => ⟨w.heap.size, 0, rfl, by simp, fun j hj => ?_⟩⟩
  obtain ⟨u, h1, h2⟩ := h i j hi hj
  refine ⟨u, ?_, h2⟩
  rw [Nat.zero_add, World.cell?_alloc_at _ _ _ _ rfl]
  simpa using h1
theorem SlP.one {w : World} {v : Value} {n : Nat} {x : Int} (h : SlB w v n) (t : TypeId) : SlP (w.alloc (.cells #[.int .i64 x, v] t)) (.slice (some ⟨w.heap.size, 0, none⟩) 1 1) [(x, n)] := by
  refine SlG.new (cs := [.int .i64 x, v]) (by decide) fun i j hi hj => ?_
  have hi0 : i = 0 := by simpa using hi
  subst hi0
  match j, hj with
  | 0, _ => exact ⟨_, rfl, .inl ⟨rfl, rfl⟩⟩
  | 1, _ => exact ⟨_, rfl, .inr ⟨rfl, h.below ((Below.refl _ _).alloc (Nat.le_refl _) _)⟩⟩
theorem SlT.two {w : World} {u v : Value} {x y : Int} {k l : List Pt} (h : SlP w u k) (g : SlP w v l) (t : TypeId) : SlT (w.alloc (.cells #[.int .i64 x, u, .int .i64 y, v] t)) (.slice (some ⟨w.heap.size, 0, none⟩) 2 2) [(x, k), (y, l)] := by
  refine SlG.new (cs := [.int .i64 x, u, .int .i64 y, v]) (by decide) fun i j hi hj => ?_
  have hi2 : i < 2 := hi
  match i, j, hi2, hj with
  | 0, 0, _, _ => exact ⟨_, rfl, .inl ⟨rfl, rfl⟩⟩
  | 0, 1, _, _ => exact ⟨_, rfl, .inr ⟨rfl, h.below ((Below.refl _ _).alloc (Nat.le_refl _) _)⟩⟩
  | 1, 0, _, _ => exact ⟨_, rfl, .inl ⟨rfl, rfl⟩⟩
  | 1, 1, _, _ => exact ⟨_, rfl, .inr ⟨rfl, g.below ((Below.refl _ _).alloc (Nat.le_refl _) _)⟩⟩
theorem SlC.one (w : World) (x y : Int) (t : TypeId) : SlC (w.alloc (.cells #[.int .i64 x, .int .i64 y] t)) (.slice (some ⟨w.heap.size, 0, none⟩) 1 1) [(x, y)] := by
  refine SlG.new (cs := [.int .i64 x, .int .i64 y]) (by decide) fun i j hi hj => ?_
  have hi0 : i = 0 := by simpa using hi
  subst hi0
  match j, hj with
  | 0, _ => exact ⟨_, rfl, .inl ⟨rfl, rfl⟩⟩
  | 1, _ => exact ⟨_, rfl, .inr ⟨rfl, rfl⟩⟩
theorem SlR.two {w : World} {u v : Value} {k l : List Cp} (h : SlC w u k) (g : SlC w v l) (t : TypeId) : SlR (w.alloc (.cells #[u, v] t)) (.slice (some ⟨w.heap.size, 0, none⟩) 2 2) [k, l] := by
  refine SlG.new (cs := [u, v]) (by decide) fun i j hi hj => ?_
  have hi2 : i < 2 := hi
  match i, j, hi2, hj with
  | 0, 0, _, _ => exact ⟨_, rfl, h.below ((Below.refl _ _).alloc (Nat.le_refl _) _)⟩
  | 1, 0, _, _ => exact ⟨_, rfl, g.below ((Below.refl _ _).alloc (Nat.le_refl _) _)⟩

def awT : List Tx := [(1, [(0, 40)]), (2, [(0, 40)])]
def awL : List (List Cp) := [[(0, 1)], [(0, 2)]]
theorem aw_full : fullZ (stV awT 2).1 1 2 awL 2 = [(0, 1, 1), (1, 1, 2)] ∧ fullN awL 1 2 = [0, 1] ∧ fitN awL 1 2 = true ∧ liveV (stV awT 2).1 (0, 2) 2 = true ∧ movesV (stV awT 2).1 2 [(0, 1)] = [] := by decide +kernel
theorem aw_ok : (List.range 2).filter (okB [(0, 1, 1), (1, 1, 2)] 9) = [0] := by decide +kernel
theorem aw_rank : nextR (stV awT 2).1 awL 1 2 9 = [0] := by
  have h := nextR_is (stV awT 2).1 awL 1 2 9
  rw [show awL.length = 2 from rfl, aw_full.1] at h
  refine h.unique ⟨?_, List.pairwise_singleton _ _⟩
  show [0].Perm ((List.range 2).filter (okB [(0, 1, 1), (1, 1, 2)] 9))
  rw [aw_ok]
theorem aw_next : nextE (stV awT 2).1 awL 1 2 9 = 0 ∧ nextZ (stV awT 2).1 awL 1 2 9 = 0 ∧ nextM (stV awT 2).1 awL 1 2 9 = [] ∧ nextD (stV awT 2).1 awL 1 2 9 = 1 := by
  have e : nextE (stV awT 2).1 awL 1 2 9 = 0 := by
    unfold nextE nextA
    rw [aw_rank, show awL.length = 2 from rfl, aw_full.2.2.1]
    rfl
  have k : nextK (stV awT 2).1 awL 1 2 9 = 0 := by
    unfold nextK
    rw [aw_rank, show awL.length = 2 from rfl, aw_full.2.1]
    rfl
  have m := aw_full.2.2.2.2
  refine ⟨e, ?_, ?_, ?_⟩
  · unfold nextZ; rw [if_pos e, k]
  · unfold nextM; rw [if_pos e, k]; exact m
  · unfold nextD
    rw [if_pos e, k, show awL.getD 0 [] = [(0, 1)] from rfl, m]
    rfl

set_option maxHeartbeats 3200000 in
set_option maxRecDepth 16000 in
theorem awake20_any (w : World) : Calls Try.prog 9 #[] w fun e w' => e = .returned (.bool true) ∧ Below w.heap.size w w' := by
  go_enter Try.func9, Try.ntmps9
  go_wp2_with fail
  refine (data_any 1 (by decide) _).mono ?_
  rintro e w1 ⟨⟨v1, rfl, hd1⟩, hb1⟩
  obtain ⟨g1, c1, rfl, hq1, hq2⟩ := hd1.form
  have HD1 := Lib.hid hd1
  have HB1 := Lib.hid hb1
  clear hd1 hb1 hq1 hq2
  go_wp2_with fail
  refine (data_any 2 (by decide) _).mono ?_
  rintro e w2 ⟨⟨v2, rfl, hd2⟩, hb2⟩
  obtain ⟨g2, c2, rfl, hq1, hq2⟩ := hd2.form
  have HP1 : Hid (SlP w2 (.slice (some ⟨w1.heap.size, 0, none⟩) 1 1) [(0, 40)]) := (SlP.one HD1.out.slb _).below hb2
  have HD2 := Lib.hid hd2
  have HB2 : Hid (Below w.heap.size w w2) := (HB1.out.alloc HB1.out.size _).trans (hb2.mono (by have := HB1.out.size; simp; omega))
  clear hd2 hb2 hq1 hq2 HD1 HB1
  go_wp2_with fail
  have HT : Hid (SlT ((w2.alloc (.cells #[.int .i64 0, .slice (some ⟨g2, 0, none⟩) 40 c2] 65)).alloc (.cells #[.int .i64 1, .slice (some ⟨w1.heap.size, 0, none⟩) 1 1, .int .i64 2, .slice (some ⟨w2.heap.size, 0, none⟩) 1 1] 68)) (.slice (some ⟨w2.heap.size + 1, 0, none⟩) 2 2) awT) := by
    have h5 := SlT.two (x := 1) (y := 2) (HP1.out.below ((Below.refl _ _).alloc (Nat.le_refl _) (.cells #[.int .i64 0, .slice (some ⟨g2, 0, none⟩) 40 c2] 65))) (SlP.one (x := 0) HD2.out.slb 65) 68
    rw [show (w2.alloc (.cells #[.int .i64 0, .slice (some ⟨g2, 0, none⟩) 40 c2] 65)).heap.size = w2.heap.size + 1 by simp] at h5
    exact h5
  have HB3 : Hid (Below w.heap.size w ((w2.alloc (.cells #[.int .i64 0, .slice (some ⟨g2, 0, none⟩) 40 c2] 65)).alloc (.cells #[.int .i64 1, .slice (some ⟨w1.heap.size, 0, none⟩) 1 1, .int .i64 2, .slice (some ⟨w2.heap.size, 0, none⟩) 1 1] 68))) :=
    (HB2.out.alloc HB2.out.size _).alloc (by have := HB2.out.size; simp; omega) _
  refine (made_any _ awT (by decide) _ HT.out).mono ?_
  rintro e w3 ⟨⟨m, x, rfl, hm, _⟩, hb3⟩
  have HM := Lib.hid hm
  have HB4 : Hid (Below w.heap.size w w3) := HB3.out.trans (hb3.mono HB3.out.size)
  clear hm hb3 HB3 HT HP1 HD2 HB2
  go_wp2_with fail
  have HR : Hid (SlR (((w3.alloc (.cells #[.int .i64 0, .int .i64 1] 33)).alloc (.cells #[.int .i64 0, .int .i64 2] 33)).alloc (.cells #[.slice (some ⟨w3.heap.size, 0, none⟩) 1 1, .slice (some ⟨w3.heap.size + 1, 0, none⟩) 1 1] 31)) (.slice (some ⟨w3.heap.size + 1 + 1, 0, none⟩) 2 2) awL) := by
    have h6 := SlC.one (w3.alloc (.cells #[.int .i64 0, .int .i64 1] 33)) 0 2 33
    have h5 := SlR.two ((SlC.one w3 0 1 33).below ((Below.refl _ _).alloc (Nat.le_refl _) (.cells #[.int .i64 0, .int .i64 2] 33))) h6 31
    rw [show ((w3.alloc (.cells #[.int .i64 0, .int .i64 1] 33)).alloc (.cells #[.int .i64 0, .int .i64 2] 33)).heap.size = w3.heap.size + 1 + 1 by simp, show (w3.alloc (.cells #[.int .i64 0, .int .i64 1] 33)).heap.size = w3.heap.size + 1 by simp] at h5
    exact h5
  have HB5 : Hid (Below w3.heap.size w3 (((w3.alloc (.cells #[.int .i64 0, .int .i64 1] 33)).alloc (.cells #[.int .i64 0, .int .i64 2] 33)).alloc (.cells #[.slice (some ⟨w3.heap.size, 0, none⟩) 1 1, .slice (some ⟨w3.heap.size + 1, 0, none⟩) 1 1] 31))) :=
    (((Below.refl _ _).alloc (Nat.le_refl _) _).alloc (by simp) _).alloc (by simp; omega) _
  refine (next_any _ awL (by decide) (by decide) 1 2 9 _ HR.out (HM.out.below HB5.out)).mono ?_
  rintro e w4 ⟨⟨mv, rfl, hmv⟩, hb4⟩
  obtain ⟨e1, e2, e3, e4⟩ := aw_next
  have ev : (stV awT awT.length).1 = (stV awT 2).1 := rfl
  rw [ev, e3] at hmv
  rw [ev, e1, e2, e4]
  obtain ⟨am, cm, rfl⟩ := hmv.form
  have HB6 : Hid (Below w3.heap.size w3 w4) := HB5.out.trans (hb4.mono HB5.out.size)
  clear hmv hb4 e1 e2 e3 e4 ev HR HB5
  have HW : Hid (Below w.heap.size w (w4.alloc (.cells #[.int .i64 0, .slice am 0 cm, .int .i64 1] 37))) := by
    have h5 := HB4.out.trans (HB6.out.mono HB4.out.size)
    exact h5.alloc h5.size _
  have HL := Lib.hid (live_any (0, 2) 2 _ (HM.out.below (HB6.out.alloc HB6.out.size (.cells #[.int .i64 0, .slice am 0 cm, .int .i64 1] 37))))
  have hlv : Hid (liveV (stV awT awT.length).1 (0, 2) 2 = true) := aw_full.2.2.2.1
  rw [hlv.out] at HL
  go_wp2_with (first
    | (go_at_call 12; refine HL.out.mono ?_; rintro e w5 ⟨rfl, hb5⟩
       have HB7 : Hid (Below w.heap.size w w5) := HW.out.trans (hb5.mono HW.out.size)
       clear hb5)
    | fail)
  go_ret
  exact ⟨rfl, HB7.out⟩
end Go.Proofs.Ytkpnjehgbehhcaa
