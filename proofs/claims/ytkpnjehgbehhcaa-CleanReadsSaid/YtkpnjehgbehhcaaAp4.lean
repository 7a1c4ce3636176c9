/- extmap's Apply, where it takes a transaction in: the walk. -/
import Derived.Test.YtkpnjehgbehhcaaAp3
import Derived.Deep.RegionHeld3
namespace Go.Proofs.Ytkpnjehgbehhcaa
open Go.RowKit Go.MapKept

/-- what a round begins with -/
def LS (B p n A : Nat) (V : Int → List Int) (l : List Pt) (tm last : Int) (pv : Value) (w0 : World) (k : Nat) (wr : World) : Prop :=
  Mp wr B p (addN V l tm k) last (n + k) ∧ KeepF w0 wr ∧ Below B w0 wr ∧ wr.heap[A]? = some (Obj.cells #[.int .i64 tm, pv] 68 (0, 0))

theorem Mp.alloc {w : World} {B p : Nat} {V : Int → List Int} {last : Int} {n : Nat} (h : Mp w B p V last n) (o : Obj) : Mp (w.alloc o) B p V last n := h.below ((Below.refl _ _).alloc (Nat.le_refl _) _)

set_option maxHeartbeats 6400000 in
set_option maxRecDepth 16000 in
theorem app_yes {B p : Nat} {V : Int → List Int} {last : Int} {n : Nat} (tm : Int) (a : Option Addr) (cap : Nat) (l : List Pt) (w : World) (h : Mp w B p V last n) (hl : ∀ w', Hid (Below B w w') → SlP w' (.slice a l.length cap) l) (hB : B ≤ w.heap.size)
    (hok : okA last tm l = true) (hnn : n + l.length < 1000000) (hin : ∀ k, k < l.length → 0 ≤ (l.getD k (0, 0)).1 ∧ (l.getD k (0, 0)).1 < 30) (h40 : ∀ k, k < l.length → (l.getD k (0, 0)).2 = 40) :
    Calls Try.prog 28 #[.pointer (some ⟨p, 0, none⟩), .agg #[.int .i64 tm, .slice a l.length cap]] w fun e w' => e = .returned (.int .i64 0) ∧ Mp w' B p (addN V l tm l.length) tm (n + l.length) ∧ KeepF w w' ∧ Below B w w' := by
  have hbw : Hid (Below B w w) := Below.refl _ _
  have hl0 := hl w hbw
  obtain ⟨_, c0, ⟨b, c1, _⟩, c2⟩ := h.cells
  have hbl : Hid (Below w.heap.size w (w.alloc (.cells #[.int .i64 tm, .slice a l.length cap] 68))) := (Below.refl _ _).alloc (Nat.le_refl _) _
  have HS : Hid (ApS w.heap.size p b tm last (.slice a l.length cap) l (w.alloc (.cells #[.int .i64 tm, .slice a l.length cap] 68))) := ⟨World.cell?_alloc_at _ _ _ 0 rfl, World.cell?_alloc_at _ _ _ 1 rfl, cell_keep c0 hbl.out, cell_keep c1 hbl.out, cell_keep c2 hbl.out, hl0.below hbl.out⟩
  have k0 := HS.out.1
  have k1 := HS.out.2.1
  have k2 := HS.out.2.2.1
  have k3 := HS.out.2.2.2.1
  have k4 := HS.out.2.2.2.2.1
  have hsz : Hid (w.heap.size ≤ (w.alloc (.cells #[.int .i64 tm, .slice a l.length cap] 68)).heap.size) := hbl.out.size
  have HC := Lib.hid (hl0.rd rfl)
  have HMp := Lib.hid h
  have HP := Lib.hid hl
  have HB := Lib.hid hB
  have HIN := Lib.hid hin
  have H40 := Lib.hid h40
  have HNN := Lib.hid hnn
  unfold okA at hok
  simp only [Bool.and_eq_true, decide_eq_true_eq] at hok
  obtain ⟨⟨⟨⟨⟨ho1, ho2⟩, hrise⟩, h0⟩, hjj⟩, hforty⟩ := hok
  obtain ⟨_, _, hcv, _, hcl, hcm⟩ := SlG.form hl0
  simp only [Value.slice.injEq] at hcv
  obtain ⟨_, _, rfl⟩ := hcv
  rename_i q1 q2 q3 q4
  clear h hl hl0 hB hnn hin h40 c0 c1 c2 q1 q2 q3 q4
  have hd : decide (tm ≤ last) = false := decide_eq_false (by omega)
  have hd2 : decide (1099511627776 < tm) = false := decide_eq_false (by omega)
  have HR := Lib.hid hrise
  have hpos := riseP_pos hrise
  obtain ⟨j, hj⟩ : ∃ j, l.length = j + 1 := ⟨l.length - 1, by omega⟩
  obtain ⟨bb, oo, _, _, _, rfl, _, hf0⟩ := HC.out 0 hpos
  obtain ⟨bb', oo', _, _, _, hbo, _, hfj⟩ := HC.out j (by omega)
  simp only [Option.some.injEq, Addr.mk.injEq] at hbo
  obtain ⟨rfl, rfl, _⟩ := hbo
  have HF0 : Hid (∀ w', Hid (Below w.heap.size w w') → w'.cell? ⟨bb, oo, none⟩ = some (.int .i64 (l.getD 0 (0, 0)).1)) := fun w' hb => by have := (hf0 w' hb).1; simpa using this
  have HFj : Hid (∀ w', Hid (Below w.heap.size w w') → w'.cell? ⟨bb, oo + j * 2, none⟩ = some (.int .i64 (l.getD j (0, 0)).1)) := fun w' hb => (hfj w' hb).1
  have HFo : Hid (fortyN l l.length = true) := hforty
  rename_i q1 q2 q3 q4 q5 q6 q7 q8 q9
  clear hf0 hfj HC hrise hpos ho1 ho2 hforty q1 q2 q3 q4 q5 q6 q7 q8 q9
  have HJ := Lib.hid hj
  rw [hj, show j + 1 - 1 = j by omega] at hjj
  rw [hj] at k1 HS hbl hsz k0 k2 k3 k4 hcl HP
  rw [hj]
  clear hj
  have hA0 : Hid ((w.alloc (.cells #[.int .i64 tm, .slice (some ⟨bb, oo, none⟩) (j + 1) cap] 68)).heap[w.heap.size]? = some (Obj.cells #[.int .i64 tm, .slice (some ⟨bb, oo, none⟩) (j + 1) cap] 68 (0, 0))) := heap_alloc_new w _
  have hltA : Hid (w.heap.size < (w.alloc (.cells #[.int .i64 tm, .slice (some ⟨bb, oo, none⟩) (j + 1) cap] 68)).heap.size) := by show _ < _; simp
  generalize (l.getD 0 (0, 0)).1 = p0 at *
  generalize (l.getD j (0, 0)).1 = pj at *
  go_enter Try.func28, Try.ntmps28
  go_wp2_with (first | (go_at_call 44; refine (gone_any p _ (by assumption)).mono ?_; rintro e w' ⟨rfl, rfl⟩) | fail)
  go_quiet (fail)
  go_wp2_with (first
    | (go_at_call 45; refine (rise_any _ l _ (by exact HS.out.2.2.2.2.2)).mono ?_; rintro e w1 ⟨rfl, hb1⟩; rw [HR.out]; have HS1 : Hid (ApS w.heap.size p b tm last (.slice (some ⟨bb, oo, none⟩) (j + 1) cap) l w1) := ApS.keep (ApS.drewN HS.out _) hb1; have hb2 : Hid (Below w.heap.size w w1) := (below_drewN hbl.out _).trans (hb1.mono hsz.out); have hsz1 : Hid (w.heap.size ≤ w1.heap.size) := hb2.out.size; have hA1 : Hid (w1.heap[w.heap.size]? = some (Obj.cells #[.int .i64 tm, .slice (some ⟨bb, oo, none⟩) (j + 1) cap] 68 (0, 0))) := (hb1.block w.heap.size hltA.out).trans hA0.out; clear hb1; have e0 := HS1.out.1; have e1 := HS1.out.2.1; have e2 := HS1.out.2.2.1; have e3 := HS1.out.2.2.2.1; have e4 := HS1.out.2.2.2.2.1; have g0 := HF0.out w1 hb2; have gj := HFj.out w1 hb2)
    | (go_at_call 35; refine (block_any p _ _ (by assumption)).mono ?_; rintro e w' ⟨rfl, rfl⟩)
    | (go_at_call 46; refine (cfp_any _ l _ HS1.out.2.2.2.2.2).mono ?_; rintro e w2 ⟨rfl, hb1⟩; have HS2 : Hid (ApS w.heap.size p b tm last (.slice (some ⟨bb, oo, none⟩) (j + 1) cap) l w2) := ApS.keep HS1.out hb1; rw [HFo.out]; have hA2 : Hid (w2.heap[w.heap.size]? = some (Obj.cells #[.int .i64 tm, .slice (some ⟨bb, oo, none⟩) (j + 1) cap] 68 (0, 0))) := (hb1.block w.heap.size ((Array.getElem?_eq_some_iff.1 hA1.out).1)).trans hA1.out; have hb3 : Hid (Below w.heap.size w w2) := hb2.out.trans (hb1.mono hsz1.out); clear hb1; have y0 := HS2.out.1; have y1 := HS2.out.2.1)
    | fail)
  have HL0 : Hid (LS B p n w.heap.size V l tm last (.slice (some ⟨bb, oo, none⟩) (j + 1) cap) w 0 w2) := ⟨HMp.out.below hb3.out, KeepF.below hb3.out, hb3.out.mono HB.out, hA2.out⟩
  clear hA2 hb3 HS2 y0 y1 hA1 hb2 hsz1 HS1 e0 e1 e2 e3 e4 g0 gj hA0 hltA HF0 HFj HFo HR hjj h0 hd hd2 k0 k1 k2 k3 k4 hsz HS hbl
  go_loopw [58] (fun i wr => ∃ k : Nat, k ≤ j + 1 ∧ i = .int .i64 k ∧ Hid (LS B p n w.heap.size V l tm last (.slice (some ⟨bb, oo, none⟩) (j + 1) cap) w k wr)) (fun i _ => j + 1 - (intOf i).toNat)
  case atStart => exact ⟨0, Nat.zero_le _, rfl, HL0⟩
  case round =>
    obtain ⟨k, hk, rfl, hls⟩ := hrel
    by_cases hlt : k < j + 1
    · obtain ⟨hM, hK, hBl, hbx⟩ := hls.out
      have hkl : k < l.length := by rw [HJ.out]; exact hlt
      obtain ⟨b6, o6, u, x, c, ho6, rfl, hc6⟩ := (HP.out wr hBl).rd rfl k hkl
      simp only [Option.some.injEq, Addr.mk.injEq] at ho6
      obtain ⟨rfl, rfl, _⟩ := ho6
      obtain ⟨x0, x1, x2⟩ := hc6 wr (Below.refl _ _)
      have hin := HIN.out k hkl
      have hadd : Hid (addN V l tm (k + 1) = upd (addN V l tm k) (l.getD k (0, 0)).1 (addN V l tm k (l.getD k (0, 0)).1 ++ [tm])) := rfl
      rw [H40.out k hkl] at x1 x2
      have hlt2 : (k : Int) < ((j + 1 : Nat) : Int) := by omega
      generalize (l.getD k (0, 0)).1 = lba at *
      have hBr : B ≤ wr.heap.size := Nat.le_trans HB.out hBl.size
      have hb0 : Below wr.heap.size wr (wr.alloc (.cells #[.int .i64 lba, .slice x 40 c] 65)) := (Below.refl _ _).alloc (Nat.le_refl _) _
      have HBp := Lib.hid hM.1
      obtain ⟨_, b', hp1, hMa⟩ := hM.alloc (.cells #[.int .i64 lba, .slice x 40 c] 65)
      obtain ⟨es, clock, v, hes, hat0, ⟨rs, hrs, hrow, hD⟩, hlook⟩ := look_at hMa hin
      have HLK : Hid (∀ w' : World, w'.heap[b']? = some (Obj.map es clock) → (Instr.lookup 87 (.map (some b')) (.int .i64 lba) false).run Try.prog w' = .ok (lkOf b' lba w') w') := fun w' h => (lk_run (hlook w' h)).1
      have HLV : Hid (∀ w' : World, w'.heap[b']? = some (Obj.map es clock) → lkOf b' lba w' = v) := fun w' h => (lk_run (hlook w' h)).2
      have HES := Lib.hid hes
      have HB0 := Lib.hid (x2.below hb0)
      have hs0 : Hid (B ≤ (wr.alloc (.cells #[.int .i64 lba, .slice x 40 c] 65)).heap.size) := Nat.le_trans hBr hb0.size
      have HPK : Hid (KeepF w (wr.alloc (.cells #[.int .i64 lba, .slice x 40 c] 65)) ∧ Below B w (wr.alloc (.cells #[.int .i64 lba, .slice x 40 c] 65))) := ⟨hK.trans (KeepF.below hb0), hBl.trans (hb0.mono hBr)⟩
      have z0 : (wr.alloc (.cells #[.int .i64 lba, .slice x 40 c] 65)).cell? ⟨p, 1, none⟩ = some (.map (some b')) := by simp [World.cell?, hp1]
      have z1 : (wr.alloc (.cells #[.int .i64 lba, .slice x 40 c] 65)).cell? ⟨w.heap.size, 0, none⟩ = some (.int .i64 tm) := cell_keep (by simp [World.cell?, hbx]) hb0
      have z2 : (wr.alloc (.cells #[.int .i64 lba, .slice x 40 c] 65)).cell? ⟨wr.heap.size, 0, none⟩ = some (.int .i64 lba) := World.cell?_alloc_at _ _ _ 0 rfl
      have z3 : (wr.alloc (.cells #[.int .i64 lba, .slice x 40 c] 65)).cell? ⟨wr.heap.size, 1, none⟩ = some (.slice x 40 c) := World.cell?_alloc_at _ _ _ 1 rfl
      have hbx0 : Hid ((wr.alloc (.cells #[.int .i64 lba, .slice x 40 c] 65)).heap[w.heap.size]? = some (Obj.cells #[.int .i64 tm, .slice (some ⟨bb, oo, none⟩) (j + 1) cap] 68 (0, 0))) := by
        show _ = _
        rw [hb0.block _ (Array.getElem?_eq_some_iff.1 hbx).1]; exact hbx
      have hrl : rs.length ≤ 1000000 := by
        have h1 := congrArg List.length hrs
        rw [List.length_map] at h1
        have h2 := hMa.2.choose_spec.choose_spec.2.2.2.2.2.2 lba
        have := HNN.out
        omega
      have HA6 : Hid ((wr.alloc (.cells #[.int .i64 lba, .slice x 40 c] 65)).heap[wr.heap.size]? = some (Obj.cells #[.int .i64 lba, .slice x 40 c] 65 (0, 0))) := heap_alloc_new wr _
      have HMa := Lib.hid hMa
      have HP1 := Lib.hid hp1
      have HAT := Lib.hid hat0
      have HRS := Lib.hid hrs
      have HROW := Lib.hid hrow
      have HD := Lib.hid hD
      have hss : Hid (wr.heap.size < (wr.alloc (.cells #[.int .i64 lba, .slice x 40 c] 65)).heap.size) := by show _ < _; simp
      have HIn := Lib.hid hin
      rename_i q1 q2
      clear hMa hp1 hat0 hrs hrow hD hlook hes hM hK hBl hbx hb0 hBr x2 hc6 hin hls hkl q1 q2
      go_wp2
      generalize (wr.alloc (.cells #[.int .i64 lba, .slice x 40 c] 65)) = w0 at *
      generalize hA6 : wr.heap.size = A6 at *
      clear hA6
      go_region_held3 (fun w' => w'.cell? ⟨p, 1, none⟩ = some (.map (some b')) ∧ w'.cell? ⟨w.heap.size, 0, none⟩ = some (.int .i64 tm) ∧ w'.cell? ⟨A6, 0, none⟩ = some (.int .i64 lba) ∧ w'.cell? ⟨A6, 1, none⟩ = some (.slice x 40 c) ∧
          (Instr.lookup 87 (.map (some b')) (.int .i64 lba) false).run Try.prog w' = .ok (lkOf b' lba w') w')
        (first
          | exact ⟨z0, z1, z2, z3, HLK.out _ HES.out⟩
          | exact ⟨y0, y1, y2, y3, HLK.out _ HES3.out⟩
          | exact ⟨cell_keep y0 ((Below.refl _ _).alloc (Nat.le_refl _) _), cell_keep y1 ((Below.refl _ _).alloc (Nat.le_refl _) _), cell_keep y2 ((Below.refl _ _).alloc (Nat.le_refl _) _), cell_keep y3 ((Below.refl _ _).alloc (Nat.le_refl _) _),
              HLK.out _ ((((Below.refl _ _).alloc (Nat.le_refl _) _).block _ (Array.getElem?_eq_some_iff.1 HES3.out).1).trans HES3.out)⟩
          | exact ⟨v0, v1, vv2, vv3, HLK.out _ HES4.out⟩
          | exact ⟨t0, t1, t2, t3, HL5.out⟩)
        (first
          | (go_at_call 37; refine (clone_any _ 40 (by decide) _ (by exact HB0.out)).mono ?_; rintro e w3 ⟨⟨v2, rfl, xs2, hv2, hx2⟩, hb3⟩
             have hd3 : Dat w3 B v2 := ⟨xs2, ownsRow_mono hv2 (by exact hs0.out), hx2⟩
             obtain ⟨g2, cap2, rfl, _, _⟩ := hd3.form
             have HD3 := Lib.hid hd3
             have HB3 : Hid (Below w0.heap.size w0 w3) := ⟨hb3.os, hb3.tape, hb3.output, hb3.size, hb3.block⟩
             have y0 := cell_keep z0 HB3.out
             have y1 := cell_keep z1 HB3.out
             have y2 := cell_keep z2 HB3.out
             have y3 := cell_keep z3 HB3.out
             have HES3 : Hid (w3.heap[b']? = some (Obj.map es clock)) := (HB3.out.block _ (Array.getElem?_eq_some_iff.1 HES.out).1).trans HES.out
             clear hd3 hb3 hv2 hx2)
          | (refine step_appG rfl (.tmp 74) (.tmp 81) B 86 85 (.agg #[.int .i64 0, .slice none 0 0]) 2 32 rfl Try.underlying86 infoV rfl (by decide) v rs.length (flatV rs) (by simp [Act.eval]; first | exact HLV.out _ HES.out | exact HLV.out _ HES3.out | exact HLV.out _ ((((Below.refl _ _).alloc (Nat.le_refl _) _).block _ (Array.getElem?_eq_some_iff.1 HES3.out).1).trans HES3.out))
               (ownsRow_keep HROW.out (fun g hg => (HB3.out.alloc HB3.out.size _).block g (Array.getElem?_eq_some_iff.1 (ownsRow_block HROW.out hg).2.choose_spec).1)) _ 1 [.int .i64 tm, .slice (some ⟨g2, 0, none⟩) 40 cap2] (by simp [Act.eval]) (Src.new w3 [.int .i64 tm, .slice (some ⟨g2, 0, none⟩) 40 cap2] 85 1) rfl
               (by intro u hu; simp at hu; rcases hu with rfl | rfl <;> rfl) (by omega) (by unfold maxLen; omega) (by have := hs0.out; have := HB3.out.size; simp; omega) ?_
             intro v' w4 ho hg hat
             have hbal : Below w0.heap.size w0 (w3.alloc (.cells #[.int .i64 tm, .slice (some ⟨g2, 0, none⟩) 40 cap2] 85)) := HB3.out.alloc HB3.out.size _
             have HES4 : Hid (w4.heap[b']? = some (Obj.map es clock)) := far_keep HROW.out hbal hg HES.out (by intro cur h; cases h)
             obtain ⟨w5, hrun5, hMa5, hK5, hB5, hg5⟩ := round_facts HMa.out (by have := HNN.out; have := HJ.out; omega) HIn.out HAT.out HRS.out HROW.out HD.out hs0.out hbal (HD3.out.below ((Below.refl _ _).alloc (Nat.le_refl _) _)) ho hg hat
             have r1 := far_keep HROW.out hbal hg HP1.out (by intro cur h; simp at h)
             have r2 := far_keep HROW.out hbal hg hbx0.out (by intro cur h; simp at h)
             have r3 := far_keep HROW.out hbal hg HA6.out (by intro cur h; simp at h)
             have far5 : ∀ (g : Nat) (cs : Array Value) (t : TypeId), w4.heap[g]? = some (Obj.cells cs t (0, 0)) → w5.heap[g]? = some (Obj.cells cs t (0, 0)) := fun g cs t h => (hg5.block g (Array.getElem?_eq_some_iff.1 h).1 (fun e => by obtain rfl := Option.some.inj e; rw [HES4.out] at h; cases h)).trans h
             have v0 : w4.cell? ⟨p, 1, none⟩ = some (.map (some b')) := cell_of r1 rfl
             have v1 : w4.cell? ⟨w.heap.size, 0, none⟩ = some (.int .i64 tm) := cell_of r2 rfl
             have vv2 : w4.cell? ⟨A6, 0, none⟩ = some (.int .i64 lba) := cell_of r3 rfl
             have vv3 : w4.cell? ⟨A6, 1, none⟩ = some (.slice x 40 c) := cell_of r3 rfl
             have t0 : w5.cell? ⟨p, 1, none⟩ = some (.map (some b')) := cell_of (far5 _ _ _ r1) rfl
             have t1 : w5.cell? ⟨w.heap.size, 0, none⟩ = some (.int .i64 tm) := cell_of (far5 _ _ _ r2) rfl
             have t2 : w5.cell? ⟨A6, 0, none⟩ = some (.int .i64 lba) := cell_of (far5 _ _ _ r3) rfl
             have t3 : w5.cell? ⟨A6, 1, none⟩ = some (.slice x 40 c) := cell_of (far5 _ _ _ r3) rfl
             have HQ5 := Lib.hid (far5 _ _ _ r1)
             have HQ6 := Lib.hid (far5 _ _ _ r2)
             have HL5 : Hid ((Instr.lookup 87 (.map (some b')) (.int .i64 lba) false).run Try.prog w5 = .ok (lkOf b' lba w5) w5) := (lk_run (hMa5.look HIn.out).choose_spec.1).1
             have HMa5 := Lib.hid hMa5
             have HK5 := Lib.hid hK5
             have HB5 := Lib.hid hB5
             clear ho hg hat hbal hMa5 hK5 hB5 hg5 far5 r1 r2 r3))
      all_goals
        have HLn : Hid (LS B p n w.heap.size V l tm last (.slice (some ⟨bb, oo, none⟩) (j + 1) cap) w (k + 1) w5) := by
          show LS _ _ _ _ _ _ _ _ _ _ _ _
          exact ⟨⟨HBp.out, b', HQ5.out, by rw [hadd.out]; exact HMa5.out⟩, HPK.out.1.trans HK5.out, HPK.out.2.trans HB5.out, HQ6.out⟩
        rename_i hheld
        clear hheld t0 t1 t2 t3 v0 v1 vv2 vv3 y0 y1 y2 y3 z0 z1 z2 z3 hrun5 HL5 HMa5
        go_wp2
        exact ⟨⟨k + 1, by omega, by go_num, HLn⟩, by simp [intOf]; omega⟩
    · obtain ⟨hM, hK, hBl, hbx⟩ := hls.out
      have hkj : k = l.length := by rw [HJ.out]; omega
      have hM2 := hM.setLast tm
      have HF : Hid (Mp (wr.setCell ⟨p, 2, none⟩ (.int .i64 tm)) B p (addN V l tm l.length) tm (n + l.length) ∧ KeepF w (wr.setCell ⟨p, 2, none⟩ (.int .i64 tm)) ∧ Below B w (wr.setCell ⟨p, 2, none⟩ (.int .i64 tm))) := by
        rw [hkj] at hM2
        exact ⟨hM2.1, hK.trans hM2.2.1, hM2.2.2 w hBl⟩
      obtain ⟨_, q1, hp1, q2⟩ := hM
      clear q2
      have z0 : wr.cell? ⟨p, 2, none⟩ = some (.int .i64 last) := by simp [World.cell?, hp1]
      have z1 : wr.frozen? ⟨p, 2, none⟩ = false := by simp [World.frozen?, hp1]
      have z2 : wr.cell? ⟨w.heap.size, 0, none⟩ = some (.int .i64 tm) := by simp [World.cell?, hbx]
      clear hM2 hK hBl hbx hls hp1 hkj
      go_wp2
      go_ret
      have h5 := HF.out
      rw [HJ.out] at h5
      exact ⟨rfl, h5⟩
end Go.Proofs.Ytkpnjehgbehhcaa
