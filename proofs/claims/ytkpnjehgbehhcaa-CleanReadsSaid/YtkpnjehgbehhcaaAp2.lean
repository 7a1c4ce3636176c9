/- extmap's Apply: where it refuses. -/
import Derived.Test.YtkpnjehgbehhcaaApp
namespace Go.Proofs.Ytkpnjehgbehhcaa
open Go.RowKit

theorem cell_block_lt {w : World} {a : Addr} {v : Value} (h : w.cell? a = some v) : a.block < w.heap.size := by
  rcases Nat.lt_or_ge a.block w.heap.size with h' | h'
  · exact h'
  · simp [World.cell?, Array.getElem?_eq_none h'] at h
theorem cell_keep {w w' : World} {a : Addr} {v : Value} (h : w.cell? a = some v) (hb : Below w.heap.size w w') : w'.cell? a = some v := by
  rw [hb.cell (p := a) (cell_block_lt h)]; exact h

/-- what Apply reads -/
def ApS (A p b : Nat) (tm last : Int) (pv : Value) (l : List Pt) (w : World) : Prop :=
  w.cell? ⟨A, 0, none⟩ = some (.int .i64 tm) ∧ w.cell? ⟨A, 1, none⟩ = some pv ∧ w.cell? ⟨p, 0, none⟩ = some (.int .i64 30) ∧ w.cell? ⟨p, 1, none⟩ = some (.map (some b)) ∧ w.cell? ⟨p, 2, none⟩ = some (.int .i64 last) ∧ SlP w pv l
theorem ApS.keep {A p b : Nat} {tm last : Int} {pv : Value} {l : List Pt} {w w' : World} (h : ApS A p b tm last pv l w) (hb : Below w.heap.size w w') : ApS A p b tm last pv l w' :=
  ⟨cell_keep h.1 hb, cell_keep h.2.1 hb, cell_keep h.2.2.1 hb, cell_keep h.2.2.2.1 hb, cell_keep h.2.2.2.2.1 hb, h.2.2.2.2.2.below hb⟩
theorem ApS.drewN {A p b : Nat} {tm last : Int} {pv : Value} {l : List Pt} {w : World} (h : ApS A p b tm last pv l w) (n : Nat) : ApS A p b tm last pv l (w.drewN n) := h
/-- does Apply take a transaction in? -/
def okA (last tm : Int) (l : List Pt) : Bool :=
  decide (last < tm) && decide (tm ≤ 1099511627776) && riseP l && inB (l.getD 0 (0, 0)).1 && inB (l.getD (l.length - 1) (0, 0)).1 && fortyN l l.length

theorem riseP_pos {l : List Pt} (h : riseP l = true) : 0 < l.length := by
  unfold riseP at h
  simp only [Bool.and_eq_true, decide_eq_true_eq] at h
  exact h.2

set_option maxHeartbeats 3200000 in
set_option maxRecDepth 16000 in
theorem app_no {B p : Nat} {V : Int → List Int} {last : Int} {n : Nat} (tm : Int) (a : Option Addr) (cap : Nat) (l : List Pt) (w : World) (h : Mp w B p V last n) (hl : SlP w (.slice a l.length cap) l) (hno : okA last tm l = false) :
    Calls Try.prog 28 #[.pointer (some ⟨p, 0, none⟩), .agg #[.int .i64 tm, .slice a l.length cap]] w fun e w' => (∃ r, e = .returned (.int .i64 r)) ∧ Below w.heap.size w w' := by
  obtain ⟨_, c0, ⟨b, c1, _⟩, c2⟩ := h.cells
  have hbl : Hid (Below w.heap.size w (w.alloc (.cells #[.int .i64 tm, .slice a l.length cap] 68))) := (Below.refl _ _).alloc (Nat.le_refl _) _
  have HS : Hid (ApS w.heap.size p b tm last (.slice a l.length cap) l (w.alloc (.cells #[.int .i64 tm, .slice a l.length cap] 68))) := ⟨World.cell?_alloc_at _ _ _ 0 rfl, World.cell?_alloc_at _ _ _ 1 rfl, cell_keep c0 hbl.out, cell_keep c1 hbl.out, cell_keep c2 hbl.out, hl.below hbl.out⟩
  have k0 := HS.out.1
  have k1 := HS.out.2.1
  have k2 := HS.out.2.2.1
  have k3 := HS.out.2.2.2.1
  have k4 := HS.out.2.2.2.2.1
  have hsz : Hid (w.heap.size ≤ (w.alloc (.cells #[.int .i64 tm, .slice a l.length cap] 68)).heap.size) := hbl.out.size
  have HC := Lib.hid (hl.rd rfl)
  have HO := Lib.hid hno
  obtain ⟨_, _, hcv, _, hcl, hcm⟩ := SlG.form hl
  simp only [Value.slice.injEq] at hcv
  obtain ⟨_, _, rfl⟩ := hcv
  rename_i q1 q2 q3 q4
  clear h hl c0 c1 c2 hno q1 q2 q3 q4
  by_cases hle : tm ≤ last
  · have hd : decide (tm ≤ last) = true := decide_eq_true hle
    go_enter Try.func28, Try.ntmps28
    go_wp2_with (first | (go_at_call 44; refine (gone_any p _ (by assumption)).mono ?_; rintro e w' ⟨rfl, rfl⟩) | fail)
    go_quiet (fail)
    go_wp2
    go_ret
    exact ⟨⟨11, rfl⟩, below_drewN hbl.out _⟩
  · have hd : decide (tm ≤ last) = false := decide_eq_false hle
    by_cases hgt : 1099511627776 < tm
    · have hd2 : decide (1099511627776 < tm) = true := decide_eq_true hgt
      go_enter Try.func28, Try.ntmps28
      go_wp2_with (first | (go_at_call 44; refine (gone_any p _ (by assumption)).mono ?_; rintro e w' ⟨rfl, rfl⟩) | fail)
      go_quiet (fail)
      go_wp2
      go_ret
      exact ⟨⟨11, rfl⟩, below_drewN hbl.out _⟩
    · have hd2 : decide (1099511627776 < tm) = false := decide_eq_false hgt
      cases hrise : riseP l with
      | false =>
        clear HO HC
        have HR := Lib.hid hrise
        clear hrise
        go_enter Try.func28, Try.ntmps28
        go_wp2_with (first | (go_at_call 44; refine (gone_any p _ (by assumption)).mono ?_; rintro e w' ⟨rfl, rfl⟩) | fail)
        go_quiet (fail)
        go_wp2_with (go_at_call 45; refine (rise_any _ l _ (by exact HS.out.2.2.2.2.2)).mono ?_; rintro e w1 ⟨rfl, hb1⟩; rw [HR.out]; have hb2 : Hid (Below w.heap.size w w1) := (below_drewN hbl.out _).trans (hb1.mono hsz.out); clear hb1)
        go_ret
        exact ⟨⟨1, rfl⟩, hb2.out⟩
      | true =>
        have HR := Lib.hid hrise
        have hpos := riseP_pos hrise
        obtain ⟨j, hj⟩ : ∃ j, l.length = j + 1 := ⟨l.length - 1, by omega⟩
        obtain ⟨bb, oo, _, _, _, rfl, _, hf0⟩ := HC.out 0 hpos
        obtain ⟨bb', oo', _, _, _, hbo, _, hfj⟩ := HC.out j (by omega)
        simp only [Option.some.injEq, Addr.mk.injEq] at hbo
        obtain ⟨rfl, rfl, _⟩ := hbo
        have HF0 : Hid (∀ w', Hid (Below w.heap.size w w') → w'.cell? ⟨bb, oo, none⟩ = some (.int .i64 (l.getD 0 (0, 0)).1)) := fun w' hb => by have := (hf0 w' hb).1; simpa using this
        have HFj : Hid (∀ w', Hid (Below w.heap.size w w') → w'.cell? ⟨bb, oo + j * 2, none⟩ = some (.int .i64 (l.getD j (0, 0)).1)) := fun w' hb => (hfj w' hb).1
        have HO2 : Hid (inB (l.getD 0 (0, 0)).1 = true → inB (l.getD j (0, 0)).1 = true → fortyN l l.length = true → False) := fun h1 h2 h3 => by
          have h4 := HO.out
          unfold okA at h4
          rw [hrise, h1, hj, show j + 1 - 1 = j by omega, h2, ← hj, h3, decide_eq_true (by omega : last < tm), decide_eq_true (by omega : tm ≤ 1099511627776)] at h4
          cases h4
        have HFT : Hid (fortyN l l.length = fortyN l l.length) := rfl
        rename_i q1 q2 q3 q4 q5 q6 q7 q8 q9
        clear hf0 hfj HC HO hrise hpos q1 q2 q3 q4 q5 q6 q7 q8 q9
        have HJ := Lib.hid hj
        rw [hj] at k1 HS hbl hsz k0 k2 k3 k4 hcl
        rw [hj]
        clear hj
        generalize (l.getD 0 (0, 0)).1 = p0 at *
        generalize (l.getD j (0, 0)).1 = pj at *
        cases h0 : inB p0 with
        | false =>
          go_enter Try.func28, Try.ntmps28
          go_wp2_with (first | (go_at_call 44; refine (gone_any p _ (by assumption)).mono ?_; rintro e w' ⟨rfl, rfl⟩) | fail)
          go_quiet (fail)
          go_wp2_with (first
            | (go_at_call 45; refine (rise_any _ l _ (by exact HS.out.2.2.2.2.2)).mono ?_; rintro e w1 ⟨rfl, hb1⟩; rw [HR.out]; have HS1 : Hid (ApS w.heap.size p b tm last (.slice (some ⟨bb, oo, none⟩) (j + 1) cap) l w1) := ApS.keep (ApS.drewN HS.out _) hb1; have hb2 : Hid (Below w.heap.size w w1) := (below_drewN hbl.out _).trans (hb1.mono hsz.out); have hsz1 : Hid (w.heap.size ≤ w1.heap.size) := hb2.out.size; clear hb1; have e0 := HS1.out.1; have e1 := HS1.out.2.1; have e2 := HS1.out.2.2.1; have e3 := HS1.out.2.2.2.1; have e4 := HS1.out.2.2.2.2.1; have g0 := HF0.out w1 hb2; have gj := HFj.out w1 hb2)
            | (go_at_call 35; refine (block_any p _ _ (by assumption)).mono ?_; rintro e w' ⟨rfl, rfl⟩)
            | (go_at_call 46; refine (cfp_any _ l _ HS1.out.2.2.2.2.2).mono ?_; rintro e w2 ⟨rfl, hb1⟩; rw [HFo.out]; have hb3 : Hid (Below w.heap.size w w2) := hb2.out.trans (hb1.mono hsz1.out); clear hb1)
            | fail)
          go_ret
          exact ⟨⟨2, rfl⟩, hb2.out⟩
        | true =>
          cases hjj : inB pj with
          | false =>
            go_enter Try.func28, Try.ntmps28
            go_wp2_with (first | (go_at_call 44; refine (gone_any p _ (by assumption)).mono ?_; rintro e w' ⟨rfl, rfl⟩) | fail)
            go_quiet (fail)
            go_wp2_with (first
              | (go_at_call 45; refine (rise_any _ l _ (by exact HS.out.2.2.2.2.2)).mono ?_; rintro e w1 ⟨rfl, hb1⟩; rw [HR.out]; have HS1 : Hid (ApS w.heap.size p b tm last (.slice (some ⟨bb, oo, none⟩) (j + 1) cap) l w1) := ApS.keep (ApS.drewN HS.out _) hb1; have hb2 : Hid (Below w.heap.size w w1) := (below_drewN hbl.out _).trans (hb1.mono hsz.out); have hsz1 : Hid (w.heap.size ≤ w1.heap.size) := hb2.out.size; clear hb1; have e0 := HS1.out.1; have e1 := HS1.out.2.1; have e2 := HS1.out.2.2.1; have e3 := HS1.out.2.2.2.1; have e4 := HS1.out.2.2.2.2.1; have g0 := HF0.out w1 hb2; have gj := HFj.out w1 hb2)
              | (go_at_call 35; refine (block_any p _ _ (by assumption)).mono ?_; rintro e w' ⟨rfl, rfl⟩)
              | (go_at_call 46; refine (cfp_any _ l _ HS1.out.2.2.2.2.2).mono ?_; rintro e w2 ⟨rfl, hb1⟩; rw [HFo.out]; have hb3 : Hid (Below w.heap.size w w2) := hb2.out.trans (hb1.mono hsz1.out); clear hb1)
              | fail)
            go_ret
            exact ⟨⟨2, rfl⟩, hb2.out⟩
          | true =>
            have HFo : Hid (fortyN l l.length = false) := by
              cases h3 : fortyN l l.length
              · rfl
              · exact (HO2.out h0 hjj h3).elim
            go_enter Try.func28, Try.ntmps28
            go_wp2_with (first | (go_at_call 44; refine (gone_any p _ (by assumption)).mono ?_; rintro e w' ⟨rfl, rfl⟩) | fail)
            go_quiet (fail)
            go_wp2_with (first
              | (go_at_call 45; refine (rise_any _ l _ (by exact HS.out.2.2.2.2.2)).mono ?_; rintro e w1 ⟨rfl, hb1⟩; rw [HR.out]; have HS1 : Hid (ApS w.heap.size p b tm last (.slice (some ⟨bb, oo, none⟩) (j + 1) cap) l w1) := ApS.keep (ApS.drewN HS.out _) hb1; have hb2 : Hid (Below w.heap.size w w1) := (below_drewN hbl.out _).trans (hb1.mono hsz.out); have hsz1 : Hid (w.heap.size ≤ w1.heap.size) := hb2.out.size; clear hb1; have e0 := HS1.out.1; have e1 := HS1.out.2.1; have e2 := HS1.out.2.2.1; have e3 := HS1.out.2.2.2.1; have e4 := HS1.out.2.2.2.2.1; have g0 := HF0.out w1 hb2; have gj := HFj.out w1 hb2)
              | (go_at_call 35; refine (block_any p _ _ (by assumption)).mono ?_; rintro e w' ⟨rfl, rfl⟩)
              | (go_at_call 46; refine (cfp_any _ l _ HS1.out.2.2.2.2.2).mono ?_; rintro e w2 ⟨rfl, hb1⟩; rw [HFo.out]; have hb3 : Hid (Below w.heap.size w w2) := hb2.out.trans (hb1.mono hsz1.out); clear hb1)
              | fail)
            go_ret
            exact ⟨⟨3, rfl⟩, hb3.out⟩
end Go.Proofs.Ytkpnjehgbehhcaa
