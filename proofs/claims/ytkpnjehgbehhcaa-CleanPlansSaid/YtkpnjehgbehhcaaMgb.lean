/- extmap's Apply: the pieces that only read. extmap's Apply: where it refuses. extmap's Apply, where it takes a transaction in: what stays, what a round is. extmap's Apply, where it takes a transaction in: the walk. extmap's Apply, whatever it is handed. -/
import Derived.Test.YtkpnjehgbehhcaaMga
import Derived.Deep.RegionHeld3
namespace Go.Proofs.Ytkpnjehgbehhcaa
open Go.RowKit

/-- do the first k LBAs rise? -/
def riseN (l : List Pt) : Nat → Bool
  | 0 => true
  | k + 1 => riseN l k && (k == 0 || decide ((l.getD (k - 1) (0, 0)).1 < (l.getD k (0, 0)).1))
def riseP (l : List Pt) : Bool := riseN l l.length && decide (0 < l.length)
theorem riseN_le {l : List Pt} {k : Nat} (h : riseN l k = true) : ∀ j, j ≤ k → riseN l j = true := by
  induction k with
  | zero => intro j hj; obtain rfl : j = 0 := by omega
            exact h
  | succ k ih =>
    intro j hj
    rcases Nat.lt_or_ge j (k + 1) with h' | h'
    · unfold riseN at h
      simp only [Bool.and_eq_true] at h
      exact ih h.1 j (by omega)
    · obtain rfl : j = k + 1 := by omega
      exact h

/-- an int of the first field, in every later world -/
def RdP (w : World) (B : Nat) (a : Option Addr) (l : List Pt) : Prop := ∀ i, i < l.length → ∃ b o u x c, a = some ⟨b, o, none⟩ ∧ u = .slice x (l.getD i (0, 0)).2 c ∧
  ∀ w', Hid (Below B w w') → w'.cell? ⟨b, o + i * 2, none⟩ = some (.int .i64 (l.getD i (0, 0)).1) ∧ w'.cell? ⟨b, o + i * 2 + 1, none⟩ = some u ∧ SlB w' u (l.getD i (0, 0)).2
theorem SlP.rd {w : World} {a : Option Addr} {m cap : Nat} {l : List Pt} (h : SlP w (.slice a m cap) l) {B : Nat} (hB : w.heap.size = B) : RdP w B a l := fun i hi => by
  obtain ⟨b, o, u, h1, h2, h3, h4, h5⟩ := h.at rfl hi
  obtain ⟨x, c, rfl⟩ := h5.form'
  refine ⟨b, o, _, x, c, h1, rfl, fun w' hb => ⟨?_, ?_, h5.below (by rw [hB]; exact hb.out)⟩⟩
  · rw [hb.out.cell (p := ⟨b, o + i * 2, none⟩) (by rw [← hB]; exact h2)]; exact h3
  · rw [hb.out.cell (p := ⟨b, o + i * 2 + 1, none⟩) (by rw [← hB]; exact h2)]; exact h4

set_option maxHeartbeats 1600000 in
set_option maxRecDepth 8000 in
theorem rise_any (v : Value) (l : List Pt) (w : World) (h : SlP w v l) :
    Calls Try.prog 45 #[v] w fun e w' => e = .returned (.bool (riseP l)) ∧ Below w.heap.size w w' := by
  obtain ⟨a, cap, rfl, ha, hle, hcap⟩ := SlG.form h
  generalize hB : w.heap.size = B
  have HC := Lib.hid (h.rd hB)
  have hb00 : Hid (Below B w w) := Below.refl B w
  have HR : Hid (∀ k, riseN l (k + 1) = (riseN l k && (k == 0 || decide ((l.getD (k - 1) (0, 0)).1 < (l.getD k (0, 0)).1)))) := fun k => rfl
  have HL : Hid (∀ {k}, riseN l k = true → ∀ j, j ≤ k → riseN l j = true) := fun h => riseN_le h
  have HP : Hid (riseP l = (riseN l l.length && decide (0 < l.length))) := rfl
  clear h hB
  go_enter Try.func45, Try.ntmps45
  go_wp2
  go_loopw [3] (fun i wr => ∃ k : Nat, 1 ≤ k ∧ (k ≤ l.length ∨ k = 1) ∧ i = .int .i64 k ∧ Hid (riseN l k = true) ∧ Hid (Below B w wr)) (fun i _ => l.length - (intOf i).toNat)
  case atStart => exact ⟨1, Nat.le_refl _, .inr rfl, rfl, rfl, hb00⟩
  case round =>
    obtain ⟨k, h1, hk, rfl, hr, hb⟩ := hrel
    by_cases hlt : k < l.length
    · obtain ⟨b, o, u, x, c, rfl, rfl, hcell⟩ := HC.out k hlt
      obtain ⟨b', o', u', x', c', hbo, rfl, hcell'⟩ := HC.out (k - 1) (by omega)
      simp only [Option.some.injEq, Addr.mk.injEq] at hbo
      obtain ⟨rfl, rfl, _⟩ := hbo
      obtain ⟨c1, _, _⟩ := hcell wr hb
      obtain ⟨c2, _, _⟩ := hcell' wr hb
      have HR1 : Hid (riseN l (k + 1) = decide ((l.getD (k - 1) (0, 0)).1 < (l.getD k (0, 0)).1)) := by
        have h5 := HR.out k
        show _ = _
        rw [h5, hr.out, show (k == 0) = false from beq_eq_false_iff_ne.2 (by omega)]
        simp
      have hkz : ((k : Int) - 1) = ((k - 1 : Nat) : Int) := by omega
      generalize (l.getD k (0, 0)).1 = p1 at *
      generalize (l.getD (k - 1) (0, 0)).1 = p2 at *
      have hkl : ((k - 1 : Nat) : Int) < (l.length : Int) := by omega
      generalize k - 1 = j at *
      have hwr : IntKind.i64.wrap (j : Int) = (j : Int) := IntWalk.i64_in _ (by omega)
      have hlt2 : (k : Int) < (l.length : Int) := by omega
      clear HC HR hcell hcell'
      by_cases hp : p1 ≤ p2
      · have hf : Hid (riseP l = false) := by
          have h5 := HR1.out
          rw [decide_eq_false (by omega)] at h5
          show riseP l = false
          rw [HP.out]
          cases hq : riseN l l.length
          · rfl
          · have h6 := HL.out hq (k + 1) (by omega)
            rw [h5] at h6
            cases h6
        clear HL HP HR1
        go_wp2
        go_quiet (fail)
        go_wp2
        go_ret
        exact ⟨by rw [hf.out]; rfl, below_drewN hb.out _⟩
      · have hd : decide (p1 ≤ p2) = false := decide_eq_false hp
        have hr2 : Hid (riseN l (k + 1) = true) := by
          have h5 := HR1.out
          rw [decide_eq_true (by omega)] at h5
          exact h5
        clear HL HP HR1
        go_wp2
        go_quiet (fail)
        go_wp2
        exact ⟨⟨k + 1, by omega, .inl (by omega), by go_num, hr2.out, below_drewN hb.out _⟩, by simp [intOf]; omega⟩
    · have hf : Hid (riseP l = decide (0 < l.length)) := by
        show riseP l = _
        rw [HP.out]
        by_cases h0 : l.length = 0
        · rw [h0]; rfl
        · have : k = l.length := by omega
          rw [← this, hr.out]; rfl
      clear HC HR HL HP
      go_wp2
      go_ret
      exact ⟨by rw [hf.out]; rfl, hb.out⟩

theorem app1_any (k : Int) (x : Option Addr) (n c : Nat) (w : World) :
    Calls Try.prog 47 #[.agg #[.int .i64 k, .slice x n c]] w fun e w' => e = .returned (.bool ((n : Int) != 40)) ∧ Below w.heap.size w w' := by
  have hbl : Hid (Below w.heap.size w (w.alloc (.cells #[.int .i64 k, .slice x n c] 65))) := (Below.refl _ _).alloc (Nat.le_refl _) _
  go_enter Try.func47, Try.ntmps47
  go_wp2
  go_ret
  exact ⟨rfl, hbl.out⟩

/-- are the first k puts of forty bytes each? -/
def fortyN (l : List Pt) : Nat → Bool
  | 0 => true
  | k + 1 => fortyN l k && !(((l.getD k (0, 0)).2 : Int) != 40)
theorem fortyN_le {l : List Pt} {k : Nat} (h : fortyN l k = true) : ∀ j, j ≤ k → fortyN l j = true := by
  induction k with
  | zero => intro j hj; obtain rfl : j = 0 := by omega
            exact h
  | succ k ih =>
    intro j hj
    rcases Nat.lt_or_ge j (k + 1) with h' | h'
    · unfold fortyN at h
      simp only [Bool.and_eq_true] at h
      exact ih h.1 j (by omega)
    · obtain rfl : j = k + 1 := by omega
      exact h
/-- what IndexFunc returns -/
def IxR (l : List Pt) (e : Ending) : Prop := ∃ r : Int, e = .returned (.int .i64 r) ∧ decide (0 ≤ r) = !fortyN l l.length ∧ -1 ≤ r

set_option maxHeartbeats 1600000 in
set_option maxRecDepth 8000 in
theorem ixp_any (v : Value) (l : List Pt) (w : World) (h : SlP w v l) :
    Calls Try.prog 56 #[v, .func (.func 47) #[] #[]] w fun e w' => IxR l e ∧ Below w.heap.size w w' := by
  obtain ⟨a, cap, rfl, ha, hle, hcap⟩ := SlG.form h
  generalize hB : w.heap.size = B
  have hB0 : Hid (B ≤ w.heap.size) := Nat.le_of_eq hB.symm
  have HC := Lib.hid (h.rd hB)
  have hb00 : Hid (Below B w w) := Below.refl B w
  have HR : Hid (∀ k, fortyN l (k + 1) = (fortyN l k && !(((l.getD k (0, 0)).2 : Int) != 40))) := fun k => rfl
  have HL : Hid (∀ {k}, fortyN l k = true → ∀ j, j ≤ k → fortyN l j = true) := fun h => fortyN_le h
  clear h hB
  go_enter Try.func56, Try.ntmps56
  go_wp2
  go_loopw [8] (fun i wr => ∃ k : Nat, k ≤ l.length ∧ i = .int .i64 k ∧ Hid (fortyN l k = true) ∧ Hid (Below B w wr)) (fun i _ => l.length - (intOf i).toNat)
  case atStart => exact ⟨0, Nat.zero_le _, rfl, rfl, hb00⟩
  case round =>
    obtain ⟨k, hk, rfl, hr, hb⟩ := hrel
    by_cases hlt : k < l.length
    · obtain ⟨b, o, u, x, c, rfl, rfl, hcell⟩ := HC.out k hlt
      obtain ⟨c1, c2, _⟩ := hcell wr hb
      have hS : Hid (B ≤ wr.heap.size) := Nat.le_trans hB0.out hb.out.size
      have HR1 : Hid (fortyN l (k + 1) = !(((l.getD k (0, 0)).2 : Int) != 40)) := by
        have h5 := HR.out k
        show _ = _
        rw [h5, hr.out]
        simp
      have hlt2 : (k : Int) < (l.length : Int) := by omega
      rename_i q
      clear HC HR hcell q
      generalize (l.getD k (0, 0)).2 = m at *
      generalize (l.getD k (0, 0)).1 = p1 at *
      by_cases hm : ((m : Int) != 40) = true
      · have hf : Hid (fortyN l l.length = false) := by
          have h5 := HR1.out
          rw [hm] at h5
          show _ = false
          cases hq : fortyN l l.length
          · rfl
          · have h6 := HL.out hq (k + 1) (by omega)
            rw [h5] at h6
            cases h6
        clear HL HR1
        go_wp2_with (go_at_call 47; refine (app1_any p1 x m c _).mono ?_; rintro e w1 ⟨rfl, hb1⟩; have hb2 : Hid (Below B w w1) := hb.out.trans (hb1.mono hS.out); clear hb1)
        go_ret
        refine ⟨⟨(k : Int), rfl, ?_, by omega⟩, hb2.out⟩
        rw [hf.out, decide_eq_true (by omega : (0 : Int) ≤ k)]
        rfl
      · have hm0 : ((m : Int) != 40) = false := by simpa using hm
        have hr2 : Hid (fortyN l (k + 1) = true) := by
          have h5 := HR1.out
          rw [hm0] at h5
          exact h5
        clear HL HR1 hm
        go_wp2_with (go_at_call 47; refine (app1_any p1 x m c _).mono ?_; rintro e w1 ⟨rfl, hb1⟩; have hb2 : Hid (Below B w w1) := hb.out.trans (hb1.mono hS.out); clear hb1)
        exact ⟨⟨k + 1, by omega, by go_num, hr2.out, hb2.out⟩, by simp [intOf]; omega⟩
    · have hf : Hid (fortyN l l.length = true) := by
        have : k = l.length := by omega
        rw [← this]; exact hr
      clear HC HR HL
      go_wp2
      go_ret
      exact ⟨⟨-1, rfl, by rw [hf.out]; rfl, Int.le_refl _⟩, hb.out⟩

theorem cfp_any (v : Value) (l : List Pt) (w : World) (h : SlP w v l) :
    Calls Try.prog 46 #[v, .func (.func 47) #[] #[]] w fun e w' => e = .returned (.bool (!fortyN l l.length)) ∧ Below w.heap.size w w' := by
  have CI := Lib.hid (ixp_any v l w h)
  clear h
  go_enter Try.func46, Try.ntmps46
  go_wp2_with (go_at_call 56; refine CI.out.mono ?_; rintro e w1 ⟨⟨r, rfl, hr, hr1⟩, hb1⟩; have HR := Lib.hid hr; have HB := Lib.hid hb1; clear hr hb1)
  trace_state
  go_ret
  exact ⟨by rw [← HR.out]; rfl, HB.out⟩
end Go.Proofs.Ytkpnjehgbehhcaa
namespace Go.Proofs.Ytkpnjehgbehhcaa
open Go.RowKit

theorem cell_block_lt {w : World} {a : Addr} {v : Value} (h : w.cell? a = some v) : a.block < w.heap.size := by
  rcases Nat.lt_or_ge a.block w.heap.size with h' | h'
  · exact h'
  · simp [World.cell?, Array.getElem?_eq_none h'] at h
theorem cell_keep {w w' : World} {a : Addr} {v : Value} (h : w.cell? a = some v) (hb : Below w.heap.size w w') : w'.cell? a = some v := by
  rw [hb.cell (p := a) (cell_block_lt h)]; exact h

/-- what Apply reads -/
def ApS (A p b : Nat) (tm last : Int) (pv : Value) (l : List Pt) (w : World) : Prop :=
  w.cell? ⟨A, 0, none⟩ = some (.int .i64 tm) ∧ w.cell? ⟨A, 1, none⟩ = some pv ∧ w.cell? ⟨p, 0, none⟩ = some (.int .i64 30) ∧ w.cell? ⟨p, 1, none⟩ = some (.map (some b)) ∧ w.cell? ⟨p, 2, none⟩ = some (.int .i64 last) ∧ SlP w pv l
theorem ApS.keep {A p b : Nat} {tm last : Int} {pv : Value} {l : List Pt} {w w' : World} (h : ApS A p b tm last pv l w) (hb : Below w.heap.size w w') : ApS A p b tm last pv l w' :=
  ⟨cell_keep h.1 hb, cell_keep h.2.1 hb, cell_keep h.2.2.1 hb, cell_keep h.2.2.2.1 hb, cell_keep h.2.2.2.2.1 hb, h.2.2.2.2.2.below hb⟩
theorem ApS.drewN {A p b : Nat} {tm last : Int} {pv : Value} {l : List Pt} {w : World} (h : ApS A p b tm last pv l w) (n : Nat) : ApS A p b tm last pv l (w.drewN n) := h
/-- does Apply take a transaction in? -/
def okA (last tm : Int) (l : List Pt) : Bool :=
  decide (last < tm) && decide (tm ≤ 1099511627776) && riseP l && inB (l.getD 0 (0, 0)).1 && inB (l.getD (l.length - 1) (0, 0)).1 && fortyN l l.length

theorem riseP_pos {l : List Pt} (h : riseP l = true) : 0 < l.length := by
  unfold riseP at h
  simp only [Bool.and_eq_true, decide_eq_true_eq] at h
  exact h.2

set_option maxHeartbeats 3200000 in
set_option maxRecDepth 16000 in
theorem app_no {B p : Nat} {V : Int → List Int} {last : Int} {n : Nat} (tm : Int) (a : Option Addr) (cap : Nat) (l : List Pt) (w : World) (h : Mp w B p V last n) (hl : SlP w (.slice a l.length cap) l) (hno : okA last tm l = false) :
    Calls Try.prog 28 #[.pointer (some ⟨p, 0, none⟩), .agg #[.int .i64 tm, .slice a l.length cap]] w fun e w' => (∃ r, e = .returned (.int .i64 r)) ∧ Below w.heap.size w w' := by
  obtain ⟨_, c0, ⟨b, c1, _⟩, c2⟩ := h.cells
  have hbl : Hid (Below w.heap.size w (w.alloc (.cells #[.int .i64 tm, .slice a l.length cap] 68))) := (Below.refl _ _).alloc (Nat.le_refl _) _
  have HS : Hid (ApS w.heap.size p b tm last (.slice a l.length cap) l (w.alloc (.cells #[.int .i64 tm, .slice a l.length cap] 68))) := ⟨World.cell?_alloc_at _ _ _ 0 rfl, World.cell?_alloc_at _ _ _ 1 rfl, cell_keep c0 hbl.out, cell_keep c1 hbl.out, cell_keep c2 hbl.out, hl.below hbl.out⟩
  have k0 := HS.out.1
  have k1 := HS.out.2.1
  have k2 := HS.out.2.2.1
  have k3 := HS.out.2.2.2.1
  have k4 := HS.out.2.2.2.2.1
  have hsz : Hid (w.heap.size ≤ (w.alloc (.cells #[.int .i64 tm, .slice a l.length cap] 68)).heap.size) := hbl.out.size
  have HC := Lib.hid (hl.rd rfl)
  have HO := Lib.hid hno
  obtain ⟨_, _, hcv, _, hcl, hcm⟩ := SlG.form hl
  simp only [Value.slice.injEq] at hcv
  obtain ⟨_, _, rfl⟩ := hcv
  rename_i q1 q2 q3 q4
  clear h hl c0 c1 c2 hno q1 q2 q3 q4
  by_cases hle : tm ≤ last
  · have hd : decide (tm ≤ last) = true := decide_eq_true hle
    go_enter Try.func28, Try.ntmps28
    go_wp2_with (first | (go_at_call 44; refine (gone_any p _ (by assumption)).mono ?_; rintro e w' ⟨rfl, rfl⟩) | fail)
    go_quiet (fail)
    go_wp2
    go_ret
    exact ⟨⟨11, rfl⟩, below_drewN hbl.out _⟩
  · have hd : decide (tm ≤ last) = false := decide_eq_false hle
    by_cases hgt : 1099511627776 < tm
    · have hd2 : decide (1099511627776 < tm) = true := decide_eq_true hgt
      go_enter Try.func28, Try.ntmps28
      go_wp2_with (first | (go_at_call 44; refine (gone_any p _ (by assumption)).mono ?_; rintro e w' ⟨rfl, rfl⟩) | fail)
      go_quiet (fail)
      go_wp2
      go_ret
      exact ⟨⟨11, rfl⟩, below_drewN hbl.out _⟩
    · have hd2 : decide (1099511627776 < tm) = false := decide_eq_false hgt
      cases hrise : riseP l with
      | false =>
        clear HO HC
        have HR := Lib.hid hrise
        clear hrise
        go_enter Try.func28, Try.ntmps28
        go_wp2_with (first | (go_at_call 44; refine (gone_any p _ (by assumption)).mono ?_; rintro e w' ⟨rfl, rfl⟩) | fail)
        go_quiet (fail)
        go_wp2_with (go_at_call 45; refine (rise_any _ l _ (by exact HS.out.2.2.2.2.2)).mono ?_; rintro e w1 ⟨rfl, hb1⟩; rw [HR.out]; have hb2 : Hid (Below w.heap.size w w1) := (below_drewN hbl.out _).trans (hb1.mono hsz.out); clear hb1)
        go_ret
        exact ⟨⟨1, rfl⟩, hb2.out⟩
      | true =>
        have HR := Lib.hid hrise
        have hpos := riseP_pos hrise
        obtain ⟨j, hj⟩ : ∃ j, l.length = j + 1 := ⟨l.length - 1, by omega⟩
        obtain ⟨bb, oo, _, _, _, rfl, _, hf0⟩ := HC.out 0 hpos
        obtain ⟨bb', oo', _, _, _, hbo, _, hfj⟩ := HC.out j (by omega)
        simp only [Option.some.injEq, Addr.mk.injEq] at hbo
        obtain ⟨rfl, rfl, _⟩ := hbo
        have HF0 : Hid (∀ w', Hid (Below w.heap.size w w') → w'.cell? ⟨bb, oo, none⟩ = some (.int .i64 (l.getD 0 (0, 0)).1)) := fun w' hb => by have := (hf0 w' hb).1; simpa using this
        have HFj : Hid (∀ w', Hid (Below w.heap.size w w') → w'.cell? ⟨bb, oo + j * 2, none⟩ = some (.int .i64 (l.getD j (0, 0)).1)) := fun w' hb => (hfj w' hb).1
        have HO2 : Hid (inB (l.getD 0 (0, 0)).1 = true → inB (l.getD j (0, 0)).1 = true → fortyN l l.length = true → False) := fun h1 h2 h3 => by
          have h4 := HO.out
          unfold okA at h4
          rw [hrise, h1, hj, show j + 1 - 1 = j by omega, h2, ← hj, h3, decide_eq_true (by omega : last < tm), decide_eq_true (by omega : tm ≤ 1099511627776)] at h4
          cases h4
        have HFT : Hid (fortyN l l.length = fortyN l l.length) := rfl
        rename_i q1 q2 q3 q4 q5 q6 q7 q8 q9
        clear hf0 hfj HC HO hrise hpos q1 q2 q3 q4 q5 q6 q7 q8 q9
        have HJ := Lib.hid hj
        rw [hj] at k1 HS hbl hsz k0 k2 k3 k4 hcl
        rw [hj]
        clear hj
        generalize (l.getD 0 (0, 0)).1 = p0 at *
        generalize (l.getD j (0, 0)).1 = pj at *
        cases h0 : inB p0 with
        | false =>
          go_enter Try.func28, Try.ntmps28
          go_wp2_with (first | (go_at_call 44; refine (gone_any p _ (by assumption)).mono ?_; rintro e w' ⟨rfl, rfl⟩) | fail)
          go_quiet (fail)
          go_wp2_with (first
            | (go_at_call 45; refine (rise_any _ l _ (by exact HS.out.2.2.2.2.2)).mono ?_; rintro e w1 ⟨rfl, hb1⟩; rw [HR.out]; have HS1 : Hid (ApS w.heap.size p b tm last (.slice (some ⟨bb, oo, none⟩) (j + 1) cap) l w1) := ApS.keep (ApS.drewN HS.out _) hb1; have hb2 : Hid (Below w.heap.size w w1) := (below_drewN hbl.out _).trans (hb1.mono hsz.out); have hsz1 : Hid (w.heap.size ≤ w1.heap.size) := hb2.out.size; clear hb1; have e0 := HS1.out.1; have e1 := HS1.out.2.1; have e2 := HS1.out.2.2.1; have e3 := HS1.out.2.2.2.1; have e4 := HS1.out.2.2.2.2.1; have g0 := HF0.out w1 hb2; have gj := HFj.out w1 hb2)
            | (go_at_call 35; refine (block_any p _ _ (by assumption)).mono ?_; rintro e w' ⟨rfl, rfl⟩)
            | (go_at_call 46; refine (cfp_any _ l _ HS1.out.2.2.2.2.2).mono ?_; rintro e w2 ⟨rfl, hb1⟩; rw [HFo.out]; have hb3 : Hid (Below w.heap.size w w2) := hb2.out.trans (hb1.mono hsz1.out); clear hb1)
            | fail)
          go_ret
          exact ⟨⟨2, rfl⟩, hb2.out⟩
        | true =>
          cases hjj : inB pj with
          | false =>
            go_enter Try.func28, Try.ntmps28
            go_wp2_with (first | (go_at_call 44; refine (gone_any p _ (by assumption)).mono ?_; rintro e w' ⟨rfl, rfl⟩) | fail)
            go_quiet (fail)
            go_wp2_with (first
              | (go_at_call 45; refine (rise_any _ l _ (by exact HS.out.2.2.2.2.2)).mono ?_; rintro e w1 ⟨rfl, hb1⟩; rw [HR.out]; have HS1 : Hid (ApS w.heap.size p b tm last (.slice (some ⟨bb, oo, none⟩) (j + 1) cap) l w1) := ApS.keep (ApS.drewN HS.out _) hb1; have hb2 : Hid (Below w.heap.size w w1) := (below_drewN hbl.out _).trans (hb1.mono hsz.out); have hsz1 : Hid (w.heap.size ≤ w1.heap.size) := hb2.out.size; clear hb1; have e0 := HS1.out.1; have e1 := HS1.out.2.1; have e2 := HS1.out.2.2.1; have e3 := HS1.out.2.2.2.1; have e4 := HS1.out.2.2.2.2.1; have g0 := HF0.out w1 hb2; have gj := HFj.out w1 hb2)
              | (go_at_call 35; refine (block_any p _ _ (by assumption)).mono ?_; rintro e w' ⟨rfl, rfl⟩)
              | (go_at_call 46; refine (cfp_any _ l _ HS1.out.2.2.2.2.2).mono ?_; rintro e w2 ⟨rfl, hb1⟩; rw [HFo.out]; have hb3 : Hid (Below w.heap.size w w2) := hb2.out.trans (hb1.mono hsz1.out); clear hb1)
              | fail)
            go_ret
            exact ⟨⟨2, rfl⟩, hb2.out⟩
          | true =>
            have HFo : Hid (fortyN l l.length = false) := by
              cases h3 : fortyN l l.length
              · rfl
              · exact (HO2.out h0 hjj h3).elim
            go_enter Try.func28, Try.ntmps28
            go_wp2_with (first | (go_at_call 44; refine (gone_any p _ (by assumption)).mono ?_; rintro e w' ⟨rfl, rfl⟩) | fail)
            go_quiet (fail)
            go_wp2_with (first
              | (go_at_call 45; refine (rise_any _ l _ (by exact HS.out.2.2.2.2.2)).mono ?_; rintro e w1 ⟨rfl, hb1⟩; rw [HR.out]; have HS1 : Hid (ApS w.heap.size p b tm last (.slice (some ⟨bb, oo, none⟩) (j + 1) cap) l w1) := ApS.keep (ApS.drewN HS.out _) hb1; have hb2 : Hid (Below w.heap.size w w1) := (below_drewN hbl.out _).trans (hb1.mono hsz.out); have hsz1 : Hid (w.heap.size ≤ w1.heap.size) := hb2.out.size; clear hb1; have e0 := HS1.out.1; have e1 := HS1.out.2.1; have e2 := HS1.out.2.2.1; have e3 := HS1.out.2.2.2.1; have e4 := HS1.out.2.2.2.2.1; have g0 := HF0.out w1 hb2; have gj := HFj.out w1 hb2)
              | (go_at_call 35; refine (block_any p _ _ (by assumption)).mono ?_; rintro e w' ⟨rfl, rfl⟩)
              | (go_at_call 46; refine (cfp_any _ l _ HS1.out.2.2.2.2.2).mono ?_; rintro e w2 ⟨rfl, hb1⟩; rw [HFo.out]; have hb3 : Hid (Below w.heap.size w w2) := hb2.out.trans (hb1.mono hsz1.out); clear hb1)
              | fail)
            go_ret
            exact ⟨⟨3, rfl⟩, hb3.out⟩
end Go.Proofs.Ytkpnjehgbehhcaa
namespace Go.Proofs.Ytkpnjehgbehhcaa
open Go.RowKit Go.MapKept

/-- all blocks stay, but maps, extmap's head and rows of versions -/
def KeepF (w w' : World) : Prop := w.heap.size ≤ w'.heap.size ∧ ∀ (g : Nat) (o : Obj), w.heap[g]? = some o → (∀ es c, o ≠ Obj.map es c) → (∀ cur, o ≠ Obj.cells cur 89 (0, 0)) → (∀ cur, o ≠ Obj.cells cur 85 (0, 0)) → w'.heap[g]? = some o
theorem KeepF.refl (w : World) : KeepF w w := ⟨Nat.le_refl _, fun _ _ h _ _ _ => h⟩
theorem KeepF.trans {a b c : World} (h : KeepF a b) (k : KeepF b c) : KeepF a c := ⟨Nat.le_trans h.1 k.1, fun g o h1 h2 h3 h4 => k.2 g o (h.2 g o h1 h2 h3 h4) h2 h3 h4⟩
theorem KeepF.below {a b : World} (h : Below a.heap.size a b) : KeepF a b := ⟨h.size, fun g o h1 _ _ _ => by rw [h.block g ((Array.getElem?_eq_some_iff.1 h1).1)]; exact h1⟩
theorem KeepF.grown {a b : World} {r : Option Nat} (h : a.grownBy b r) (hr : ∀ g, r = some g → ∃ o, a.heap[g]? = some o ∧ ((∃ es c, o = Obj.map es c) ∨ (∃ cur, o = Obj.cells cur 89 (0, 0)) ∨ ∃ cur, o = Obj.cells cur 85 (0, 0))) : KeepF a b :=
  ⟨h.size, fun g o h1 h2 h3 h4 => by
    rw [h.block g ((Array.getElem?_eq_some_iff.1 h1).1) (fun e => ?_)]
    · exact h1
    · obtain ⟨o', k1, k2⟩ := hr g e.symm
      rw [h1] at k1
      obtain rfl := Option.some.inj k1
      rcases k2 with ⟨es, c, k2⟩ | ⟨cur, k2⟩ | ⟨cur, k2⟩
      · exact h2 es c k2
      · exact h3 cur k2
      · exact h4 cur k2⟩

/-- the versions behind the first k puts -/
def addN (V : Int → List Int) (l : List Pt) (tm : Int) : Nat → Int → List Int
  | 0 => V
  | k + 1 => upd (addN V l tm k) (l.getD k (0, 0)).1 (addN V l tm k (l.getD k (0, 0)).1 ++ [tm])

def AtE (es : Array MapEntry) (k : Int) (v : Value) : Prop := ((∀ x ∈ es.toList, x.key ≠ .int .i64 k) ∧ v = .slice none 0 0) ∨ ∃ e0 ∈ es.toList, e0.key = .int .i64 k ∧ e0.val = v
theorem at_uniq {es : Array MapEntry} {clock : Nat} (hF : WideElems.Fit Try.prog 3 R0 es clock) {k : Int} {u v : Value} (h4 : AtE es k v) (h5 : AtE es k u) : u = v := by
  have hp : es.toList.Pairwise (fun x y => x.key ≠ y.key) := ((stamped_iff es clock).1 hF.stamped).2.2
  rcases h4 with ⟨q1, rfl⟩ | ⟨e0, q1, q2, rfl⟩ <;> rcases h5 with ⟨q3, rfl⟩ | ⟨e1, q3, q4, rfl⟩
  · rfl
  · exact absurd q4 (q1 e1 q3)
  · exact absurd q2 (q3 e0 q1)
  · have hs : ∀ (l : List MapEntry), l.Pairwise (fun x y => x.key ≠ y.key) → e1 ∈ l → e0 ∈ l → e1.key = e0.key → e1 = e0 := by
      intro l
      induction l with
      | nil => intro _ h; cases h
      | cons x r ih =>
        intro hp h1 h0 hk
        obtain ⟨hx, hr⟩ := List.pairwise_cons.1 hp
        rcases List.mem_cons.1 h1 with q1 | q1 <;> rcases List.mem_cons.1 h0 with q0 | q0
        · rw [q1, q0]
        · exact absurd hk (by rw [q1]; exact hx e0 q0)
        · exact absurd hk.symm (by rw [q0]; exact hx e1 q1)
        · exact ih hr q1 q0 hk
    rw [hs _ hp q3 q1 (q4.trans q2.symm)]
theorem look_es {es : Array MapEntry} {clock b : Nat} {w : World} (hb : w.heap[b]? = some (Obj.map es clock)) (hF : WideElems.Fit Try.prog 3 R0 es clock) {k : Int} (hk : 0 ≤ k ∧ k < 30) :
    ∃ v, (Instr.lookup 87 (.map (some b)) (.int .i64 k) false).run Try.prog w = .ok v w ∧ AtE es k v := by
  rcases Maps.fit_look false keyI Try.underlying87 (zeroRow w) hb hF (keyOf_k hk) with ⟨hrun, hno, _⟩ | ⟨e0, y, hm, he, hrun, _⟩
  · exact ⟨_, hrun, .inl ⟨hno, rfl⟩⟩
  · exact ⟨_, hrun, .inr ⟨e0, hm, he, rfl⟩⟩
theorem AtK.keep {w w' : World} {b : Nat} {k : Int} {v : Value} (h : AtK w b k v) (hb : Below w.heap.size w w') : AtK w' b k v := by
  obtain ⟨es, c, h1, h2⟩ := h
  exact ⟨es, c, by rw [hb.block b ((Array.getElem?_eq_some_iff.1 h1).1)]; exact h1, h2⟩
theorem Ma.below {w w' : World} {B b : Nat} {V : Int → List Int} {n : Nat} (h : Ma w B b V n) (hb : Below w.heap.size w w') : Ma w' B b V n := h.keep fun g hg => hb.block g hg

theorem infoV : (Try.prog.info? 85).map (fun i => (i.zero, i.size, i.bytes)) = some (some (.agg #[.int .i64 0, .slice none 0 0]), 2, 32) := by kernel_rfl

/-- a row of versions, grown by one -/
theorem RowV.snoc {w w' : World} {B : Nat} {v' d : Value} {rs : List (Int × Value)} {ts : List Int} {t : Int} (h1 : rs.map (·.1) = ts) (h3 : ∀ r ∈ rs, Dat w B r.2)
    (hown : w'.ownsRow B 85 2 v' (rs.length + 1) (flatV rs ++ [.int .i64 t, d])) (hk : KeepB w w') (hd : Dat w' B d) : RowV w' B v' (ts ++ [t]) := by
  refine ⟨rs ++ [(t, d)], by simp [h1], ?_, ?_⟩
  · rw [List.length_append, flatV_app]
    exact hown
  · intro r hr
    rcases List.mem_append.1 hr with hr | hr
    · exact (h3 r hr).keep hk
    · obtain rfl : r = (t, d) := by simpa using hr
      exact hd

/-- a round's append and store: what is so behind them -/
theorem round_facts {W0 w3 : World} {B b n : Nat} {V : Int → List Int} {k tm : Int} {v d : Value} {rs : List (Int × Value)} (hM : Ma W0 B b V n) (hn : n < 1000000) (hk : 0 ≤ k ∧ k < 30) (hv : AtK W0 b k v) (hrs : rs.map (·.1) = V k)
    (hrow : W0.ownsRow B 85 2 v rs.length (flatV rs)) (hD : ∀ r ∈ rs, Dat W0 B r.2) (hB : B ≤ W0.heap.size) (hb : Below W0.heap.size W0 w3) (hd : Dat w3 B d) {v' : Value} {w4 : World}
    (ho : w4.ownsRow B 85 2 v' (rs.length + 1) (flatV rs ++ [.int .i64 tm, d])) (hg : w3.grownBy w4 v.ownBlock) (hat : v'.ownBlock = v.ownBlock ∨ v'.ownBlock = some w3.heap.size) :
    ∃ w5, (Instr.mapUpdate 87 (.map (some b)) (.int .i64 k) v').run Try.prog w4 = .ok () w5 ∧ Ma w5 B b (upd V k (V k ++ [tm])) (n + 1) ∧ KeepF W0 w5 ∧ Below B W0 w5 ∧ w4.grownBy w5 (some b) := by
  have lt : ∀ {w : World} {g : Nat} {o : Obj}, w.heap[g]? = some o → g < w.heap.size := fun h => (Array.getElem?_eq_some_iff.1 h).1
  have hown3 : ∀ g, v.ownBlock = some g → B ≤ g ∧ ∃ cur, W0.heap[g]? = some (Obj.cells cur 85 (0, 0)) := fun g hg => ownsRow_block hrow hg
  have hkb3 : KeepB W0 w3 := fun g cur h => by rw [hb.block g (lt h)]; exact h
  have hkb4 : KeepB w3 w4 := fun g cur h => by
    rw [hg.block g (lt h) (fun e => ?_)]
    · exact h
    · obtain ⟨_, cur', h2⟩ := hown3 g e.symm
      have h3 : w3.heap[g]? = some (Obj.cells cur' 85 (0, 0)) := by rw [hb.block g (lt h2)]; exact h2
      rw [h] at h3
      simp at h3
  have hlen : (V k ++ [tm]).length ≤ n + 1 := by
    have := hM.2.choose_spec.choose_spec.2.2.2.2.2.2 k
    simp
    omega
  obtain ⟨w5, h1, h2, h3⟩ := hM.store hn hk hv (w1 := w4) (v' := v') (fun g hg1 hg2 => by
    rw [hg.block g (Nat.lt_of_lt_of_le hg1 hb.size) (fun e => hg2 e.symm), hb.block g hg1]) (RowV.snoc hrs (fun r hr => (hD r hr)) ho (fun g cur h => hkb4 g cur (hkb3 g cur h)) (hd.keep hkb4)) (by simp) hlen
    (by
      rcases hat with h | h
      · exact .inl h
      · exact .inr ⟨_, h, hb.size⟩)
  have hbm : ∃ es c, w4.heap[b]? = some (Obj.map es c) := by
    obtain ⟨_, es, c, hbb, _⟩ := hM
    refine ⟨es, c, ?_⟩
    rw [hg.block b (Nat.lt_of_lt_of_le (lt hbb) hb.size) (fun e => ?_), hb.block b (lt hbb)]
    · exact hbb
    · obtain ⟨_, cur', h4⟩ := hown3 b e.symm
      rw [hbb] at h4
      cases h4
  refine ⟨w5, h1, h2, ?_, ?_, h3⟩
  · refine ((KeepF.below hb).trans (KeepF.grown hg fun g hgv => ?_)).trans (KeepF.grown h3 fun g hgb => ?_)
    · obtain ⟨_, cur, h4⟩ := hown3 g hgv
      exact ⟨_, by rw [hb.block g (lt h4)]; exact h4, .inr (.inr ⟨cur, rfl⟩)⟩
    · obtain ⟨es, c, h4⟩ := hbm
      obtain rfl : b = g := Option.some.inj hgb
      exact ⟨_, h4, .inl ⟨es, c, rfl⟩⟩
  · refine ((hb.mono hB).grown hg (Nat.le_trans hB hb.size) fun g hgv => (hown3 g hgv).1).grown h3 (Nat.le_trans hB (Nat.le_trans hb.size hg.size)) fun g hgb => ?_
    obtain rfl : b = g := Option.some.inj hgb
    exact hM.1

/-- the lookup's run, in whatever world the map's block is as it was -/
theorem look_at {B b n : Nat} {V : Int → List Int} {w : World} (hM : Ma w B b V n) {k : Int} (hk : 0 ≤ k ∧ k < 30) :
    ∃ es clock v, w.heap[b]? = some (Obj.map es clock) ∧ AtK w b k v ∧ RowV w B v (V k) ∧ ∀ w' : World, w'.heap[b]? = some (Obj.map es clock) → (Instr.lookup 87 (.map (some b)) (.int .i64 k) false).run Try.prog w' = .ok v w' := by
  obtain ⟨v, _, h2, h3⟩ := hM.look hk
  obtain ⟨_, es, clock, hb, hF, _⟩ := hM
  have h3' := h3
  obtain ⟨es1, c1, hb1, h4⟩ := h3'
  rw [hb] at hb1
  obtain ⟨rfl, rfl⟩ : es = es1 ∧ clock = c1 := by simpa using hb1
  refine ⟨es, clock, v, hb, h3, h2, fun w' hb' => ?_⟩
  obtain ⟨u, h5, h6⟩ := look_es hb' hF hk
  rw [h5, at_uniq hF h4 h6]
theorem ownsRow_mono {w : World} {B B2 : Nat} {e : TypeId} {k n : Nat} {v : Value} {xs : List Value} (h : w.ownsRow B2 e k v n xs) (hB : B ≤ B2) : w.ownsRow B e k v n xs := by
  obtain ⟨h1, h2 | ⟨g, cap, cur, h3, h4, h5⟩⟩ := h
  · exact ⟨h1, .inl h2⟩
  · exact ⟨h1, .inr ⟨g, cap, cur, h3, Nat.le_trans hB h4, h5⟩⟩
/-- a block that holds no versions is as it was behind the append -/
theorem far_keep {W0 w3 w4 : World} {B n : Nat} {v : Value} {xs : List Value} (hrow : W0.ownsRow B 85 2 v n xs) (hb : Below W0.heap.size W0 w3) (hg : w3.grownBy w4 v.ownBlock) {g : Nat} {o : Obj} (h : W0.heap[g]? = some o)
    (hne : ∀ cur, o ≠ Obj.cells cur 85 (0, 0)) : w4.heap[g]? = some o := by
  have hlt : g < W0.heap.size := (Array.getElem?_eq_some_iff.1 h).1
  rw [hg.block g (Nat.lt_of_lt_of_le hlt hb.size) (fun e => ?_), hb.block g hlt]
  · exact h
  · obtain ⟨_, cur, h4⟩ := ownsRow_block hrow e.symm
    rw [h] at h4
    exact hne cur (Option.some.inj h4)
theorem cell_of {w : World} {g i : Nat} {cs : Array Value} {t : TypeId} {v : Value} (h : w.heap[g]? = some (Obj.cells cs t (0, 0))) (hi : cs[i]? = some v) : w.cell? ⟨g, i, none⟩ = some v := by simp [World.cell?, h, hi]
theorem Dat.below {w w' : World} {B : Nat} {v : Value} (h : Dat w B v) (hb : Below w.heap.size w w') : Dat w' B v :=
  h.keep fun g cur hg => by rw [hb.block g (Array.getElem?_eq_some_iff.1 hg).1]; exact hg
open Classical in
/-- what a look-up gives, if it gives anything -/
noncomputable def lkOf (b : Nat) (k : Int) (w : World) : Value :=
  if h : ∃ v, (Instr.lookup 87 (.map (some b)) (.int .i64 k) false).run Try.prog w = .ok v w then Classical.choose h else undef
theorem lk_run {b : Nat} {k : Int} {w : World} {v : Value} (h : (Instr.lookup 87 (.map (some b)) (.int .i64 k) false).run Try.prog w = .ok v w) :
    (Instr.lookup 87 (.map (some b)) (.int .i64 k) false).run Try.prog w = .ok (lkOf b k w) w ∧ lkOf b k w = v := by
  have hex : ∃ v, (Instr.lookup 87 (.map (some b)) (.int .i64 k) false).run Try.prog w = .ok v w := ⟨v, h⟩
  have h1 : lkOf b k w = Classical.choose hex := by unfold lkOf; rw [dif_pos hex]
  have h2 := Classical.choose_spec hex
  rw [← h1] at h2
  refine ⟨h2, ?_⟩
  rw [h] at h2
  simp at h2
  exact h2.symm
theorem Ma.keep2 {w w' : World} {B b : Nat} {V : Int → List Int} {n : Nat} (h : Ma w B b V n) (hk : ∀ (g : Nat) (o : Obj), w.heap[g]? = some o → (∀ cur, o ≠ Obj.cells cur 89 (0, 0)) → w'.heap[g]? = some o) : Ma w' B b V n := by
  have kb : KeepB w w' := fun g cur hg => hk g _ hg (by intro c h; simp at h)
  obtain ⟨h0, es, clock, h1, h2, h3, h4, h5⟩ := h
  refine ⟨h0, es, clock, hk b _ h1 (by intro c h; cases h), h2, h3, fun x hx => ?_, h5⟩
  obtain ⟨k, q1, q2, q3, q4, q5⟩ := h4 x hx
  refine ⟨k, q1, q2, q3, q4, q5.keep (fun g hg => ?_) kb⟩
  obtain ⟨_, cur, q6⟩ := q5.block hg
  rw [q6, hk g _ q6 (by intro c h; simp at h)]
theorem Mp.setLast {w : World} {B p : Nat} {V : Int → List Int} {last : Int} {n : Nat} (h : Mp w B p V last n) (t : Int) :
    Mp (w.setCell ⟨p, 2, none⟩ (.int .i64 t)) B p V t n ∧ KeepF w (w.setCell ⟨p, 2, none⟩ (.int .i64 t)) ∧ ∀ w0, Below B w0 w → Below B w0 (w.setCell ⟨p, 2, none⟩ (.int .i64 t)) := by
  obtain ⟨h0, b, h1, h2⟩ := h
  have hp : p < w.heap.size := (Array.getElem?_eq_some_iff.1 h1).1
  have hoth : ∀ g, g ≠ p → (w.setCell ⟨p, 2, none⟩ (.int .i64 t)).heap[g]? = w.heap[g]? := fun g hg => heap_setCell_other w ⟨p, 2, none⟩ g _ hg
  have hg : w.grownBy (w.setCell ⟨p, 2, none⟩ (.int .i64 t)) (some p) := ⟨rfl, rfl, rfl, by simp, fun k _ hk => hoth k (fun e => hk (by rw [e]))⟩
  refine ⟨⟨h0, b, ?_, h2.keep2 fun g o ho hne => ?_⟩, KeepF.grown hg fun g e => ?_, fun w0 hb => ?_⟩
  · show (w.heap.modify p _)[p]? = _
    rw [Array.getElem?_modify, if_pos rfl, h1]
    rfl
  · rw [hoth g (fun e => ?_)]
    · exact ho
    · subst e
      rw [h1] at ho
      exact hne _ (Option.some.inj ho).symm
  · obtain rfl := Option.some.inj e
    exact ⟨_, h1, .inr (.inl ⟨_, rfl⟩)⟩
  · exact hb.setCell h0 _
end Go.Proofs.Ytkpnjehgbehhcaa
namespace Go.Proofs.Ytkpnjehgbehhcaa
open Go.RowKit Go.MapKept

/-- what a round begins with -/
def LS (B p n A : Nat) (V : Int → List Int) (l : List Pt) (tm last : Int) (pv : Value) (w0 : World) (k : Nat) (wr : World) : Prop :=
  Mp wr B p (addN V l tm k) last (n + k) ∧ KeepF w0 wr ∧ Below B w0 wr ∧ wr.heap[A]? = some (Obj.cells #[.int .i64 tm, pv] 68 (0, 0))

theorem Mp.alloc {w : World} {B p : Nat} {V : Int → List Int} {last : Int} {n : Nat} (h : Mp w B p V last n) (o : Obj) : Mp (w.alloc o) B p V last n := h.below ((Below.refl _ _).alloc (Nat.le_refl _) _)

set_option maxHeartbeats 6400000 in
set_option maxRecDepth 16000 in
theorem app_yes {B p : Nat} {V : Int → List Int} {last : Int} {n : Nat} (tm : Int) (a : Option Addr) (cap : Nat) (l : List Pt) (w : World) (h : Mp w B p V last n) (hl : ∀ w', Hid (Below B w w') → SlP w' (.slice a l.length cap) l) (hB : B ≤ w.heap.size)
    (hok : okA last tm l = true) (hnn : n + l.length < 1000000) (hin : ∀ k, k < l.length → 0 ≤ (l.getD k (0, 0)).1 ∧ (l.getD k (0, 0)).1 < 30) (h40 : ∀ k, k < l.length → (l.getD k (0, 0)).2 = 40) :
    Calls Try.prog 28 #[.pointer (some ⟨p, 0, none⟩), .agg #[.int .i64 tm, .slice a l.length cap]] w fun e w' => e = .returned (.int .i64 0) ∧ Mp w' B p (addN V l tm l.length) tm (n + l.length) ∧ KeepF w w' ∧ Below B w w' := by
  have hbw : Hid (Below B w w) := Below.refl _ _
  have hl0 := hl w hbw
  obtain ⟨_, c0, ⟨b, c1, _⟩, c2⟩ := h.cells
  have hbl : Hid (Below w.heap.size w (w.alloc (.cells #[.int .i64 tm, .slice a l.length cap] 68))) := (Below.refl _ _).alloc (Nat.le_refl _) _
  have HS : Hid (ApS w.heap.size p b tm last (.slice a l.length cap) l (w.alloc (.cells #[.int .i64 tm, .slice a l.length cap] 68))) := ⟨World.cell?_alloc_at _ _ _ 0 rfl, World.cell?_alloc_at _ _ _ 1 rfl, cell_keep c0 hbl.out, cell_keep c1 hbl.out, cell_keep c2 hbl.out, hl0.below hbl.out⟩
  have k0 := HS.out.1
  have k1 := HS.out.2.1
  have k2 := HS.out.2.2.1
  have k3 := HS.out.2.2.2.1
  have k4 := HS.out.2.2.2.2.1
  have hsz : Hid (w.heap.size ≤ (w.alloc (.cells #[.int .i64 tm, .slice a l.length cap] 68)).heap.size) := hbl.out.size
  have HC := Lib.hid (hl0.rd rfl)
  have HMp := Lib.hid h
  have HP := Lib.hid hl
  have HB := Lib.hid hB
  have HIN := Lib.hid hin
  have H40 := Lib.hid h40
  have HNN := Lib.hid hnn
  unfold okA at hok
  simp only [Bool.and_eq_true, decide_eq_true_eq] at hok
  obtain ⟨⟨⟨⟨⟨ho1, ho2⟩, hrise⟩, h0⟩, hjj⟩, hforty⟩ := hok
  obtain ⟨_, _, hcv, _, hcl, hcm⟩ := SlG.form hl0
  simp only [Value.slice.injEq] at hcv
  obtain ⟨_, _, rfl⟩ := hcv
  rename_i q1 q2 q3 q4
  clear h hl hl0 hB hnn hin h40 c0 c1 c2 q1 q2 q3 q4
  have hd : decide (tm ≤ last) = false := decide_eq_false (by omega)
  have hd2 : decide (1099511627776 < tm) = false := decide_eq_false (by omega)
  have HR := Lib.hid hrise
  have hpos := riseP_pos hrise
  obtain ⟨j, hj⟩ : ∃ j, l.length = j + 1 := ⟨l.length - 1, by omega⟩
  obtain ⟨bb, oo, _, _, _, rfl, _, hf0⟩ := HC.out 0 hpos
  obtain ⟨bb', oo', _, _, _, hbo, _, hfj⟩ := HC.out j (by omega)
  simp only [Option.some.injEq, Addr.mk.injEq] at hbo
  obtain ⟨rfl, rfl, _⟩ := hbo
  have HF0 : Hid (∀ w', Hid (Below w.heap.size w w') → w'.cell? ⟨bb, oo, none⟩ = some (.int .i64 (l.getD 0 (0, 0)).1)) := fun w' hb => by have := (hf0 w' hb).1; simpa using this
  have HFj : Hid (∀ w', Hid (Below w.heap.size w w') → w'.cell? ⟨bb, oo + j * 2, none⟩ = some (.int .i64 (l.getD j (0, 0)).1)) := fun w' hb => (hfj w' hb).1
  have HFo : Hid (fortyN l l.length = true) := hforty
  rename_i q1 q2 q3 q4 q5 q6 q7 q8 q9
  clear hf0 hfj HC hrise hpos ho1 ho2 hforty q1 q2 q3 q4 q5 q6 q7 q8 q9
  have HJ := Lib.hid hj
  rw [hj, show j + 1 - 1 = j by omega] at hjj
  rw [hj] at k1 HS hbl hsz k0 k2 k3 k4 hcl HP
  rw [hj]
  clear hj
  have hA0 : Hid ((w.alloc (.cells #[.int .i64 tm, .slice (some ⟨bb, oo, none⟩) (j + 1) cap] 68)).heap[w.heap.size]? = some (Obj.cells #[.int .i64 tm, .slice (some ⟨bb, oo, none⟩) (j + 1) cap] 68 (0, 0))) := heap_alloc_new w _
  have hltA : Hid (w.heap.size < (w.alloc (.cells #[.int .i64 tm, .slice (some ⟨bb, oo, none⟩) (j + 1) cap] 68)).heap.size) := by show _ < _; simp
  generalize (l.getD 0 (0, 0)).1 = p0 at *
  generalize (l.getD j (0, 0)).1 = pj at *
  go_enter Try.func28, Try.ntmps28
  go_wp2_with (first | (go_at_call 44; refine (gone_any p _ (by assumption)).mono ?_; rintro e w' ⟨rfl, rfl⟩) | fail)
  go_quiet (fail)
  go_wp2_with (first
    | (go_at_call 45; refine (rise_any _ l _ (by exact HS.out.2.2.2.2.2)).mono ?_; rintro e w1 ⟨rfl, hb1⟩; rw [HR.out]; have HS1 : Hid (ApS w.heap.size p b tm last (.slice (some ⟨bb, oo, none⟩) (j + 1) cap) l w1) := ApS.keep (ApS.drewN HS.out _) hb1; have hb2 : Hid (Below w.heap.size w w1) := (below_drewN hbl.out _).trans (hb1.mono hsz.out); have hsz1 : Hid (w.heap.size ≤ w1.heap.size) := hb2.out.size; have hA1 : Hid (w1.heap[w.heap.size]? = some (Obj.cells #[.int .i64 tm, .slice (some ⟨bb, oo, none⟩) (j + 1) cap] 68 (0, 0))) := (hb1.block w.heap.size hltA.out).trans hA0.out; clear hb1; have e0 := HS1.out.1; have e1 := HS1.out.2.1; have e2 := HS1.out.2.2.1; have e3 := HS1.out.2.2.2.1; have e4 := HS1.out.2.2.2.2.1; have g0 := HF0.out w1 hb2; have gj := HFj.out w1 hb2)
    | (go_at_call 35; refine (block_any p _ _ (by assumption)).mono ?_; rintro e w' ⟨rfl, rfl⟩)
    | (go_at_call 46; refine (cfp_any _ l _ HS1.out.2.2.2.2.2).mono ?_; rintro e w2 ⟨rfl, hb1⟩; have HS2 : Hid (ApS w.heap.size p b tm last (.slice (some ⟨bb, oo, none⟩) (j + 1) cap) l w2) := ApS.keep HS1.out hb1; rw [HFo.out]; have hA2 : Hid (w2.heap[w.heap.size]? = some (Obj.cells #[.int .i64 tm, .slice (some ⟨bb, oo, none⟩) (j + 1) cap] 68 (0, 0))) := (hb1.block w.heap.size ((Array.getElem?_eq_some_iff.1 hA1.out).1)).trans hA1.out; have hb3 : Hid (Below w.heap.size w w2) := hb2.out.trans (hb1.mono hsz1.out); clear hb1; have y0 := HS2.out.1; have y1 := HS2.out.2.1)
    | fail)
  have HL0 : Hid (LS B p n w.heap.size V l tm last (.slice (some ⟨bb, oo, none⟩) (j + 1) cap) w 0 w2) := ⟨HMp.out.below hb3.out, KeepF.below hb3.out, hb3.out.mono HB.out, hA2.out⟩
  clear hA2 hb3 HS2 y0 y1 hA1 hb2 hsz1 HS1 e0 e1 e2 e3 e4 g0 gj hA0 hltA HF0 HFj HFo HR hjj h0 hd hd2 k0 k1 k2 k3 k4 hsz HS hbl
  go_loopw [58] (fun i wr => ∃ k : Nat, k ≤ j + 1 ∧ i = .int .i64 k ∧ Hid (LS B p n w.heap.size V l tm last (.slice (some ⟨bb, oo, none⟩) (j + 1) cap) w k wr)) (fun i _ => j + 1 - (intOf i).toNat)
  case atStart => exact ⟨0, Nat.zero_le _, rfl, HL0⟩
  case round =>
    obtain ⟨k, hk, rfl, hls⟩ := hrel
    by_cases hlt : k < j + 1
    · obtain ⟨hM, hK, hBl, hbx⟩ := hls.out
      have hkl : k < l.length := by rw [HJ.out]; exact hlt
      obtain ⟨b6, o6, u, x, c, ho6, rfl, hc6⟩ := (HP.out wr hBl).rd rfl k hkl
      simp only [Option.some.injEq, Addr.mk.injEq] at ho6
      obtain ⟨rfl, rfl, _⟩ := ho6
      obtain ⟨x0, x1, x2⟩ := hc6 wr (Below.refl _ _)
      have hin := HIN.out k hkl
      have hadd : Hid (addN V l tm (k + 1) = upd (addN V l tm k) (l.getD k (0, 0)).1 (addN V l tm k (l.getD k (0, 0)).1 ++ [tm])) := rfl
      rw [H40.out k hkl] at x1 x2
      have hlt2 : (k : Int) < ((j + 1 : Nat) : Int) := by omega
      generalize (l.getD k (0, 0)).1 = lba at *
      have hBr : B ≤ wr.heap.size := Nat.le_trans HB.out hBl.size
      have hb0 : Below wr.heap.size wr (wr.alloc (.cells #[.int .i64 lba, .slice x 40 c] 65)) := (Below.refl _ _).alloc (Nat.le_refl _) _
      have HBp := Lib.hid hM.1
      obtain ⟨_, b', hp1, hMa⟩ := hM.alloc (.cells #[.int .i64 lba, .slice x 40 c] 65)
      obtain ⟨es, clock, v, hes, hat0, ⟨rs, hrs, hrow, hD⟩, hlook⟩ := look_at hMa hin
      have HLK : Hid (∀ w' : World, w'.heap[b']? = some (Obj.map es clock) → (Instr.lookup 87 (.map (some b')) (.int .i64 lba) false).run Try.prog w' = .ok (lkOf b' lba w') w') := fun w' h => (lk_run (hlook w' h)).1
      have HLV : Hid (∀ w' : World, w'.heap[b']? = some (Obj.map es clock) → lkOf b' lba w' = v) := fun w' h => (lk_run (hlook w' h)).2
      have HES := Lib.hid hes
      have HB0 := Lib.hid (x2.below hb0)
      have hs0 : Hid (B ≤ (wr.alloc (.cells #[.int .i64 lba, .slice x 40 c] 65)).heap.size) := Nat.le_trans hBr hb0.size
      have HPK : Hid (KeepF w (wr.alloc (.cells #[.int .i64 lba, .slice x 40 c] 65)) ∧ Below B w (wr.alloc (.cells #[.int .i64 lba, .slice x 40 c] 65))) := ⟨hK.trans (KeepF.below hb0), hBl.trans (hb0.mono hBr)⟩
      have z0 : (wr.alloc (.cells #[.int .i64 lba, .slice x 40 c] 65)).cell? ⟨p, 1, none⟩ = some (.map (some b')) := by simp [World.cell?, hp1]
      have z1 : (wr.alloc (.cells #[.int .i64 lba, .slice x 40 c] 65)).cell? ⟨w.heap.size, 0, none⟩ = some (.int .i64 tm) := cell_keep (by simp [World.cell?, hbx]) hb0
      have z2 : (wr.alloc (.cells #[.int .i64 lba, .slice x 40 c] 65)).cell? ⟨wr.heap.size, 0, none⟩ = some (.int .i64 lba) := World.cell?_alloc_at _ _ _ 0 rfl
      have z3 : (wr.alloc (.cells #[.int .i64 lba, .slice x 40 c] 65)).cell? ⟨wr.heap.size, 1, none⟩ = some (.slice x 40 c) := World.cell?_alloc_at _ _ _ 1 rfl
      have hbx0 : Hid ((wr.alloc (.cells #[.int .i64 lba, .slice x 40 c] 65)).heap[w.heap.size]? = some (Obj.cells #[.int .i64 tm, .slice (some ⟨bb, oo, none⟩) (j + 1) cap] 68 (0, 0))) := by
        show _ = _
        rw [hb0.block _ (Array.getElem?_eq_some_iff.1 hbx).1]; exact hbx
      have hrl : rs.length ≤ 1000000 := by
        have h1 := congrArg List.length hrs
        rw [List.length_map] at h1
        have h2 := hMa.2.choose_spec.choose_spec.2.2.2.2.2.2 lba
        have := HNN.out
        omega
      have HA6 : Hid ((wr.alloc (.cells #[.int .i64 lba, .slice x 40 c] 65)).heap[wr.heap.size]? = some (Obj.cells #[.int .i64 lba, .slice x 40 c] 65 (0, 0))) := heap_alloc_new wr _
      have HMa := Lib.hid hMa
      have HP1 := Lib.hid hp1
      have HAT := Lib.hid hat0
      have HRS := Lib.hid hrs
      have HROW := Lib.hid hrow
      have HD := Lib.hid hD
      have hss : Hid (wr.heap.size < (wr.alloc (.cells #[.int .i64 lba, .slice x 40 c] 65)).heap.size) := by show _ < _; simp
      have HIn := Lib.hid hin
      rename_i q1 q2
      clear hMa hp1 hat0 hrs hrow hD hlook hes hM hK hBl hbx hb0 hBr x2 hc6 hin hls hkl q1 q2
      go_wp2
      generalize (wr.alloc (.cells #[.int .i64 lba, .slice x 40 c] 65)) = w0 at *
      generalize hA6 : wr.heap.size = A6 at *
      clear hA6
      go_region_held3 (fun w' => w'.cell? ⟨p, 1, none⟩ = some (.map (some b')) ∧ w'.cell? ⟨w.heap.size, 0, none⟩ = some (.int .i64 tm) ∧ w'.cell? ⟨A6, 0, none⟩ = some (.int .i64 lba) ∧ w'.cell? ⟨A6, 1, none⟩ = some (.slice x 40 c) ∧
          (Instr.lookup 87 (.map (some b')) (.int .i64 lba) false).run Try.prog w' = .ok (lkOf b' lba w') w')
        (first
          | exact ⟨z0, z1, z2, z3, HLK.out _ HES.out⟩
          | exact ⟨y0, y1, y2, y3, HLK.out _ HES3.out⟩
          | exact ⟨cell_keep y0 ((Below.refl _ _).alloc (Nat.le_refl _) _), cell_keep y1 ((Below.refl _ _).alloc (Nat.le_refl _) _), cell_keep y2 ((Below.refl _ _).alloc (Nat.le_refl _) _), cell_keep y3 ((Below.refl _ _).alloc (Nat.le_refl _) _),
              HLK.out _ ((((Below.refl _ _).alloc (Nat.le_refl _) _).block _ (Array.getElem?_eq_some_iff.1 HES3.out).1).trans HES3.out)⟩
          | exact ⟨v0, v1, vv2, vv3, HLK.out _ HES4.out⟩
          | exact ⟨t0, t1, t2, t3, HL5.out⟩)
        (first
          | (go_at_call 37; refine (clone_any _ 40 (by decide) _ (by exact HB0.out)).mono ?_; rintro e w3 ⟨⟨v2, rfl, xs2, hv2, hx2⟩, hb3⟩
             have hd3 : Dat w3 B v2 := ⟨xs2, ownsRow_mono hv2 (by exact hs0.out), hx2⟩
             obtain ⟨g2, cap2, rfl, _, _⟩ := hd3.form
             have HD3 := Lib.hid hd3
             have HB3 : Hid (Below w0.heap.size w0 w3) := ⟨hb3.os, hb3.tape, hb3.output, hb3.size, hb3.block⟩
             have y0 := cell_keep z0 HB3.out
             have y1 := cell_keep z1 HB3.out
             have y2 := cell_keep z2 HB3.out
             have y3 := cell_keep z3 HB3.out
             have HES3 : Hid (w3.heap[b']? = some (Obj.map es clock)) := (HB3.out.block _ (Array.getElem?_eq_some_iff.1 HES.out).1).trans HES.out
             clear hd3 hb3 hv2 hx2)
          | (refine step_appG rfl (.tmp 74) (.tmp 81) B 86 85 (.agg #[.int .i64 0, .slice none 0 0]) 2 32 rfl Try.underlying86 infoV rfl (by decide) v rs.length (flatV rs) (by simp [Act.eval]; first | exact HLV.out _ HES.out | exact HLV.out _ HES3.out | exact HLV.out _ ((((Below.refl _ _).alloc (Nat.le_refl _) _).block _ (Array.getElem?_eq_some_iff.1 HES3.out).1).trans HES3.out))
               (ownsRow_keep HROW.out (fun g hg => (HB3.out.alloc HB3.out.size _).block g (Array.getElem?_eq_some_iff.1 (ownsRow_block HROW.out hg).2.choose_spec).1)) _ 1 [.int .i64 tm, .slice (some ⟨g2, 0, none⟩) 40 cap2] (by simp [Act.eval]) (Src.new w3 [.int .i64 tm, .slice (some ⟨g2, 0, none⟩) 40 cap2] 85 1) rfl
               (by intro u hu; simp at hu; rcases hu with rfl | rfl <;> rfl) (by omega) (by unfold maxLen; omega) (by have := hs0.out; have := HB3.out.size; simp; omega) ?_
             intro v' w4 ho hg hat
             have hbal : Below w0.heap.size w0 (w3.alloc (.cells #[.int .i64 tm, .slice (some ⟨g2, 0, none⟩) 40 cap2] 85)) := HB3.out.alloc HB3.out.size _
             have HES4 : Hid (w4.heap[b']? = some (Obj.map es clock)) := far_keep HROW.out hbal hg HES.out (by intro cur h; cases h)
             obtain ⟨w5, hrun5, hMa5, hK5, hB5, hg5⟩ := round_facts HMa.out (by have := HNN.out; have := HJ.out; omega) HIn.out HAT.out HRS.out HROW.out HD.out hs0.out hbal (HD3.out.below ((Below.refl _ _).alloc (Nat.le_refl _) _)) ho hg hat
             have r1 := far_keep HROW.out hbal hg HP1.out (by intro cur h; simp at h)
             have r2 := far_keep HROW.out hbal hg hbx0.out (by intro cur h; simp at h)
             have r3 := far_keep HROW.out hbal hg HA6.out (by intro cur h; simp at h)
             have far5 : ∀ (g : Nat) (cs : Array Value) (t : TypeId), w4.heap[g]? = some (Obj.cells cs t (0, 0)) → w5.heap[g]? = some (Obj.cells cs t (0, 0)) := fun g cs t h => (hg5.block g (Array.getElem?_eq_some_iff.1 h).1 (fun e => by obtain rfl := Option.some.inj e; rw [HES4.out] at h; cases h)).trans h
             have v0 : w4.cell? ⟨p, 1, none⟩ = some (.map (some b')) := cell_of r1 rfl
             have v1 : w4.cell? ⟨w.heap.size, 0, none⟩ = some (.int .i64 tm) := cell_of r2 rfl
             have vv2 : w4.cell? ⟨A6, 0, none⟩ = some (.int .i64 lba) := cell_of r3 rfl
             have vv3 : w4.cell? ⟨A6, 1, none⟩ = some (.slice x 40 c) := cell_of r3 rfl
             have t0 : w5.cell? ⟨p, 1, none⟩ = some (.map (some b')) := cell_of (far5 _ _ _ r1) rfl
             have t1 : w5.cell? ⟨w.heap.size, 0, none⟩ = some (.int .i64 tm) := cell_of (far5 _ _ _ r2) rfl
             have t2 : w5.cell? ⟨A6, 0, none⟩ = some (.int .i64 lba) := cell_of (far5 _ _ _ r3) rfl
             have t3 : w5.cell? ⟨A6, 1, none⟩ = some (.slice x 40 c) := cell_of (far5 _ _ _ r3) rfl
             have HQ5 := Lib.hid (far5 _ _ _ r1)
             have HQ6 := Lib.hid (far5 _ _ _ r2)
             have HL5 : Hid ((Instr.lookup 87 (.map (some b')) (.int .i64 lba) false).run Try.prog w5 = .ok (lkOf b' lba w5) w5) := (lk_run (hMa5.look HIn.out).choose_spec.1).1
             have HMa5 := Lib.hid hMa5
             have HK5 := Lib.hid hK5
             have HB5 := Lib.hid hB5
             clear ho hg hat hbal hMa5 hK5 hB5 hg5 far5 r1 r2 r3))
      all_goals
        have HLn : Hid (LS B p n w.heap.size V l tm last (.slice (some ⟨bb, oo, none⟩) (j + 1) cap) w (k + 1) w5) := by
          show LS _ _ _ _ _ _ _ _ _ _ _ _
          exact ⟨⟨HBp.out, b', HQ5.out, by rw [hadd.out]; exact HMa5.out⟩, HPK.out.1.trans HK5.out, HPK.out.2.trans HB5.out, HQ6.out⟩
        rename_i hheld
        clear hheld t0 t1 t2 t3 v0 v1 vv2 vv3 y0 y1 y2 y3 z0 z1 z2 z3 hrun5 HL5 HMa5
        go_wp2
        exact ⟨⟨k + 1, by omega, by go_num, HLn⟩, by simp [intOf]; omega⟩
    · obtain ⟨hM, hK, hBl, hbx⟩ := hls.out
      have hkj : k = l.length := by rw [HJ.out]; omega
      have hM2 := hM.setLast tm
      have HF : Hid (Mp (wr.setCell ⟨p, 2, none⟩ (.int .i64 tm)) B p (addN V l tm l.length) tm (n + l.length) ∧ KeepF w (wr.setCell ⟨p, 2, none⟩ (.int .i64 tm)) ∧ Below B w (wr.setCell ⟨p, 2, none⟩ (.int .i64 tm))) := by
        rw [hkj] at hM2
        exact ⟨hM2.1, hK.trans hM2.2.1, hM2.2.2 w hBl⟩
      obtain ⟨_, q1, hp1, q2⟩ := hM
      clear q2
      have z0 : wr.cell? ⟨p, 2, none⟩ = some (.int .i64 last) := by simp [World.cell?, hp1]
      have z1 : wr.frozen? ⟨p, 2, none⟩ = false := by simp [World.frozen?, hp1]
      have z2 : wr.cell? ⟨w.heap.size, 0, none⟩ = some (.int .i64 tm) := by simp [World.cell?, hbx]
      clear hM2 hK hBl hbx hls hp1 hkj
      go_wp2
      go_ret
      have h5 := HF.out
      rw [HJ.out] at h5
      exact ⟨rfl, h5⟩
end Go.Proofs.Ytkpnjehgbehhcaa
namespace Go.Proofs.Ytkpnjehgbehhcaa
open Go.RowKit Go.MapKept

theorem rise_step {l : List Pt} (h : riseP l = true) : ∀ k, k + 1 < l.length → (l.getD k (0, 0)).1 < (l.getD (k + 1) (0, 0)).1 := by
  intro k hk
  unfold riseP at h
  simp only [Bool.and_eq_true] at h
  have h1 := riseN_le h.1 (k + 2) (by omega)
  unfold riseN at h1
  simp only [Bool.and_eq_true, Bool.or_eq_true, beq_iff_eq, decide_eq_true_eq] at h1
  rcases h1.2 with h2 | h2
  · omega
  · simpa using h2
theorem rise_mono {l : List Pt} (h : riseP l = true) : ∀ d k, k + d < l.length → (l.getD k (0, 0)).1 ≤ (l.getD (k + d) (0, 0)).1 := by
  intro d
  induction d with
  | zero => intro k _; exact Int.le_refl _
  | succ d ih =>
    intro k hk
    have h1 := ih k (by omega)
    have h2 := rise_step h (k + d) (by omega)
    have h3 : k + (d + 1) = k + d + 1 := by omega
    rw [h3]
    omega
theorem inB_iff {k : Int} (h : inB k = true) : 0 ≤ k ∧ k < 30 := by unfold inB at h; simpa using h
theorem okA_in {last tm : Int} {l : List Pt} (h : okA last tm l = true) : (∀ k, k < l.length → 0 ≤ (l.getD k (0, 0)).1 ∧ (l.getD k (0, 0)).1 < 30) ∧ ∀ k, k < l.length → (l.getD k (0, 0)).2 = 40 := by
  unfold okA at h
  simp only [Bool.and_eq_true, decide_eq_true_eq] at h
  obtain ⟨⟨⟨_, hr⟩, h0⟩, hj⟩ := h.1
  have h0 := inB_iff h0
  have hj := inB_iff hj
  refine ⟨fun k hk => ?_, fun k hk => ?_⟩
  · have h1 := rise_mono hr k 0 (by omega)
    have h2 := rise_mono hr (l.length - 1 - k) k (by omega)
    rw [Nat.zero_add] at h1
    rw [show k + (l.length - 1 - k) = l.length - 1 by omega] at h2
    omega
  · have h1 := fortyN_le h.2 (k + 1) (by omega)
    unfold fortyN at h1
    simp only [Bool.and_eq_true, Bool.not_eq_true', bne_eq_false_iff_eq] at h1
    have := h1.2
    omega

def apV (last tm : Int) (l : List Pt) (V : Int → List Int) : Int → List Int := if okA last tm l = true then addN V l tm l.length else V
def apL (last tm : Int) (l : List Pt) : Int := if okA last tm l = true then tm else last
theorem Mp.mono {w : World} {B p : Nat} {V : Int → List Int} {last : Int} {n n' : Nat} (h : Mp w B p V last n) (hn : n ≤ n') : Mp w B p V last n' := by
  obtain ⟨h0, b, h1, h2, es, clock, h3, h4, h5, h6, h7, h8, h9⟩ := h
  exact ⟨h0, b, h1, h2, es, clock, h3, h4, Nat.le_trans h5 hn, h6, h7, h8, fun k => Nat.le_trans (h9 k) hn⟩

/-- Apply -/
theorem app_any {B p : Nat} {V : Int → List Int} {last : Int} {n : Nat} (tm : Int) (a : Option Addr) (cap : Nat) (l : List Pt) (w : World) (h : Mp w B p V last n) (hl : ∀ w', Hid (Below B w w') → SlP w' (.slice a l.length cap) l) (hB : B ≤ w.heap.size)
    (hnn : n + l.length < 1000000) :
    Calls Try.prog 28 #[.pointer (some ⟨p, 0, none⟩), .agg #[.int .i64 tm, .slice a l.length cap]] w fun e w' => (∃ r, e = .returned (.int .i64 r)) ∧ Mp w' B p (apV last tm l V) (apL last tm l) (n + l.length) ∧ KeepF w w' ∧ Below B w w' := by
  cases hok : okA last tm l with
  | true =>
    obtain ⟨h1, h2⟩ := okA_in hok
    have e1 : apV last tm l V = addN V l tm l.length := if_pos hok
    have e2 : apL last tm l = tm := if_pos hok
    rw [e1, e2]
    exact (app_yes tm a cap l w h hl hB hok hnn h1 h2).mono fun e w' ⟨q1, q2⟩ => ⟨⟨0, q1⟩, q2⟩
  | false =>
    have e1 : apV last tm l V = V := by unfold apV; rw [if_neg (by rw [hok]; decide)]
    have e2 : apL last tm l = last := by unfold apL; rw [if_neg (by rw [hok]; decide)]
    rw [e1, e2]
    exact (app_no tm a cap l w h (hl w (Below.refl _ _)) hok).mono fun e w' ⟨q1, q2⟩ => ⟨q1, (h.below q2).mono (by omega), KeepF.below q2, q2.mono hB⟩

/-- New -/
theorem new_any (w : World) : Calls Try.prog 26 #[.int .i64 30] w fun e w' => ∃ p, e = .returned (.tuple #[.pointer (some ⟨p, 0, none⟩), .int .i64 0]) ∧ Mp w' w.heap.size p (fun _ => []) 0 0 ∧ Below w.heap.size w w' := by
  have hmm := fun w => run_makeMap (P := Try.prog) 87 w
  have HM : Hid (Mp ((w.alloc (.map #[] 0)).alloc (.cells #[.int .i64 30, .map (some w.heap.size), .int .i64 0] 89)) w.heap.size (w.alloc (.map #[] 0)).heap.size (fun _ => []) 0 0) := by
    have h1 : (w.alloc (.map #[] 0)).heap[w.heap.size]? = some (Obj.map #[] 0) := heap_alloc_new w _
    refine ⟨by simp, w.heap.size, heap_alloc_new _ _, Nat.le_refl _, #[], 0, ?_, ⟨by simp, stamped_empty 0, by simp⟩, Nat.le_refl _, by simp, by simp, by simp, by simp⟩
    rw [heap_alloc_old _ _ (Array.getElem?_eq_some_iff.1 h1).1]
    exact h1
  have HB : Hid (Below w.heap.size w ((w.alloc (.map #[] 0)).alloc (.cells #[.int .i64 30, .map (some w.heap.size), .int .i64 0] 89))) := ((Below.refl _ _).alloc (Nat.le_refl _) _).alloc (by simp) _
  go_enter Try.func26, Try.ntmps26
  go_wp2
  go_ret2
  refine ⟨_, rfl, ?_, HB.out⟩
  have h5 := HM.out
  rw [show (w.alloc (.map #[] 0)).heap.size = w.heap.size + 1 by simp] at h5
  exact h5
end Go.Proofs.Ytkpnjehgbehhcaa
