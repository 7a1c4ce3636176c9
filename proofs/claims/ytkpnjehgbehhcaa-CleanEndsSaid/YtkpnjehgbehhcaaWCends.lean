/- The walk of CleanEnds: the law returns true. -/
import Derived.Test.YtkpnjehgbehhcaaAwk
import Derived.Test.YtkpnjehgbehhcaaRnw
import Derived.Test.YtkpnjehgbehhcaaCep
import Derived.Test.YtkpnjehgbehhcaaCpr
namespace Go.Proofs.Ytkpnjehgbehhcaa
open Go.RowKit Fl

theorem stepsN_one : stepsN 1 = 1 := by decide
/-- what a round of CleanEnds begins with -/
def CeS (B2 : Nat) (w2 : World) (size : Int) (n0 : Nat) (i : Nat) (v : Value) (L' : List (List Cp)) (w : World) : Prop :=
  SlR w v L' ∧ L'.length = n0 ∧ (∀ j, j < L'.length → ((L'.getD j []).length : Int) ≤ size) ∧ i + L'.flatten.length ≤ 400 ∧ Below B2 w2 w

set_option maxHeartbeats 1600000 in
set_option maxRecDepth 16000 in
theorem walk_CleanEnds (w : World) (v : Value) (T : List Tx) (h : SlT w v T) (u : Value) (L : List (List Cp)) (g : SlR w u L) (size : Int) (_ : (Lit.int .i64 size).wf = true) (hz : Int) (_ : (Lit.int .i64 hz).wf = true) (now : Int) (_ : (Lit.int .i64 now).wf = true) :
    Calls Try.prog 4 #[v, u, .int .i64 size, .int .i64 hz, .int .i64 now] w fun e w' => e = .returned (.bool true) ∧ Below w.heap.size w w' := by
  obtain ⟨a, cap, rfl, ha, hle, hcap⟩ := SlG.form h
  obtain ⟨a2, cap2, rfl, ha2, hle2, hcap2⟩ := SlG.form g
  have CS := Lib.hid (small_any _ _ T L w h g)
  generalize hB : w.heap.size = B at *
  have hB0 : Hid (B ≤ w.heap.size) := Nat.le_of_eq hB.symm
  have HT : Hid (∀ w', Below B w w' → SlT w' (.slice a T.length cap) T) := fun w' hb => h.below (by rw [hB]; exact hb)
  have HG : Hid (∀ w', Below B w w' → SlR w' (.slice a2 L.length cap2) L) := fun w' hb => g.below (by rw [hB]; exact hb)
  have HC : Hid (∀ k, k < L.length → ∃ b o x c, a2 = some ⟨b, o, none⟩ ∧ ∀ w', Below B w w' → w'.cell? ⟨b, o + k, none⟩ = some (.slice x (L.getD k []).length c)) := fun k hk => by
    obtain ⟨b, o, u, h1, h2, h3, h4⟩ := g.at rfl hk
    obtain ⟨x, c, rfl, _⟩ := SlG.form h4
    exact ⟨b, o, x, c, h1, fun w' hb => cell_keep h3 (by rw [hB]; exact hb)⟩
  rename_i q1 q2 q3
  clear h g hB q1 q2 q3
  go_enter Try.func4, Try.ntmps4
  go_wp2_with fail
  refine CS.out.mono ?_
  rintro e w1 ⟨⟨r, rfl, hr⟩, hb1⟩
  have HB1 : Hid (Below B w w1) := hb1
  clear hb1 CS
  cases r with
  | false =>
    clear hr HC HT HG
    go_wp2_with fail
    refine (awake20_any _).mono ?_
    rintro e wz ⟨rfl, hbz⟩
    have HBZ : Hid (Below B w wz) := HB1.out.trans (hbz.mono (Nat.le_trans hB0.out HB1.out.size))
    clear hbz
    go_wp2
    go_ret
    exact ⟨rfl, HBZ.out⟩
  | true =>
    obtain ⟨htot, hTl⟩ := hr rfl
    clear hr
    by_cases h0 : size < 1
    · have hd1 : decide (size < 1) = true := decide_eq_true h0
      clear HC HT HG
      go_wp2_with fail
      refine (awake20_any _).mono ?_
      rintro e wz ⟨rfl, hbz⟩
      have HBZ : Hid (Below B w wz) := HB1.out.trans (hbz.mono (Nat.le_trans hB0.out HB1.out.size))
      clear hbz
      go_wp2
      go_ret
      exact ⟨rfl, HBZ.out⟩
    have hd1 : decide (size < 1) = false := decide_eq_false h0
    by_cases h1 : 100 < size
    · have hd2 : decide (100 < size) = true := decide_eq_true h1
      clear HC HT HG
      go_wp2_with fail
      refine (awake20_any _).mono ?_
      rintro e wz ⟨rfl, hbz⟩
      have HBZ : Hid (Below B w wz) := HB1.out.trans (hbz.mono (Nat.le_trans hB0.out HB1.out.size))
      clear hbz
      go_wp2
      go_ret
      exact ⟨rfl, HBZ.out⟩
    have hd2 : decide (100 < size) = false := decide_eq_false h1
    by_cases h2 : 20 < L.length
    · have hd3 : (20 : Int) < (L.length : Int) := by omega
      clear HC HT HG
      go_wp2_with fail
      refine (awake20_any _).mono ?_
      rintro e wz ⟨rfl, hbz⟩
      have HBZ : Hid (Below B w wz) := HB1.out.trans (hbz.mono (Nat.le_trans hB0.out HB1.out.size))
      clear hbz
      go_wp2
      go_ret
      exact ⟨rfl, HBZ.out⟩
    have hd3 : (L.length : Int) ≤ 20 := by omega
    have hd4 : decide ((20 : Int) < (L.length : Int)) = false := decide_eq_false (by omega)
    have hflat := tot_flat L
    have hW : L.flatten.length ≤ 400 := by omega
    have CM := Lib.hid (made_any _ T hTl w1 (HT.out w1 HB1.out))
    go_wp2_with fail
    refine CM.out.mono ?_
    rintro e w2 ⟨⟨m, x, rfl, hm, _⟩, hb2⟩
    have HB2 : Hid (Below B w w2) := HB1.out.trans (hb2.mono (Nat.le_trans hB0.out HB1.out.size))
    have HM : Hid (∀ w', Below w2.heap.size w2 w' → Mp w' w1.heap.size m (stV T T.length).1 (stV T T.length).2 (30 * T.length)) := fun w' hb => hm.below hb
    have hS2 : Hid (B ≤ w2.heap.size) := Nat.le_trans hB0.out HB2.out.size
    clear hm hb2 CM HT htot hflat
    generalize (stV T T.length).1 = V at *
    generalize (stV T T.length).2 = last at *
    have HFL : Hid (∀ k, k < L.length → (L.take (k + 1)).flatten.length = (L.take k).flatten.length + (L.getD k []).length) := fun k hk => by
      show _ = _
      rw [flat_take hk, List.length_append]
    have HFN : Hid (∀ k, (L.take k).flatten.length ≤ 400) := fun k => by have := flat_len_take L k; omega
    have HTA : Hid (L.take L.length = L) := List.take_length
    go_wp2
    go_loopw [14, 15] (fun nv iv wr => ∃ k : Nat, k ≤ L.length ∧ nv = .int .i64 ((L.take k).flatten.length : Nat) ∧ iv = .int .i64 k ∧ Hid (∀ j, j < k → ((L.getD j []).length : Int) ≤ size) ∧ wr = w2) (fun _ iv _ => L.length - (intOf iv).toNat)
    case atStart => exact ⟨0, Nat.zero_le _, rfl, rfl, fun j hj => absurd hj (Nat.not_lt_zero _), rfl⟩
    case round =>
      obtain ⟨k, hk, rfl, rfl, hfit, rfl⟩ := hrel
      by_cases hlt : k < L.length
      · obtain ⟨b, o, x2, c, rfl, hcell⟩ := HC.out k hlt
        have c0 := hcell _ HB2.out
        have hlt2 : (k : Int) < (L.length : Int) := by omega
        have e1 := HFL.out k hlt
        have f1 := HFN.out k
        have f3 := HFN.out (k + 1)
        rw [e1] at f3
        have E1 := Lib.hid e1
        have HFX : Hid (((L.getD k []).length : Int) ≤ size → ∀ j, j < k + 1 → ((L.getD j []).length : Int) ≤ size) := fun q j hj => by
          rcases Nat.lt_or_ge j k with h' | h'
          · exact hfit.out j h'
          · obtain rfl : j = k := by omega
            exact q
        clear HC HFL HFN HTA hcell e1 hfit HG
        generalize (L.getD k []).length = lr at *
        generalize (L.take k).flatten.length = n1 at *
        have hwr : IntKind.i64.wrap ((n1 : Int) + (lr : Int)) = (n1 : Int) + (lr : Int) := IntWalk.i64_in _ (by omega)
        by_cases hlr : size < (lr : Int)
        · have hq1 : decide (size < (lr : Int)) = true := decide_eq_true hlr
          clear HFX hlr
          go_wp2_with fail
          refine (awake20_any _).mono ?_
          rintro e wz ⟨rfl, hbz⟩
          have HBZ : Hid (Below B w wz) := HB2.out.trans (hbz.mono (Nat.le_trans hB0.out HB2.out.size))
          clear hbz
          go_wp2
          go_ret
          exact ⟨rfl, HBZ.out⟩
        · have hq1 : decide (size < (lr : Int)) = false := decide_eq_false hlr
          have HF1 := Lib.hid (HFX.out (by omega))
          clear HFX hlr
          go_wp2
          exact ⟨⟨k + 1, by omega, by rw [E1.out]; go_num, by go_num, HF1, trivial⟩, by simp [intOf]; omega⟩
      · obtain rfl : k = L.length := by omega
        rw [HTA.out]
        have HS0 : Hid (CeS wr.heap.size wr size L.length 0 (.slice a2 L.length cap2) L wr) := ⟨HG.out _ HB2.out, rfl, hfit.out, by omega, Below.refl _ _⟩
        have HLL : Hid (L.length ≤ 20) := by show _ ≤ _; omega
        clear HC HFL HFN HTA hfit HG hlt hk
        generalize L.length = n0 at *
        generalize wr = w2 at *
        go_wp2
        go_loopw [13, 14, 16] (fun lv nv iv wx => ∃ (i : Nat) (vl : Value) (L' : List (List Cp)), lv = vl ∧ nv = .int .i64 (L'.flatten.length : Nat) ∧ iv = .int .i64 i ∧ Hid (CeS w2.heap.size w2 size n0 i vl L' wx)) (fun _ _ iv _ => 500 - (intOf iv).toNat)
        case atStart => exact ⟨0, _, L, rfl, rfl, rfl, HS0⟩
        case round =>
          clear HS0
          obtain ⟨i, vl, L', rfl, rfl, rfl, hs⟩ := hrel
          obtain ⟨hsl, hln, hfit, hsum, hbw⟩ := hs.out
          generalize hnL : L'.flatten.length = nL at *
          have HNL := Lib.hid hnL
          clear hnL
          have hi5 : (i : Int) < 500 := by omega
          have hrow : ∀ r ∈ L', r.length ≤ 1000 := fun r hr => by
            obtain ⟨j, hj, rfl⟩ := List.getElem_of_mem hr
            have := hfit j hj
            rw [List.getD_eq_getElem?_getD, List.getElem?_eq_getElem hj] at this
            simp only [Option.getD_some] at this
            omega
          have hn20 := HLL.out
          obtain ⟨a13, c13, hv, _, _, _⟩ := SlG.form hsl
          subst hv
          have HMr : Hid (∀ w', Below wr.heap.size wr w' → Mp w' w1.heap.size m V last (30 * T.length)) := fun w' hb => HM.out w' (hbw.trans (hb.mono hbw.size))
          have CN : Hid (Calls Try.prog 13 #[.pointer (some ⟨m, 0, none⟩), .slice a13 L'.length c13, .int .i64 size, .int .i64 hz, .int .i64 now] wr fun e w' =>
              (∃ mv, e = .returned (.tuple #[.agg #[.int .i64 (nextZ V L' size hz now : Nat), mv, .int .i64 (nextD V L' size hz now)], .int .i64 (nextE V L' size hz now)]) ∧ OwnC w' wr.heap.size mv (nextM V L' size hz now)) ∧ Below wr.heap.size wr w') :=
            next_any (.slice a13 L'.length c13) L' (by omega) (fun r hr => by have := hrow r hr; omega) size hz now wr hsl (HMr.out _ (Below.refl _ _))
          have HRUN : Hid (∀ w' steps, Below wr.heap.size wr w' → Calls Try.prog 11 #[.pointer (some ⟨m, 0, none⟩), .slice a13 L'.length c13, .int .i64 size, .int .i64 hz, .int .i64 now, .int .i64 steps] w' fun e w'' =>
              (∃ v', e = .returned v' ∧ OwnG w'' w'.heap.size v' (runV V size hz now (stepsN steps) L')) ∧ Below w'.heap.size w' w'') := fun w' steps hb => run_any _ L' (by omega) hrow size hz now steps (by omega) w' (hsl.below hb) (HMr.out w' hb)
          have HSL : Hid (∀ w', Below wr.heap.size wr w' → SlR w' (.slice a13 L'.length c13) L') := fun w' hb => hsl.below hb
          have HKP := run_keep (V := V) (size := size) (hz := hz) (now := now) (stepsN 1) L'
          have HCASE : Hid ((runV V size hz now (stepsN 1) L' = L' ∧ runV V size hz now (stepsN 5) L' = L') ∨ (nextE V L' size hz now = 0 ∧ 1 ≤ nextD V L' size hz now ∧ ((runV V size hz now (stepsN 1) L').flatten.length : Int) = (nL : Int) - nextD V L' size hz now ∧
              ((nextM V L' size hz now).length : Int) + nextD V L' size hz now = size ∧ runV V size hz now (stepsN 1) L' ≠ L' ∧ ∀ j, j < (runV V size hz now (stepsN 1) L').length → (((runV V size hz now (stepsN 1) L').getD j []).length : Int) ≤ size)) := by
            have e1 : runV V size hz now (stepsN 1) L' = (stepV V size hz now L').getD L' := by rw [stepsN_one]; exact run_one V size hz now L'
            cases hst : stepV V size hz now L' with
            | none =>
              rw [hst] at e1
              exact .inl ⟨e1, runV_none hst _⟩
            | some L2 =>
              rw [hst] at e1
              obtain ⟨q1, q2, q3, q4, q5, _, q7⟩ := step_drops hst
              right
              rw [HNL.out] at q3
              rw [e1]
              exact ⟨q1, q2, q3, q4, q5, q7⟩
          have HR1 : Hid ((runV V size hz now (stepsN 1) L').length = n0) := HKP.len.trans hln
          have hR1f := HKP.all
          rw [HNL.out] at hR1f
          have HBr : Hid (Below B w wr) := HB2.out.trans (hbw.mono hS2.out)
          have HBb := Lib.hid hbw
          have HLN := Lib.hid hln
          have HSUM := Lib.hid hsum
          have hsf : nL ≤ 400 := by omega
          clear hs hsl hfit hbw hrow HKP HM hln hsum
          generalize hR5 : runV V size hz now (stepsN 5) L' = R5 at *
          have HR5 := Lib.hid hR5
          clear hR5
          generalize nextZ V L' size hz now = z at *
          generalize nextM V L' size hz now = ms at *
          generalize nextE V L' size hz now = er at *
          generalize nextD V L' size hz now = dr at *
          have HRU1 := HRUN.out
          go_wp2_with fail
          refine CN.out.mono ?_
          rintro e w3 ⟨⟨mv, rfl, hmv⟩, hb3⟩
          obtain ⟨am, cm, rfl⟩ := hmv.form
          have HB3 := Lib.hid hb3
          have HB4 : Hid (Below wr.heap.size wr (w3.alloc (.cells #[.int .i64 z, .slice am ms.length cm, .int .i64 dr] 37))) := HB3.out.alloc HB3.out.size _
          have HA : Hid ((w3.alloc (.cells #[.int .i64 z, .slice am ms.length cm, .int .i64 dr] 37)).heap[w3.heap.size]? = some (Obj.cells #[.int .i64 z, .slice am ms.length cm, .int .i64 dr] 37 (0, 0))) := heap_alloc_new _ _
          clear hmv hb3 CN HRU1
          go_wp2_with fail
          refine (HRUN.out _ 1 HB4.out).mono ?_
          rintro e w5 ⟨⟨v19, rfl, hg19⟩, hb5⟩
          generalize runV V size hz now (stepsN 1) L' = R1 at *
          have hR1n : R1.length ≤ 20 := by have := HR1.out; omega
          obtain ⟨us, hgu⟩ := hg19
          obtain ⟨a19, c19, rfl⟩ := row_form hgu.2.1
          have hA5 := (hb5.block _ (Array.getElem?_eq_some_iff.1 HA.out).1).trans HA.out
          have HA5 := Lib.hid hA5
          have k1 := cell_of (i := 1) hA5 rfl
          have k2 := cell_of (i := 2) hA5 rfl
          have HS5 : Hid (SlR w5 (.slice a19 R1.length c19) R1) := OwnG.slr ⟨us, hgu⟩
          have HB5 : Hid (Below wr.heap.size wr w5) := HB4.out.trans (hb5.mono HB4.out.size)
          have HBw5 : Hid (Below B w w5) := HBr.out.trans (HB5.out.mono (Nat.le_trans hB0.out HBr.out.size))
          have HC5 : Hid (∀ k, k < R1.length → ∃ b o x c, a19 = some ⟨b, o, none⟩ ∧ w5.cell? ⟨b, o + k, none⟩ = some (.slice x (R1.getD k []).length c)) := fun k hk => by
            obtain ⟨b, o, u, h1, h2, h3, h4⟩ := HS5.out.at rfl hk
            obtain ⟨x, c, rfl, _⟩ := SlG.form h4
            exact ⟨b, o, x, c, h1, h3⟩
          have HFL : Hid (∀ k, k < R1.length → (R1.take (k + 1)).flatten.length = (R1.take k).flatten.length + (R1.getD k []).length) := fun k hk => by
            show _ = _
            rw [flat_take hk, List.length_append]
          have HFN : Hid (∀ k, (R1.take k).flatten.length ≤ 400) := fun k => by have := flat_len_take R1 k; omega
          have HTA : Hid (R1.take R1.length = R1) := List.take_length
          clear hgu hb5 hA5 HB3 HB4 HA
          go_wp2
          go_loopw [20, 21] (fun nv iv wx => ∃ k : Nat, k ≤ R1.length ∧ nv = .int .i64 ((R1.take k).flatten.length : Nat) ∧ iv = .int .i64 k ∧ wx = w5) (fun _ iv _ => R1.length - (intOf iv).toNat)
          case atStart => exact ⟨0, Nat.zero_le _, rfl, rfl, rfl⟩
          case round =>
            obtain ⟨k, hk, rfl, rfl, rfl⟩ := hrel
            by_cases hlt : k < R1.length
            · obtain ⟨b, o, x2, c, rfl, c0⟩ := HC5.out k hlt
              have hlt2 : (k : Int) < (R1.length : Int) := by omega
              have e1 := HFL.out k hlt
              have f1 := HFN.out k
              have f3 := HFN.out (k + 1)
              rw [e1] at f3
              have E1 := Lib.hid e1
              clear HFL HFN HTA e1 HC5 HCASE
              generalize (R1.getD k []).length = lr at *
              generalize (R1.take k).flatten.length = n1 at *
              have hwr : IntKind.i64.wrap ((n1 : Int) + (lr : Int)) = (n1 : Int) + (lr : Int) := IntWalk.i64_in _ (by omega)
              go_wp2
              exact ⟨⟨k + 1, by omega, by rw [E1.out]; go_num, by go_num, trivial⟩, by simp [intOf]; omega⟩
            · obtain rfl : k = R1.length := by omega
              rw [HTA.out]
              generalize hnR : R1.flatten.length = nR at *
              have HNR := Lib.hid hnR
              clear hnR
              clear HFL HFN HTA HC5 hlt hk
              have HSLw := Lib.hid (HSL.out _ HB5.out)
              have CC := Lib.hid (copies_any _ _ R1 L' _ HS5.out HSLw.out)
              rcases HCASE.out with ⟨e1, e2⟩ | ⟨q1, q2, q3, q4, q5, q6⟩
              · have HD : Hid (decide (R1 = L') = true) := decide_eq_true e1
                rw [HD.out] at CC
                have E2 := Lib.hid e2
                clear HCASE e1 e2 k1 k2
                go_wp2_with fail
                refine CC.out.mono ?_
                rintro e w6 ⟨rfl, hb6⟩
                have HB6 := Lib.hid (HB5.out.trans (hb6.mono HB5.out.size))
                clear hb6 CC HSLw HS5
                go_wp2_with fail
                refine (HRUN.out _ 5 HB6.out).mono ?_
                rintro e w7 ⟨⟨v7, rfl, hg7⟩, hb7⟩
                rw [HR5.out, E2.out] at hg7
                obtain ⟨us7, hgu7⟩ := hg7
                obtain ⟨a7, c7, rfl⟩ := row_form hgu7.2.1
                have HB7 := Lib.hid (HB6.out.trans (hb7.mono HB6.out.size))
                have CC2 := Lib.hid (copies_any _ _ L' L' w7 (OwnG.slr ⟨us7, hgu7⟩) (HSL.out w7 HB7.out))
                have htt : decide (L' = L') = true := decide_eq_true rfl
                rw [htt] at CC2
                clear hgu7 hb7 HRUN htt
                go_wp2_with fail
                refine CC2.out.mono ?_
                rintro e w8 ⟨rfl, hb8⟩
                have HBY : Hid (Below B w w8) := HBr.out.trans ((HB7.out.trans (hb8.mono HB7.out.size)).mono (Nat.le_trans hB0.out HBr.out.size))
                clear hb8 CC2
                go_wp2_with fail
                refine (awake20_any _).mono ?_
                rintro e wz ⟨rfl, hbz⟩
                have HBZ : Hid (Below B w wz) := HBY.out.trans (hbz.mono (Nat.le_trans hB0.out HBY.out.size))
                clear hbz
                go_wp2
                go_ret
                exact ⟨rfl, HBZ.out⟩
              · have HD : Hid (decide (R1 = L') = false) := decide_eq_false q5
                rw [HD.out] at CC
                subst q1
                have hsum9 : i + 1 + R1.flatten.length ≤ 400 := by have h5 := HSUM.out; rw [HNR.out]; omega
                have HN : Hid (∀ w6, Below wr.heap.size wr w6 → CeS w2.heap.size w2 size n0 (i + 1) (.slice a19 R1.length c19) R1 w6) := fun w6 h6 => ⟨HS5.out.below h6, HR1.out, q6, hsum9, HBb.out.trans ((HB5.out.trans (h6.mono HB5.out.size)).mono HBb.out.size)⟩
                clear hsum9
                have hm1 : decide (dr < 1) = false := decide_eq_false (by omega)
                have hw1 : IntKind.i64.wrap ((nL : Int) - dr) = (nL : Int) - dr := IntWalk.i64_in _ (by omega)
                have hw2 : IntKind.i64.wrap ((ms.length : Int) + dr) = (ms.length : Int) + dr := IntWalk.i64_in _ (by omega)
                have hm2 : ((nR : Int) != (nL : Int) - dr) = false := by rw [q3]; simp
                have hm3 : ((ms.length : Int) + dr != size) = false := by rw [q4]; simp
                clear HCASE q2 q3 q4 q5 q6 k1 k2 HRUN HSLw
                go_wp2_with fail
                refine CC.out.mono ?_
                rintro e w6 ⟨rfl, hb6⟩
                have p6 := (hb6.block _ (Array.getElem?_eq_some_iff.1 HA5.out).1).trans HA5.out
                have k1 := cell_of (i := 1) p6 rfl
                have k2 := cell_of (i := 2) p6 rfl
                have HN6 := Lib.hid (HN.out w6 hb6)
                clear p6 hb6 CC HS5
                go_wp2
                exact ⟨⟨i + 1, _, R1, rfl, by rw [HNR.out], by go_num, HN6⟩, by simp [intOf]; omega⟩
end Go.Proofs.Ytkpnjehgbehhcaa
