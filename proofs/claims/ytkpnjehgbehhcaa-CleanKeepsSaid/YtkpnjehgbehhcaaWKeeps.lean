/- The walk of CleanKeeps: the law returns true. -/
import Derived.Test.YtkpnjehgbehhcaaAwk
import Derived.Test.YtkpnjehgbehhcaaRnw
import Derived.Test.YtkpnjehgbehhcaaKpp
import Derived.Test.YtkpnjehgbehhcaaEqc
namespace Go.Proofs.Ytkpnjehgbehhcaa
open Go.RowKit Fl

/-- the rows that were and are behind the first k zones -/
def KpS (B2 : Nat) (w3 : World) (L R : List (List Cp)) (k : Nat) (v u : Value) (w : World) : Prop :=
  OwnC w B2 v (L.take k).flatten ∧ OwnC w B2 u (R.take k).flatten ∧ Apart v u ∧ Below B2 w3 w
theorem KpS.stepv {B2 : Nat} {w3 w w1 : World} {L R : List (List Cp)} {k : Nat} {v u v1 : Value} (h : KpS B2 w3 L R k v u w) (hB : B2 ≤ w.heap.size) (ho : OwnC w1 B2 v1 (L.take (k + 1)).flatten) (hg : w.grownBy w1 v.ownBlock) (hat : v1.ownBlock = v.ownBlock ∨ v1.ownBlock = some w.heap.size) :
    OwnC w1 B2 v1 (L.take (k + 1)).flatten ∧ OwnC w1 B2 u (R.take k).flatten ∧ Apart v1 u ∧ Below B2 w3 w1 := by
  obtain ⟨h1, h2, h3, h4⟩ := h
  refine ⟨ho, ownsRow_keep h2 fun g hgu => hg.block g (ownsRow_lt h2 hgu) fun e => h3 g e.symm hgu, h3.grow1 hat (fun _ hgu => ownsRow_lt h2 hgu), below_own h1 hg h4 (Nat.le_refl _) hB⟩
theorem KpS.stepu {B2 : Nat} {w3 w w1 : World} {A C : List Cp} {v u u1 : Value} (h1 : OwnC w B2 v A) (h2 : OwnC w B2 u C) (h3 : Apart v u) (h4 : Below B2 w3 w) (hB : B2 ≤ w.heap.size) (hg : w.grownBy w1 u.ownBlock) (hat : u1.ownBlock = u.ownBlock ∨ u1.ownBlock = some w.heap.size) :
    OwnC w1 B2 v A ∧ Apart v u1 ∧ Below B2 w3 w1 :=
  ⟨ownsRow_keep h1 fun g hgv => hg.block g (ownsRow_lt h1 hgv) fun e => h3 g hgv e.symm, h3.grow2 hat (fun _ hgv => ownsRow_lt h1 hgv), below_own h2 hg h4 (Nat.le_refl _) hB⟩

set_option maxHeartbeats 6400000 in
set_option maxRecDepth 16000 in
theorem walk_CleanKeeps (w : World) (v : Value) (T : List Tx) (h : SlT w v T) (u : Value) (L : List (List Cp)) (g : SlR w u L) (size : Int) (_ : (Lit.int .i64 size).wf = true) (hz : Int) (_ : (Lit.int .i64 hz).wf = true) (now : Int) (_ : (Lit.int .i64 now).wf = true) (steps : Int) (_ : (Lit.int .i64 steps).wf = true) :
    Calls Try.prog 3 #[v, u, .int .i64 size, .int .i64 hz, .int .i64 now, .int .i64 steps] w fun e w' => e = .returned (.bool true) ∧ Below w.heap.size w w' := by
  obtain ⟨a, cap, rfl, ha, hle, hcap⟩ := SlG.form h
  obtain ⟨a2, cap2, rfl, ha2, hle2, hcap2⟩ := SlG.form g
  have CS := Lib.hid (small_any _ _ T L w h g)
  generalize hB : w.heap.size = B at *
  have hB0 : Hid (B ≤ w.heap.size) := Nat.le_of_eq hB.symm
  have HT : Hid (∀ w', Below B w w' → SlT w' (.slice a T.length cap) T) := fun w' hb => h.below (by rw [hB]; exact hb)
  have HG : Hid (∀ w', Below B w w' → SlR w' (.slice a2 L.length cap2) L) := fun w' hb => g.below (by rw [hB]; exact hb)
  have HC : Hid (∀ k, k < L.length → ∃ b o x c, a2 = some ⟨b, o, none⟩ ∧ ∀ w', Below B w w' → w'.cell? ⟨b, o + k, none⟩ = some (.slice x (L.getD k []).length c) ∧ SlC w' (.slice x (L.getD k []).length c) (L.getD k [])) := fun k hk => by
    obtain ⟨b, o, u, h1, h2, h3, h4⟩ := g.at rfl hk
    obtain ⟨x, c, rfl, _⟩ := SlG.form h4
    exact ⟨b, o, x, c, h1, fun w' hb => ⟨cell_keep h3 (by rw [hB]; exact hb), h4.below (by rw [hB]; exact hb)⟩⟩
  rename_i q1 q2 q3 q4
  clear h g hB q1 q2 q3 q4
  go_enter Try.func3, Try.ntmps3
  go_wp2_with fail
  refine CS.out.mono ?_
  rintro e w1 ⟨⟨r, rfl, hr⟩, hb1⟩
  have HB1 : Hid (Below B w w1) := hb1
  clear hb1 CS
  cases r with
  | false =>
    clear hr HC HT HG
    go_wp2_with fail
    refine (awake20_any _).mono ?_
    rintro e wz ⟨rfl, hbz⟩
    have HBZ : Hid (Below B w wz) := HB1.out.trans (hbz.mono (Nat.le_trans hB0.out HB1.out.size))
    clear hbz
    go_wp2
    go_ret
    exact ⟨rfl, HBZ.out⟩
  | true =>
    obtain ⟨htot, hTl⟩ := hr rfl
    clear hr
    by_cases h1 : 1000 < size
    · have hd2 : decide (1000 < size) = true := decide_eq_true h1
      clear HC HT HG
      go_wp2_with fail
      refine (awake20_any _).mono ?_
      rintro e wz ⟨rfl, hbz⟩
      have HBZ : Hid (Below B w wz) := HB1.out.trans (hbz.mono (Nat.le_trans hB0.out HB1.out.size))
      clear hbz
      go_wp2
      go_ret
      exact ⟨rfl, HBZ.out⟩
    have hd2 : decide (1000 < size) = false := decide_eq_false h1
    have hflat := tot_flat L
    have hLlen : L.length ≤ 1000 := by omega
    have hLrow : ∀ r ∈ L, r.length ≤ 1000 := fun r hr => by have := row_tot hr; omega
    have hW : L.flatten.length ≤ 400 := by omega
    have CM := Lib.hid (made_any _ T hTl w1 (HT.out w1 HB1.out))
    go_wp2_with fail
    refine CM.out.mono ?_
    rintro e w2 ⟨⟨m, x, rfl, hm, _⟩, hb2⟩
    have HB2 : Hid (Below B w w2) := HB1.out.trans (hb2.mono (Nat.le_trans hB0.out HB1.out.size))
    have CR := Lib.hid (run_any _ L hLlen hLrow size hz now steps (by omega) w2 (HG.out w2 HB2.out) hm)
    have HM : Hid (∀ w', Below w2.heap.size w2 w' → Mp w' w1.heap.size m (stV T T.length).1 (stV T T.length).2 (30 * T.length)) := fun w' hb => hm.below hb
    clear hm hb2 CM HT HG hLrow htot hflat
    generalize (stV T T.length).1 = V at *
    generalize (stV T T.length).2 = last at *
    have HKP := Lib.hid (run_keep (V := V) (size := size) (hz := hz) (now := now) (stepsN steps) L)
    generalize runV V size hz now (stepsN steps) L = R at *
    go_wp2_with fail
    refine CR.out.mono ?_
    rintro e w3 ⟨⟨vr, rfl, hgr⟩, hb3⟩
    have hRl := HKP.out.len
    have HRC : Hid (∃ a3 c3, vr = .slice a3 R.length c3) := by obtain ⟨us, hg⟩ := hgr; exact row_form hg.2.1
    obtain ⟨a3, c3, rfl⟩ := HRC.out
    have HRC2 : Hid (∀ k, k < R.length → ∃ b o x c, a3 = some ⟨b, o, none⟩ ∧ ∀ w', Below w3.heap.size w3 w' → w'.cell? ⟨b, o + k, none⟩ = some (.slice x (R.getD k []).length c) ∧ SlC w' (.slice x (R.getD k []).length c) (R.getD k [])) := fun k hk => by
      obtain ⟨b, o, u, h1, h2, h3, h4⟩ := hgr.slr.at rfl hk
      obtain ⟨x, c, rfl, _⟩ := SlG.form h4
      exact ⟨b, o, x, c, h1, fun w' hb => ⟨cell_keep h3 hb, h4.below hb⟩⟩
    have HB3 : Hid (Below B w w3) := HB2.out.trans (hb3.mono (Nat.le_trans hB0.out HB2.out.size))
    have HM3 : Hid (∀ w', Below w3.heap.size w3 w' → Mp w' w1.heap.size m V last (30 * T.length)) := fun w' hb => HM.out w' (hb3.trans (hb.mono hb3.size))
    have hS3 : Hid (B ≤ w3.heap.size) := Nat.le_trans hB0.out HB3.out.size
    clear hgr hb3 HRC HM CR
    rw [hRl] at HRC2 ⊢
    clear hRl
    have hI : R.flatten.length ≤ L.flatten.length := HKP.out.all
    generalize hB2 : w3.heap.size = B2 at *
    have hB2e : Hid (w3.heap.size = B2) := hB2
    clear hB2
    have HFL : Hid (∀ k, k < L.length → (L.take (k + 1)).flatten = (L.take k).flatten ++ L.getD k [] ∧ (R.take (k + 1)).flatten = (R.take k).flatten ++ R.getD k []) := fun k hk => ⟨flat_take hk, flat_take (by rw [HKP.out.len]; exact hk)⟩
    have HFN : Hid (∀ k, (L.take k).flatten.length ≤ 400 ∧ (R.take k).flatten.length ≤ 400) := fun k => ⟨by have := flat_len_take L k; omega, by have := flat_len_take R k; omega⟩
    have HTA : Hid (L.take L.length = L ∧ R.take L.length = R) := ⟨List.take_length, by rw [← HKP.out.len]; exact List.take_length⟩
    go_wp2
    go_loopw [16, 17, 18] (fun vv uv iv wr => ∃ (k : Nat) (v1 u1 : Value), k ≤ L.length ∧ vv = v1 ∧ uv = u1 ∧ iv = .int .i64 k ∧ Hid (KpS B2 w3 L R k v1 u1 wr)) (fun _ _ iv _ => L.length - (intOf iv).toNat)
    case atStart => exact ⟨0, _, _, Nat.zero_le _, rfl, rfl, rfl, World.ownsRow_nil _ _ _ 2, World.ownsRow_nil _ _ _ 2, (fun _ h => nomatch h), Below.refl _ _⟩
    case round =>
      obtain ⟨k, v1, u1, hk, rfl, rfl, rfl, hs⟩ := hrel
      have HBr : Hid (Below B w wr) := HB3.out.trans (hs.out.2.2.2.mono hS3.out)
      have hSr : Hid (B2 ≤ wr.heap.size) := by have h5 := hs.out.2.2.2.size; have h6 := hB2e.out; show _ ≤ _; omega
      by_cases hlt : k < L.length
      · obtain ⟨b, o, x, c, rfl, hcell⟩ := HC.out k hlt
        obtain ⟨b3, o3, x3, c3', rfl, hcell3⟩ := HRC2.out k hlt
        obtain ⟨c0, hsc⟩ := hcell wr HBr.out
        have hlt2 : (k : Int) < (L.length : Int) := by omega
        obtain ⟨e1, e2⟩ := HFL.out k hlt
        obtain ⟨f1, f2⟩ := HFN.out k
        obtain ⟨f3, f4⟩ := HFN.out (k + 1)
        rw [e1, List.length_append] at f3
        rw [e2, List.length_append] at f4
        have E1 := Lib.hid e1
        have E2 := Lib.hid e2
        have HRW := Lib.hid (HKP.out.rows k hlt)
        have HSC := Lib.hid hsc.src
        have HCE : Hid (∀ w', Below B w w' → w'.cell? ⟨b, o + k, none⟩ = some (.slice x (L.getD k []).length c)) := fun w' hb => (hcell w' hb).1
        have HCR : Hid (∀ w', Below B2 w3 w' → w'.cell? ⟨b3, o3 + k, none⟩ = some (.slice x3 (R.getD k []).length c3') ∧ Src w' (.slice x3 (R.getD k []).length c3') (R.getD k []).length (flatC (R.getD k []))) := fun w' hb => ⟨(hcell3 w' hb).1, (hcell3 w' hb).2.src⟩
        clear HC HRC2 HFL HFN HTA hcell hcell3 hsc e1 e2 HKP HM3
        generalize L.getD k [] = lr at *
        generalize R.getD k [] = rr at *
        have hq : (decide (size < (rr.length : Int)) = true ∧ decide ((lr.length : Int) ≤ size) = false) ∨ decide (size < (rr.length : Int)) = false := by
          by_cases hrr : size < (rr.length : Int)
          · exact .inl ⟨decide_eq_true hrr, decide_eq_false (fun hl => by have := HRW.out hl; omega)⟩
          · exact .inr (decide_eq_false hrr)
        clear HRW
        rcases hq with ⟨hq1, hq2⟩ | hq1
        all_goals
          go_wp2_with (first
            | (at_builtin; refine wpList_appG rfl (.tmp 58) (.tmp 62) B2 31 33 (.agg #[.int .i64 0, .int .i64 0]) 2 16 rfl Try.underlying31 infoC rfl (by decide) u16 _ _ rfl hs.out.1 (.slice x lr.length c) lr.length (flatC lr) rfl HSC.out (flatC_len lr) flatC_one (by omega) (by unfold maxLen; omega) hSr.out ?_
               intro v5 w5 ho5 hg5 hat5
               have hk5 : OwnC w5 B2 v5 (L.take (k + 1)).flatten := by
                 show w5.ownsRow _ _ _ _ _ _
                 rw [E1.out, flatC_app, List.length_append]
                 exact ho5
               have HK5 := Lib.hid (hs.out.stepv hSr.out hk5 hg5 hat5)
               obtain ⟨c1, hsr⟩ := HCR.out w5 HK5.out.2.2.2
               have HSR := Lib.hid hsr
               have HB5 : Hid (Below B w w5) := HB3.out.trans (HK5.out.2.2.2.mono hS3.out)
               have hS5 : Hid (B2 ≤ w5.heap.size) := by have h5 := HK5.out.2.2.2.size; have h6 := hB2e.out; show _ ≤ _; omega
               clear ho5 hg5 hat5 hk5 hsr)
            | (at_builtin; refine wpList_appG rfl (.tmp 64) (.tmp 68) B2 31 33 (.agg #[.int .i64 0, .int .i64 0]) 2 16 rfl Try.underlying31 infoC rfl (by decide) u17 _ _ rfl HK5.out.2.1 (.slice x3 rr.length c3') rr.length (flatC rr) rfl HSR.out (flatC_len rr) flatC_one (by omega) (by unfold maxLen; omega) hS5.out ?_
               intro v6 w6 ho6 hg6 hat6
               obtain ⟨p1, p2, p3⟩ := KpS.stepu HK5.out.1 HK5.out.2.1 HK5.out.2.2.1 HK5.out.2.2.2 hS5.out hg6 hat6
               have HK6 : Hid (KpS B2 w3 L R (k + 1) v5 v6 w6) := by
                 refine ⟨p1, ?_, p2, p3⟩
                 show w6.ownsRow _ _ _ _ _ _
                 rw [E2.out, flatC_app, List.length_append]
                 exact ho6
               have d0 := HCE.out w6 (HB3.out.trans (p3.mono hS3.out))
               have d1 := (HCR.out w6 p3).1
               clear ho6 hg6 hat6 p1 p2 p3)
            | fail)
          exact ⟨⟨k + 1, _, _, by omega, rfl, rfl, by go_num, HK6⟩, by simp [intOf]; omega⟩
      · obtain rfl : k = L.length := by omega
        obtain ⟨t1, t2⟩ := HTA.out
        obtain ⟨o1, o2, _, o4⟩ := hs.out
        rw [t1] at o1
        rw [t2] at o2
        obtain ⟨av, cv, hv⟩ := OwnC.form o1
        obtain ⟨au, cu, hu⟩ := OwnC.form o2
        subst hv
        subst hu
        have HLV : Hid (∀ c, (liveV V c hz = true → R.flatten.count c = L.flatten.count c) ∧ R.flatten.count c ≤ L.flatten.count c) := fun c => ⟨HKP.out.live c, HKP.out.less c⟩
        have HMr : Hid (∀ w', Below wr.heap.size wr w' → Mp w' w1.heap.size m V last (30 * T.length)) := fun w' hb => HM3.out w' (o4.trans (hb.mono hSr.out))
        have R1 := Lib.hid (o1.slc.rd (B := wr.heap.size) rfl)
        have R2 := Lib.hid (o2.slc.rd (B := wr.heap.size) rfl)
        clear HC HRC2 HFL HFN HTA HKP HM3 o1 o2 o4 t1 t2 hs HB3 hS3
        generalize L.flatten = W at *
        generalize R.flatten = I at *
        generalize wr = w4 at *
        go_wp2
        go_loopw [19] (fun iv wx => ∃ i : Nat, i ≤ W.length ∧ iv = .int .i64 i ∧ Hid (Below w4.heap.size w4 wx)) (fun iv _ => W.length - (intOf iv).toNat)
        case atStart => exact ⟨0, Nat.zero_le _, rfl, Below.refl _ _⟩
        case round =>
          obtain ⟨i, hi, rfl, hb⟩ := hrel
          by_cases hil : i < W.length
          · obtain ⟨b, o, rfl, hci⟩ := R1.out i hil
            have hil2 : (i : Int) < (W.length : Int) := by omega
            have HCI : Hid (∀ w', Below w4.heap.size w4 w' → w'.cell? ⟨b, o + i * 2, none⟩ = some (.int .i64 (W.getD i (0, 0)).1) ∧ w'.cell? ⟨b, o + i * 2 + 1, none⟩ = some (.int .i64 (W.getD i (0, 0)).2)) := fun w' h' => hci w' h'
            have HLC := Lib.hid (HLV.out (W.getD i (0, 0)))
            clear hci
            generalize W.getD i (0, 0) = c at *
            go_wp2
            go_loopw [20, 22] (fun av kv wx => ∃ k : Nat, k ≤ W.length ∧ av = .int .i64 ((W.take k).count c : Nat) ∧ kv = .int .i64 k ∧ Hid (Below w4.heap.size w4 wx)) (fun _ kv _ => W.length - (intOf kv).toNat)
            case atStart => exact ⟨0, Nat.zero_le _, by simp, rfl, hb⟩
            case round =>
              clear hb
              obtain ⟨k, hk, rfl, rfl, hb⟩ := hrel
              by_cases hkl : k < W.length
              · obtain ⟨b', o', hbo, hck⟩ := R1.out k hkl
                obtain ⟨rfl, rfl, _⟩ : b = b' ∧ o = o' ∧ True := by simp at hbo; exact ⟨hbo.1, hbo.2, trivial⟩
                obtain ⟨x0, x1⟩ := hck wr hb
                obtain ⟨y0, y1⟩ := HCI.out wr hb.out
                have hkl2 : (k : Int) < (W.length : Int) := by omega
                have HCT := Lib.hid (count_take (c := c) hkl)
                have hcl : (W.take k).count c ≤ 400 := Nat.le_trans List.count_le_length (by rw [List.length_take]; omega)
                have hwr : IntKind.i64.wrap (((W.take k).count c : Int) + 1) = ((W.take k).count c : Int) + 1 := IntWalk.i64_in _ (by omega)
                clear hck HLV HLC
                generalize W.getD k (0, 0) = d at *
                obtain ⟨d0, d1⟩ := d
                obtain ⟨c0, c1⟩ := c
                have hqq := fun w => eqlC w d0 d1 c0 c1
                have hgg := egC
                have hcs : (((d0 == c0) = true ∧ (d1 == c1) = true) ∧ Hid ((W.take (k + 1)).count (c0, c1) = (W.take k).count (c0, c1) + 1)) ∨ ((d0 == c0) = true ∧ (d1 == c1) = false ∧ Hid ((W.take (k + 1)).count (c0, c1) = (W.take k).count (c0, c1))) ∨ ((d0 == c0) = false ∧ Hid ((W.take (k + 1)).count (c0, c1) = (W.take k).count (c0, c1))) := by
                  have h5 := HCT.out
                  by_cases e0 : d0 = c0
                  · by_cases e1 : d1 = c1
                    · rw [if_pos (by rw [e0, e1])] at h5
                      exact .inl ⟨⟨beq_iff_eq.2 e0, beq_iff_eq.2 e1⟩, h5⟩
                    · rw [if_neg (fun h => e1 (Prod.mk.inj h).2)] at h5
                      exact .inr (.inl ⟨beq_iff_eq.2 e0, beq_eq_false_iff_ne.2 e1, h5⟩)
                  · rw [if_neg (fun h => e0 (Prod.mk.inj h).1)] at h5
                    exact .inr (.inr ⟨beq_eq_false_iff_ne.2 e0, h5⟩)
                clear HCT
                generalize hcn : (W.take k).count (c0, c1) = cn at *
                have HCN := Lib.hid hcn
                clear hcn
                rcases hcs with ⟨⟨e0, e1⟩, hn⟩ | ⟨e0, e1, hn⟩ | ⟨e0, hn⟩
                · go_wp2
                  go_quiet (fail)
                  go_wp2
                  exact ⟨⟨k + 1, by omega, by rw [hn.out]; go_num, by go_num, below_drewN hb.out _⟩, by simp [intOf]; omega⟩
                · go_wp2
                  go_quiet (fail)
                  go_wp2
                  exact ⟨⟨k + 1, by omega, by rw [hn.out], by go_num, below_drewN hb.out _⟩, by simp [intOf]; omega⟩
                · go_wp2
                  go_quiet (fail)
                  go_wp2
                  exact ⟨⟨k + 1, by omega, by rw [hn.out], by go_num, below_drewN hb.out _⟩, by simp [intOf]; omega⟩
              obtain rfl : k = W.length := by omega
              rw [List.take_length]
              clear hk hkl
              go_wp2
              go_loopw [21, 23] (fun av kv wx => ∃ k : Nat, k ≤ I.length ∧ av = .int .i64 ((I.take k).count c : Nat) ∧ kv = .int .i64 k ∧ Hid (Below w4.heap.size w4 wx)) (fun _ kv _ => I.length - (intOf kv).toNat)
              case atStart => exact ⟨0, Nat.zero_le _, by simp, rfl, hb⟩
              case round =>
                clear hb
                obtain ⟨k, hk, rfl, rfl, hb⟩ := hrel
                by_cases hkl : k < I.length
                · obtain ⟨b2, o2, rfl, hck⟩ := R2.out k hkl
                  obtain ⟨x0, x1⟩ := hck wr hb
                  obtain ⟨y0, y1⟩ := HCI.out wr hb.out
                  have hkl2 : (k : Int) < (I.length : Int) := by omega
                  have HCT := Lib.hid (count_take (c := c) hkl)
                  have hcl : (I.take k).count c ≤ 400 := Nat.le_trans List.count_le_length (by rw [List.length_take]; omega)
                  have hwr : IntKind.i64.wrap (((I.take k).count c : Int) + 1) = ((I.take k).count c : Int) + 1 := IntWalk.i64_in _ (by omega)
                  clear hck HLV HLC
                  generalize I.getD k (0, 0) = d at *
                  obtain ⟨d0, d1⟩ := d
                  obtain ⟨c0, c1⟩ := c
                  have hqq := fun w => eqlC w d0 d1 c0 c1
                  have hgg := egC
                  have hcs : (((d0 == c0) = true ∧ (d1 == c1) = true) ∧ Hid ((I.take (k + 1)).count (c0, c1) = (I.take k).count (c0, c1) + 1)) ∨ ((d0 == c0) = true ∧ (d1 == c1) = false ∧ Hid ((I.take (k + 1)).count (c0, c1) = (I.take k).count (c0, c1))) ∨ ((d0 == c0) = false ∧ Hid ((I.take (k + 1)).count (c0, c1) = (I.take k).count (c0, c1))) := by
                    have h5 := HCT.out
                    by_cases e0 : d0 = c0
                    · by_cases e1 : d1 = c1
                      · rw [if_pos (by rw [e0, e1])] at h5
                        exact .inl ⟨⟨beq_iff_eq.2 e0, beq_iff_eq.2 e1⟩, h5⟩
                      · rw [if_neg (fun h => e1 (Prod.mk.inj h).2)] at h5
                        exact .inr (.inl ⟨beq_iff_eq.2 e0, beq_eq_false_iff_ne.2 e1, h5⟩)
                    · rw [if_neg (fun h => e0 (Prod.mk.inj h).1)] at h5
                      exact .inr (.inr ⟨beq_eq_false_iff_ne.2 e0, h5⟩)
                  clear HCT
                  generalize hcn : (I.take k).count (c0, c1) = cn at *
                  have HCN := Lib.hid hcn
                  clear hcn
                  rcases hcs with ⟨⟨e0, e1⟩, hn⟩ | ⟨e0, e1, hn⟩ | ⟨e0, hn⟩
                  · go_wp2
                    go_quiet (fail)
                    go_wp2
                    exact ⟨⟨k + 1, by omega, by rw [hn.out]; go_num, by go_num, below_drewN hb.out _⟩, by simp [intOf]; omega⟩
                  · go_wp2
                    go_quiet (fail)
                    go_wp2
                    exact ⟨⟨k + 1, by omega, by rw [hn.out], by go_num, below_drewN hb.out _⟩, by simp [intOf]; omega⟩
                  · go_wp2
                    go_quiet (fail)
                    go_wp2
                    exact ⟨⟨k + 1, by omega, by rw [hn.out], by go_num, below_drewN hb.out _⟩, by simp [intOf]; omega⟩
                obtain rfl : k = I.length := by omega
                rw [List.take_length]
                have hltc : decide ((W.count c : Int) < (I.count c : Int)) = false := decide_eq_false (by have := HLC.out.2; omega)
                have hle9 : I.count c ≤ W.count c := HLC.out.2
                have CL := Lib.hid (live_any c hz wr (HMr.out wr hb.out))
                have HLE := Lib.hid HLC.out.1
                obtain ⟨y0, y1⟩ := HCI.out wr hb.out
                clear HLV HLC hk hkl
                obtain ⟨c0, c1⟩ := c
                have hne : liveV V (c0, c1) hz = true → ((W.count (c0, c1) : Int) != (I.count (c0, c1) : Int)) = false := fun q => by rw [HLE.out q]; simp
                clear HLE
                generalize W.count (c0, c1) = n1 at *
                generalize I.count (c0, c1) = n2 at *
                generalize liveV V (c0, c1) hz = lv at *
                cases lv with
                | true =>
                  have hne2 := hne rfl
                  clear hne
                  go_wp2_with fail
                  refine CL.out.mono ?_
                  rintro e w5 ⟨rfl, hb5⟩
                  have HB5 : Hid (Below w4.heap.size w4 w5) := hb.out.trans (hb5.mono hb.out.size)
                  clear hb5 CL
                  go_wp2
                  exact ⟨⟨i + 1, by omega, by go_num, HB5⟩, by simp [intOf]; omega⟩
                | false =>
                  clear hne
                  go_wp2_with fail
                  refine CL.out.mono ?_
                  rintro e w5 ⟨rfl, hb5⟩
                  have HB5 : Hid (Below w4.heap.size w4 w5) := hb.out.trans (hb5.mono hb.out.size)
                  clear hb5 CL
                  go_wp2
                  exact ⟨⟨i + 1, by omega, by go_num, HB5⟩, by simp [intOf]; omega⟩
          · have hdl : decide ((I.length : Int) ≤ (W.length : Int)) = true := decide_eq_true (by omega)
            have HBF : Hid (Below B w wr) := HBr.out.trans (hb.out.mono (Nat.le_trans hB0.out HBr.out.size))
            clear HLV R1 R2 HMr
            go_wp2_with fail
            refine (awake20_any _).mono ?_
            rintro e wz ⟨rfl, hbz⟩
            have HBZ : Hid (Below B w wz) := HBF.out.trans (hbz.mono (Nat.le_trans hB0.out HBF.out.size))
            clear hbz
            go_wp2
            go_ret
            exact ⟨rfl, HBZ.out⟩
end Go.Proofs.Ytkpnjehgbehhcaa
