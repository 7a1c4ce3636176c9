/- The library's Clone at copies; clean's Run. -/
import Derived.Test.YtkpnjehgbehhcaaRnp
namespace Go.Proofs.Ytkpnjehgbehhcaa
open Go.RowKit Fl

set_option maxHeartbeats 1600000 in
set_option maxRecDepth 8000 in
theorem cloneC_any (v : Value) (l : List Cp) (hn : l.length ≤ 1000000) (w : World) (h : SlC w v l) :
    Calls Try.prog 30 #[v] w fun e w' => (∃ v', e = .returned v' ∧ OwnC w' w.heap.size v' l) ∧ Below w.heap.size w w' := by
  have hsrc := h.src
  obtain ⟨a, cap, rfl, h0, _, _⟩ := SlG.form h
  have HS : Hid (∀ w', Below w.heap.size w w' → Src w' (.slice a l.length cap) l.length (flatC l)) := fun w' hb => hsrc.below hb
  have hone : Hid (∀ u ∈ flatC l, u.oneCell' = true) := flatC_one
  have hL : Hid ((flatC l).length = l.length * 2) := flatC_len l
  have hnil : Hid (a = none → l = []) := fun ha => by
    subst ha
    rcases hsrc with ⟨_, h1, _⟩ | ⟨_, _, h2, _⟩
    · exact List.eq_nil_of_length_eq_zero h1
    · cases h2
  clear hsrc h
  generalize hB : w.heap.size = B at *
  have hB0 : Hid (B = w.heap.size) := hB.symm
  cases a with
  | none =>
    obtain rfl : l = [] := hnil.out rfl
    obtain rfl : cap = 0 := h0 rfl
    have hq := fun w => Lib.run_eql_slice_nil (P := Try.prog) w 31 33 none 0 0 0 0 Try.underlying31
    have hw : Hid (Below B w w) := Below.refl B w
    clear HS hB
    go_enter Try.func30, Try.ntmps30
    go_wp2
    go_ret
    exact ⟨⟨_, rfl, World.ownsRow_nil w B _ 2⟩, hw.out⟩
  | some ad =>
    have hq := fun w => Lib.run_eql_slice_nil (P := Try.prog) w 31 33 (some ad) l.length cap 0 0 Try.underlying31
    have H1 : Hid ((w.alloc (.cells #[] 33)).ownsRow B 33 2 (.slice (some ⟨w.heap.size, 0, none⟩) 0 0) 0 []) := ownsRow_empty (heap_alloc_new w _) (Nat.le_of_eq hB.symm)
    have H2 : Hid (Below B w (w.alloc (.cells #[] 33))) := (Below.refl B w).alloc (Nat.le_of_eq hB.symm) _
    have H3 : Hid (B ≤ (w.alloc (.cells #[] 33)).heap.size) := by show B ≤ _; rw [← hB]; simp
    clear hB
    go_enter Try.func30, Try.ntmps30
    go_wp2_with (first | (at_builtin; refine wpList_appG rfl _ _ B 31 33 (.agg #[.int .i64 0, .int .i64 0]) 2 16 rfl Try.underlying31 infoC rfl (by decide) _ 0 [] rfl H1.out _ l.length (flatC l) rfl (HS.out _ H2.out) hL.out hone.out (by omega) (by unfold maxLen; omega) H3.out ?_; intro v' w' ho hg hat) | fail)
    go_ret
    refine ⟨⟨_, rfl, ?_⟩, ?_⟩
    · have h5 := ho
      rw [Nat.zero_add, List.nil_append] at h5
      exact h5
    · exact H2.out.grown hg H3.out (fun k hk => by
        have : w.heap.size = k := Option.some.inj hk
        have := hB0.out
        omega)

def stepsN (steps : Int) : Nat := (min (max steps 0) 1000).toNat
theorem stepV_long {V : Int → List Int} {size hz now : Int} {L L' : List (List Cp)} (h : stepV V size hz now L = some L') (hL : ∀ r ∈ L, r.length ≤ 1000) (hsz : size ≤ 1000) : L'.length = L.length ∧ ∀ r ∈ L', r.length ≤ 1000 := by
  unfold stepV at h
  split at h
  · cases hf : findI L size (nextZ V L size hz now) (nextM V L size hz now).length with
    | none => rw [hf] at h; cases h
    | some i =>
      rw [hf] at h
      obtain rfl := Option.some.inj h
      obtain ⟨h1, _, h3⟩ := findI_spec hf
      refine ⟨by rw [List.length_set, List.length_set], fun r hr => ?_⟩
      rcases List.mem_or_eq_of_mem_set hr with hr | rfl
      · rcases List.mem_or_eq_of_mem_set hr with hr | rfl
        · exact hL r hr
        · rw [List.length_append]; omega
      · simp
  · cases h

theorem nextZ_lt {V : Int → List Int} {L : List (List Cp)} {size hz now : Int} (h : nextE V L size hz now = 0) : nextZ V L size hz now < L.length ∧ 1 ≤ size := by
  have h0 := h
  unfold nextE at h
  split at h
  · rename_i ha
    have hr : nextR V L size hz now ≠ [] := fun e => by
      unfold chE at h
      rw [if_pos e] at h
      cases h
    have := (fullN_mem (nextK_place hr)).1
    unfold nextZ
    rw [if_pos h0]
    refine ⟨this, ?_⟩
    unfold nextA at ha
    simp only [Bool.and_eq_true, Bool.not_eq_true', decide_eq_false_iff_not] at ha
    omega
  · cases h
/-- what Run's loop begins a round with -/
def RunS (B : Nat) (w0 : World) (V : Int → List Int) (size hz now : Int) (N k : Nat) (RV : List (List Cp)) (n : Nat) (v : Value) (w : World) : Prop :=
  ∃ us L', OwnGu w B v us L' ∧ runV V size hz now (N - k) L' = RV ∧ L'.length = n ∧ (∀ r ∈ L', r.length ≤ 1000) ∧ Below B w0 w

set_option maxHeartbeats 6400000 in
set_option maxRecDepth 16000 in
theorem run_any {Bm p : Nat} {V : Int → List Int} {last : Int} {n : Nat} (v : Value) (L : List (List Cp)) (hL : L.length ≤ 1000) (hrow : ∀ r ∈ L, r.length ≤ 1000) (size hz now steps : Int) (hsz : size ≤ 1000) (w : World) (h : SlR w v L) (hM : Mp w Bm p V last n) :
    Calls Try.prog 11 #[.pointer (some ⟨p, 0, none⟩), v, .int .i64 size, .int .i64 hz, .int .i64 now, .int .i64 steps] w fun e w' =>
      (∃ v', e = .returned v' ∧ OwnG w' w.heap.size v' (runV V size hz now (stepsN steps) L)) ∧ Below w.heap.size w w' := by
  obtain ⟨a, cap, rfl, ha, hle, hcap⟩ := SlG.form h
  generalize hB : w.heap.size = B
  have hB0 : Hid (B ≤ w.heap.size) := Nat.le_of_eq hB.symm
  have HM : Hid (∀ w', Below B w w' → Mp w' Bm p V last n) := fun w' hb => hM.below (by rw [hB]; exact hb)
  have HC : Hid (∀ k, k < L.length → ∃ b o x c, a = some ⟨b, o, none⟩ ∧ ∀ w', Below B w w' → w'.cell? ⟨b, o + k, none⟩ = some (.slice x (L.getD k []).length c) ∧ SlC w' (.slice x (L.getD k []).length c) (L.getD k [])) := fun k hk => by
    obtain ⟨b, o, u, h1, h2, h3, h4⟩ := h.at rfl hk
    obtain ⟨x, c, rfl, _⟩ := SlG.form h4
    exact ⟨b, o, x, c, h1, fun w' hb => ⟨cell_keep h3 (by rw [hB]; exact hb), h4.below (by rw [hB]; exact hb)⟩⟩
  have HRL : Hid (∀ k, k < L.length → (L.getD k []).length ≤ 1000) := fun k hk => hrow _ (by rw [List.getD_eq_getElem?_getD, List.getElem?_eq_getElem hk]; exact List.getElem_mem hk)
  have HROW := Lib.hid hrow
  have HTK : Hid (∀ k, k < L.length → L.take (k + 1) = L.take k ++ [L.getD k []]) := fun k hk => by
    rw [List.take_add_one, List.getElem?_eq_getElem hk, List.getD_eq_getElem?_getD, List.getElem?_eq_getElem hk]
    rfl
  have HTA : Hid (L.take L.length = L) := List.take_length
  have hN : (stepsN steps : Int) = min (max steps 0) 1000 := by unfold stepsN; omega
  have hN2 : stepsN steps ≤ 1000 := by unfold stepsN; omega
  generalize stepsN steps = N at *
  obtain ⟨s1, hs1⟩ : ∃ s1 : Int, max steps 0 = s1 := ⟨_, rfl⟩
  have hs2 : min s1 1000 = (N : Int) := by rw [hN, ← hs1]
  clear h hM hB hrow hN
  go_enter Try.func11, Try.ntmps11
  go_wp2
  go_step3
  go_wp2
  go_loopw [13, 21] (fun ov iv wr => ∃ (k : Nat) (v1 : Value), k ≤ L.length ∧ ov = v1 ∧ iv = .int .i64 k ∧ Hid (OwnG wr B v1 (L.take k)) ∧ Hid (Below B w wr)) (fun _ iv _ => L.length - (intOf iv).toNat)
  case atStart => exact ⟨0, _, Nat.zero_le _, rfl, rfl, ⟨[], OwnGu.nil _ _⟩, Below.refl _ _⟩
  case round =>
    obtain ⟨k, v1, hk, rfl, rfl, ho, hb⟩ := hrel
    by_cases hlt : k < L.length
    · obtain ⟨b, o, x, c, rfl, hcell⟩ := HC.out k hlt
      obtain ⟨c1, hsc⟩ := hcell wr hb.out
      have hlt2 : (k : Int) < (L.length : Int) := by omega
      have HTK1 := Lib.hid (HTK.out k hlt)
      have hrl := HRL.out k hlt
      have hS : Hid (B ≤ wr.heap.size) := Nat.le_trans hB0.out hb.out.size
      have CC := Lib.hid (cloneC_any _ _ (by omega) wr hsc)
      clear HTK HRL HC hcell hsc HTA HROW HM hs1 hs2
      generalize L.getD k [] = r at *
      go_wp2_with fail
      refine CC.out.mono ?_
      rintro e w1 ⟨⟨u, rfl, hu⟩, hb1⟩
      obtain ⟨au, cu, rfl⟩ := hu.form
      obtain ⟨us, hg⟩ := ho.out
      have hHG := Lib.hid hg
      have HU := Lib.hid hu
      have HB1 := Lib.hid hb1
      have HBw : Hid (Below B w w1) := hb.out.trans (hb1.mono hS.out)
      have HS1 : Hid (B ≤ w1.heap.size) := Nat.le_trans hS.out hb1.size
      have hlen : (L.take k).length = k := by rw [List.length_take]; omega
      have HLN := Lib.hid hlen
      clear hg hu hb1 CC ho hlen
      go_wp2_with (first
        | (at_builtin; refine wpList_appG rfl _ _ B 23 31 (.slice none 0 0) 1 24 rfl Try.underlying23 infoS rfl (by decide) u13 _ us rfl
             (ownsRow_after hHG.out.2.1 (HB1.out.alloc HB1.out.size _)) _ 1 [.slice au r.length cu] rfl (Src.new' _ _ _ 1 _ rfl) rfl (by intro u hu; simp at hu; rcases hu with rfl; rfl) (by have := HLN.out; omega) (by have := HLN.out; unfold maxLen; omega) (Nat.le_trans HS1.out ((Below.refl _ _).alloc (Nat.le_refl _) _).size) ?_
           intro v2 w2 ho2 hg2 hat2
           have HB2 : Hid (Below B w w2) := below_own (ownsRow_after hHG.out.2.1 (HB1.out.alloc HB1.out.size _)) hg2 (HBw.out.alloc HS1.out _) (Nat.le_refl _) (Nat.le_trans HS1.out ((Below.refl _ _).alloc (Nat.le_refl _) _).size)
           have HO2 : Hid (OwnG w2 B v2 (L.take (k + 1))) := by
             rw [HTK1.out]
             exact ⟨_, hHG.out.snoc (HB1.out.alloc HB1.out.size _) hS.out (ownsRow_after HU.out ((Below.refl _ _).alloc (Nat.le_refl _) _)) ho2 hg2⟩
           clear ho2 hg2 hat2)
        | fail)
      exact ⟨⟨k + 1, _, by omega, rfl, by go_num, HO2, HB2⟩, by simp [intOf]; omega⟩
    · obtain rfl : k = L.length := by omega
      clear HTK HRL HC hlt hk
      rw [HTA.out] at ho
      have hform : ∃ a13 c13, u13 = .slice a13 L.length c13 := by
        obtain ⟨us, hg⟩ := ho.out
        exact row_form hg.2.1
      obtain ⟨a13, c13, rfl⟩ := hform
      have HR0 : Hid (RunS B w V size hz now N 0 (runV V size hz now N L) L.length (.slice a13 L.length c13) wr) := by
        obtain ⟨us, hg⟩ := ho.out
        exact ⟨us, L, hg, rfl, rfl, HROW.out, hb.out⟩
      clear ho hb HROW HTA
      go_wp2
      go_step3
      go_wp2
      clear hs1 hs2
      generalize hRV : runV V size hz now N L = RV at *
      have HRVE := Lib.hid hRV
      clear hRV
      go_loopw [34] (fun iv wr => ∃ (k : Nat), k ≤ N ∧ iv = .int .i64 k ∧ Hid (RunS B w V size hz now N k RV L.length (.slice a13 L.length c13) wr)) (fun iv _ => N - (intOf iv).toNat)
      case atStart => exact ⟨0, Nat.zero_le _, rfl, HR0⟩
      case round =>
        clear HR0
        obtain ⟨k, hk, rfl, hrs⟩ := hrel
        obtain ⟨us, L', hgu, hrun, hlen, hlong, hbw⟩ := hrs.out
        by_cases hlt : k < N
        · have CN : Hid (Calls Try.prog 13 #[.pointer (some ⟨p, 0, none⟩), .slice a13 L.length c13, .int .i64 size, .int .i64 hz, .int .i64 now] wr fun e w' =>
              (∃ mv, e = .returned (.tuple #[.agg #[.int .i64 (nextZ V L' size hz now : Nat), mv, .int .i64 (nextD V L' size hz now)], .int .i64 (nextE V L' size hz now)]) ∧ OwnC w' wr.heap.size mv (nextM V L' size hz now)) ∧ Below wr.heap.size wr w') :=
            next_any (.slice a13 L.length c13) L' (by omega) (fun r hr => by have := hlong r hr; omega) size hz now wr (OwnG.slr ⟨us, hgu⟩) (HM.out wr hbw)
          have HGU := Lib.hid hgu
          have HLEN := Lib.hid hlen
          have HLONG := Lib.hid hlong
          have HBW := Lib.hid hbw
          have HSr : Hid (B ≤ wr.heap.size) := Nat.le_trans hB0.out hbw.size
          have HST : Hid (∀ n', N - k = n' + 1 → (stepV V size hz now L' = none → L' = RV) ∧ ∀ L2, stepV V size hz now L' = some L2 → runV V size hz now n' L2 = RV) := fun n' hn' => by
            rw [hn'] at hrun
            exact ⟨fun q => by rw [← hrun, runV_none q], fun L2 q => by rw [← hrun, runV_some q]⟩
          have HZL : Hid (nextE V L' size hz now = 0 → nextZ V L' size hz now < L.length ∧ 1 ≤ size) := fun q => by rw [← hlen]; exact nextZ_lt q
          have HSV : Hid (stepV V size hz now L' = if nextE V L' size hz now = 0 then (findI L' size (nextZ V L' size hz now) (nextM V L' size hz now).length).map fun i => (L'.set i (L'.getD i [] ++ nextM V L' size hz now)).set (nextZ V L' size hz now) [] else none) := rfl
          clear hgu hrun hlen hlong hbw hrs
          generalize nextZ V L' size hz now = z at *
          generalize nextM V L' size hz now = ms at *
          generalize nextE V L' size hz now = er at *
          generalize nextD V L' size hz now = dr at *
          go_wp2_with fail
          refine CN.out.mono ?_
          rintro e w3 ⟨⟨mv, rfl, hmv⟩, hb3⟩
          obtain ⟨am, cm, rfl⟩ := hmv.form
          have HMV := Lib.hid hmv
          have HB3 := Lib.hid hb3
          have HB4 : Hid (Below wr.heap.size wr (w3.alloc (.cells #[.int .i64 z, .slice am ms.length cm, .int .i64 dr] 37))) := HB3.out.alloc HB3.out.size _
          have HBX : Hid (Below B w (w3.alloc (.cells #[.int .i64 z, .slice am ms.length cm, .int .i64 dr] 37))) := HBW.out.trans (HB4.out.mono HSr.out)
          have HA : Hid ((w3.alloc (.cells #[.int .i64 z, .slice am ms.length cm, .int .i64 dr] 37)).heap[w3.heap.size]? = some (Obj.cells #[.int .i64 z, .slice am ms.length cm, .int .i64 dr] 37 (0, 0))) := heap_alloc_new _ _
          clear hmv hb3 CN HM
          by_cases he : er = 0
          · subst he
            obtain ⟨hzL, hs1⟩ := HZL.out rfl
            have HMV5 : Hid (OwnC (w3.alloc (.cells #[.int .i64 z, .slice am ms.length cm, .int .i64 dr] 37)) wr.heap.size (.slice am ms.length cm) ms) := ownsRow_after HMV.out ((Below.refl _ _).alloc (Nat.le_refl _) _)
            have HGU5 : Hid (OwnGu (w3.alloc (.cells #[.int .i64 z, .slice am ms.length cm, .int .i64 dr] 37)) B (.slice a13 L.length c13) us L') := HGU.out.after HB4.out
            have hA3 : Hid (wr.heap.size ≤ w3.heap.size) := HB3.out.size
            go_wp2
            clear HMV HB3 HB4 HGU
            generalize w3.alloc (.cells #[.int .i64 z, .slice am ms.length cm, .int .i64 dr] 37) = w5 at *
            generalize w3.heap.size = A at *
            go_loopw [49] (fun iv wx => ∃ (i : Nat), i ≤ L.length ∧ iv = .int .i64 i ∧ Hid (∀ j, j < i → fits L' size z ms.length j = false) ∧ Hid (Below w5.heap.size w5 wx)) (fun iv _ => L.length - (intOf iv).toNat)
            case atStart => exact ⟨0, Nat.zero_le _, rfl, fun j hj => absurd hj (Nat.not_lt_zero _), Below.refl _ _⟩
            case round =>
              obtain ⟨i, hi, rfl, hnf, hb⟩ := hrel
              by_cases hil : i < L.length
              · obtain ⟨g, c, x, kk, hv, hgB, hglt, hus, hcell, hfz⟩ := (HGU5.out.after hb.out).form (i := i) (by rw [HLEN.out]; exact hil)
                rw [HLEN.out] at hv
                simp only [Value.slice.injEq] at hv
                obtain ⟨rfl, hz9, rfl⟩ := hv
                clear hz9
                have hx := (hb.out.block _ (Array.getElem?_eq_some_iff.1 HA.out).1).trans HA.out
                have k0 := cell_of (i := 0) hx rfl
                have k1 := cell_of (i := 1) hx rfl
                have hil2 : (i : Int) < (L.length : Int) := by omega
                have hrl : (L'.getD i []).length ≤ 1000 := HLONG.out _ (by rw [List.getD_eq_getElem?_getD, List.getElem?_eq_getElem (by rw [HLEN.out]; exact hil)]; exact List.getElem_mem _)
                have HFI : Hid (fits L' size z ms.length i = (decide (i ≠ z) && decide ((ms.length : Int) ≤ size - ((L'.getD i []).length : Int)))) := rfl
                have HGB := Lib.hid hgB
                have HUS := Lib.hid hus
                clear hx hgB hus hglt
                generalize hri : L'.getD i [] = r at *
                have HRI := Lib.hid hri
                clear hri
                have hwr : IntKind.i64.wrap (size - (r.length : Int)) = size - (r.length : Int) := IntWalk.i64_in _ (by omega)
                have HNF : Hid (fits L' size z ms.length i = false → ∀ j, j < i + 1 → fits L' size z ms.length j = false) := fun q j hj => by
                  rcases Nat.lt_or_ge j i with h' | h'
                  · exact hnf.out j h'
                  · obtain rfl : j = i := by omega
                    exact q
                by_cases hzi : i = z
                · have ht : ((i : Int) != (z : Int)) = false := by rw [hzi]; simp
                  have HNX := Lib.hid (HNF.out (by rw [HFI.out, decide_eq_false (fun h => h hzi)]; rfl))
                  clear HNF HFI hnf hzi
                  go_wp2
                  go_quiet (fail)
                  go_wp2
                  exact ⟨⟨i + 1, by omega, by go_num, HNX, below_drewN hb.out _⟩, by simp [intOf]; omega⟩
                · have ht : ((i : Int) != (z : Int)) = true := bne_iff_ne.2 (by omega)
                  by_cases hft : (ms.length : Int) ≤ size - (r.length : Int)
                  · have htd : decide ((ms.length : Int) ≤ size - (r.length : Int)) = true := decide_eq_true hft
                    have HFT : Hid (findI L' size z ms.length = some i) := findI_some (by rw [HLEN.out]; exact hil) (by rw [HFI.out, decide_eq_true hzi, htd]; rfl) hnf.out
                    have HHF := Lib.hid hft
                    clear HNF HFI hnf hft hzi
                    go_wp2
                    go_quiet (fail)
                    have HB0 : Hid (Below w5.heap.size w5 (wr.drewN nq)) := below_drewN hb.out _
                    have z0 : (wr.drewN nq).cell? ⟨A, 0, none⟩ = some (.int .i64 (z : Int)) := k0
                    have z1 : (wr.drewN nq).cell? ⟨A, 1, none⟩ = some (.slice am ms.length cm) := k1
                    have z2 : (wr.drewN nq).cell? ⟨g, i, none⟩ = some (.slice x r.length kk) := hcell
                    have z3 : (wr.drewN nq).frozen? ⟨g, i, none⟩ = false := hfz
                    clear k0 k1 hcell hfz hb ht htd hwr
                    go_wp2
                    generalize wr.drewN nq = w0 at *
                    have HG0 := Lib.hid (HGU5.out.after HB0.out)
                    have HM0 := Lib.hid (ownsRow_after HMV5.out HB0.out)
                    have HO0 : Hid (OwnC w0 B (.slice x r.length kk) r) := by
                      have h5 := HG0.out.2.2.1 i (by rw [HLEN.out]; exact hil)
                      rw [HUS.out, HRI.out] at h5
                      exact h5
                    have HS0 : Hid (B ≤ w0.heap.size) := by have h1 := HB0.out.size; have h2 := HBX.out.size; have h3 := hB0.out; show _ ≤ _; omega
                    have HX0 := Lib.hid ((HB0.out.block _ (Array.getElem?_eq_some_iff.1 HA.out).1).trans HA.out)
                    have hms : ms.length ≤ 1000 := by have := HHF.out; omega
                    clear HMV5 HGU5
                    go_region_law (first
                      | (refine step_appG rfl (.tmp 74) (.tmp 76) B 31 33 (.agg #[.int .i64 0, .int .i64 0]) 2 16 rfl Try.underlying31 infoC rfl (by decide) (.slice x r.length kk) r.length (flatC r) (by simp [Act.eval]) HO0.out (.slice am ms.length cm) ms.length (flatC ms) (by simp [Act.eval])
                           (OwnC.src HM0.out) (flatC_len ms) flatC_one (by omega) (by unfold maxLen; omega) HS0.out ?_
                         intro v6 w6 ho6 hg6' hat6
                         have hg6 : w0.grownBy w6 (Value.ownBlock (.slice x r.length kk)) := ⟨hg6'.os, hg6'.tape, hg6'.output, hg6'.size, hg6'.block⟩
                         obtain ⟨a6, c6, rfl⟩ := row_form ho6
                         have ho6' : OwnC w6 B (.slice a6 (r.length + ms.length) c6) (r ++ ms) := by
                           show w6.ownsRow _ _ _ _ _ _
                           rw [flatC_app, List.length_append]
                           exact ho6
                         have hfar : ∀ (q : Nat) (o : Obj), w0.heap[q]? = some o → (∀ cur, o ≠ Obj.cells cur 33 (0, 0)) → w6.heap[q]? = some o := fun q o hq hne => by
                           rw [hg6.block q (Array.getElem?_eq_some_iff.1 hq).1 (fun e => by
                             obtain ⟨_, cur, h7⟩ := ownsRow_block HO0.out e.symm
                             rw [hq] at h7
                             exact hne cur (Option.some.inj h7))]
                           exact hq
                         have hgo : ∃ cur, w0.heap[g]? = some (Obj.cells cur 31 (0, 0)) := (ownsRow_block HG0.out.2.1 rfl).2
                         have hgs : w6.heap[g]? = w0.heap[g]? := by
                           obtain ⟨cur, h7⟩ := hgo
                           rw [h7]
                           exact hfar g _ h7 (by intro c' e; simp at e)
                         have p0 : w6.cell? ⟨g, i, none⟩ = some (.slice x r.length kk) := by
                           have h7 := z2
                           unfold World.cell? at h7 ⊢
                           rw [hgs]
                           exact h7
                         have p1 : w6.frozen? ⟨g, i, none⟩ = false := by
                           have h7 := z3
                           unfold World.frozen? at h7 ⊢
                           rw [hgs]
                           exact h7
                         have HGM0 : OwnGu (w6.setCell ⟨g, i, none⟩ (.slice a6 (r.length + ms.length) c6)) B (.slice (some ⟨g, 0, none⟩) L'.length c13) (us.set i (.slice a6 (r.length + ms.length) c6)) (L'.set i (r ++ ms)) :=
                           OwnGu.move (by rw [HLEN.out]; exact HG0.out) (Below.refl _ _) (by rw [HLEN.out]; exact hil) (by rw [HUS.out]; exact hg6) ho6' (by rw [HUS.out]; exact hat6)
                         have HGM := Lib.hid HGM0
                         have hXA := hfar A _ HX0.out (by intro c' e; simp at e)
                         have HXA : Hid ((w6.setCell ⟨g, i, none⟩ (.slice a6 (r.length + ms.length) c6)).heap[A]? = some (Obj.cells #[.int .i64 z, .slice am ms.length cm, .int .i64 dr] 37 (0, 0))) := by
                           show _ = _
                           rw [heap_setCell_other w6 ⟨g, i, none⟩ A _ (fun e => by
                             obtain ⟨cur, h7⟩ := hgo
                             rw [show g = A from e.symm, HX0.out] at h7
                             simp at h7)]
                           exact hXA
                         have HB6 : Hid (Below B w (w6.setCell ⟨g, i, none⟩ (.slice a6 (r.length + ms.length) c6))) := (below_own HO0.out hg6 (HBX.out.trans (HB0.out.mono (by have h1 := HBX.out.size; have h2 := hB0.out; omega))) (Nat.le_refl _) HS0.out).setCell HGB.out _
                         clear ho6 ho6' hg6 hg6' hat6 hfar hgo hgs HGM0 hXA)
                      | fail)
                    all_goals
                      have hzl2 : z < (L'.set i (r ++ ms)).length := by rw [List.length_set, HLEN.out]; exact hzL
                      have hlen2 : (L'.set i (r ++ ms)).length = L.length := by rw [List.length_set, HLEN.out]
                      obtain ⟨g2, c2, x2, k2, hv2, _, _, _, q0, q1⟩ := HGM.out.form hzl2
                      rw [hlen2, HLEN.out] at hv2
                      simp only [Value.slice.injEq, Option.some.injEq, Addr.mk.injEq, and_true, true_and] at hv2
                      obtain ⟨rfl, rfl⟩ := hv2
                      have y0 := cell_of (i := 0) HXA.out rfl
                      have hzi2 : (z : Int) < (L.length : Int) := by omega
                      have HCL : Hid (OwnGu ((w6.setCell ⟨g, i, none⟩ (.slice a6 (r.length + ms.length) c6)).setCell ⟨g, z, none⟩ nilS) B (.slice (some ⟨g, 0, none⟩) L.length c13) ((us.set i (.slice a6 (r.length + ms.length) c6)).set z nilS) ((L'.set i (r ++ ms)).set z [])) := by
                        have h5 := HGM.out
                        have hl9 : L'.length = (L'.set i (r ++ ms)).length := by rw [List.length_set]
                        rw [hl9] at h5
                        have h6 := h5.clear hzl2
                        rw [hlen2] at h6
                        exact h6
                      have HBC : Hid (Below B w ((w6.setCell ⟨g, i, none⟩ (.slice a6 (r.length + ms.length) c6)).setCell ⟨g, z, none⟩ nilS)) := HB6.out.setCell HGB.out _
                      have HRN : Hid (RunS B w V size hz now N (k + 1) RV L.length (.slice (some ⟨g, 0, none⟩) L.length c13) ((w6.setCell ⟨g, i, none⟩ (.slice a6 (r.length + ms.length) c6)).setCell ⟨g, z, none⟩ nilS)) := by
                        refine ⟨_, _, HCL.out, (HST.out (N - (k + 1)) (by omega)).2 _ ?_, by rw [List.length_set]; exact hlen2, fun r' hr' => ?_, HBC.out⟩
                        · rw [HSV.out]
                          simp only [if_true]
                          rw [HFT.out, ← HRI.out]
                          rfl
                        · rcases List.mem_or_eq_of_mem_set hr' with hr' | rfl
                          · rcases List.mem_or_eq_of_mem_set hr' with hr' | rfl
                            · exact HLONG.out r' hr'
                            · rw [List.length_append]
                              have := HHF.out
                              omega
                          · simp
                      clear HCL HBC HGM HXA HB6 HST HSV HFT HLONG HG0 HM0 HO0 HX0 z0 z1 z2 z3 hzl2 hlen2
                      go_wp2
                      trace_state
                      exact ⟨⟨k + 1, by omega, by go_num, HRN⟩, by simp [intOf]; omega⟩
                  · have htd : decide ((ms.length : Int) ≤ size - (r.length : Int)) = false := decide_eq_false hft
                    have HNX := Lib.hid (HNF.out (by rw [HFI.out, htd, Bool.and_false]))
                    clear HNF HFI hnf hft hzi
                    go_wp2
                    go_quiet (fail)
                    go_wp2
                    exact ⟨⟨i + 1, by omega, by go_num, HNX, below_drewN hb.out _⟩, by simp [intOf]; omega⟩
              · have HRV : Hid (L' = RV) := by
                  refine (HST.out (N - k - 1) (by omega)).1 ?_
                  rw [HSV.out]
                  simp only [if_true]
                  rw [findI_none (fun j hj => hnf.out j (by rw [HLEN.out] at hj; omega))]
                  rfl
                have HBF : Hid (Below B w wr) := HBX.out.trans (hb.out.mono (by have h1 := HBX.out.size; have h2 := hB0.out; omega))
                clear HST HZL HSV HLONG hnf
                go_wp2
                try rw [Exit.noGoto_ret]
                go_ret
                exact ⟨⟨.slice a13 L.length c13, rfl, us, by have h5 := HGU5.out.after hb.out; rw [HRV.out, ← HRVE.out] at h5; exact h5⟩, HBF.out⟩
          · have hee : (er != 0) = true := bne_iff_ne.2 he
            have HRV : Hid (L' = RV) := by
              refine (HST.out (N - k - 1) (by omega)).1 ?_
              rw [HSV.out, if_neg he]
            clear HST HZL HSV HLONG he
            go_wp2
            try rw [Exit.noGoto_ret]
            go_ret
            exact ⟨⟨.slice a13 L.length c13, rfl, us, by have h5 := HGU.out.after HB4.out; rw [HRV.out, ← HRVE.out] at h5; exact h5⟩, HBX.out⟩
        · have HRV : Hid (L' = RV) := by rw [show N - k = 0 by omega] at hrun; exact hrun
          have HGU := Lib.hid hgu
          have HBW := Lib.hid hbw
          clear hrs hgu hrun hlen hlong hbw
          go_wp2
          try rw [Exit.noGoto_ret]
          go_ret
          exact ⟨⟨.slice a13 L.length c13, rfl, us, by have h5 := HGU.out; rw [HRV.out, ← HRVE.out] at h5; exact h5⟩, HBW.out⟩
end Go.Proofs.Ytkpnjehgbehhcaa
