/- The walk of CleanBest: the law returns true. -/
import Derived.Test.YtkpnjehgbehhcaaAwk
import Derived.Test.YtkpnjehgbehhcaaBsp
import Derived.Test.YtkpnjehgbehhcaaCpr
namespace Go.Proofs.Ytkpnjehgbehhcaa
open Go.RowKit Fl

theorem next_zero {V : Int → List Int} {L : List (List Cp)} {size hz now : Int} (h : nextE V L size hz now ≠ 0) : nextZ V L size hz now = 0 ∧ nextM V L size hz now = [] ∧ nextD V L size hz now = 0 := by
  unfold nextZ nextM nextD
  rw [if_neg h, if_neg h, if_neg h]
  exact ⟨rfl, rfl, rfl⟩
theorem filter_at {f : Cp → Bool} {l : List Cp} {i : Nat} (hi : i < l.length) (h : f (l.getD i (0, 0)) = true) : ((l.take i).filter f).length < (l.filter f).length ∧ (l.filter f).getD ((l.take i).filter f).length (0, 0) = l.getD i (0, 0) ∧ ((l.take (i + 1)).filter f).length = ((l.take i).filter f).length + 1 := by
  have e1 : (l.take (i + 1)).filter f = (l.take i).filter f ++ [l.getD i (0, 0)] := by rw [take_filter hi, if_pos h]
  have e2 : l.filter f = (l.take i).filter f ++ l.getD i (0, 0) :: (l.drop (i + 1)).filter f := by
    conv => lhs; rw [← List.take_append_drop (i + 1) l, List.filter_append, e1]
    rw [List.append_assoc]
    rfl
  refine ⟨by rw [e2, List.length_append, List.length_cons]; omega, ?_, by rw [e1, List.length_append]; rfl⟩
  rw [e2, List.getD_eq_getElem?_getD, List.getElem?_append_right (Nat.le_refl _)]
  simp
theorem filter_no {f : Cp → Bool} {l : List Cp} {i : Nat} (hi : i < l.length) (h : f (l.getD i (0, 0)) = false) : ((l.take (i + 1)).filter f).length = ((l.take i).filter f).length := by
  rw [take_filter hi, if_neg (by rw [h]; decide), List.append_nil]

set_option maxHeartbeats 1600000 in
set_option maxRecDepth 16000 in
theorem walk_CleanBest (w : World) (v : Value) (T : List Tx) (h : SlT w v T) (u : Value) (L : List (List Cp)) (g : SlR w u L) (size : Int) (_ : (Lit.int .i64 size).wf = true) (hz : Int) (_ : (Lit.int .i64 hz).wf = true) (now : Int) (_ : (Lit.int .i64 now).wf = true) :
    Calls Try.prog 6 #[v, u, .int .i64 size, .int .i64 hz, .int .i64 now] w fun e w' => e = .returned (.bool true) ∧ Below w.heap.size w w' := by
  obtain ⟨a, cap, rfl, ha, hle, hcap⟩ := SlG.form h
  obtain ⟨a2, cap2, rfl, ha2, hle2, hcap2⟩ := SlG.form g
  have CS := Lib.hid (small_any _ _ T L w h g)
  generalize hB : w.heap.size = B at *
  have hB0 : Hid (B ≤ w.heap.size) := Nat.le_of_eq hB.symm
  have HT : Hid (∀ w', Below B w w' → SlT w' (.slice a T.length cap) T) := fun w' hb => h.below (by rw [hB]; exact hb)
  have HG : Hid (∀ w', Below B w w' → SlR w' (.slice a2 L.length cap2) L) := fun w' hb => g.below (by rw [hB]; exact hb)
  have HC : Hid (∀ k, k < L.length → ∃ b o x c, a2 = some ⟨b, o, none⟩ ∧ ∀ w', Below B w w' → w'.cell? ⟨b, o + k, none⟩ = some (.slice x (L.getD k []).length c) ∧ SlC w' (.slice x (L.getD k []).length c) (L.getD k [])) := fun k hk => by
    obtain ⟨b, o, u, h1, h2, h3, h4⟩ := g.at rfl hk
    obtain ⟨x, c, rfl, _⟩ := SlG.form h4
    exact ⟨b, o, x, c, h1, fun w' hb => ⟨cell_keep h3 (by rw [hB]; exact hb), h4.below (by rw [hB]; exact hb)⟩⟩
  rename_i q1 q2 q3
  clear h g hB q1 q2 q3
  go_enter Try.func6, Try.ntmps6
  go_wp2_with fail
  refine CS.out.mono ?_
  rintro e w1 ⟨⟨r, rfl, hr⟩, hb1⟩
  have HB1 : Hid (Below B w w1) := hb1
  clear hb1 CS
  cases r with
  | false =>
    clear hr HC HT HG
    go_wp2_with fail
    refine (awake20_any _).mono ?_
    rintro e wz ⟨rfl, hbz⟩
    have HBZ : Hid (Below B w wz) := HB1.out.trans (hbz.mono (Nat.le_trans hB0.out HB1.out.size))
    clear hbz
    go_wp2
    go_ret
    exact ⟨rfl, HBZ.out⟩
  | true =>
    obtain ⟨htot, hTl⟩ := hr rfl
    clear hr
    by_cases h0 : size < 1
    · have hd1 : decide (size < 1) = true := decide_eq_true h0
      clear HC HT HG
      go_wp2_with fail
      refine (awake20_any _).mono ?_
      rintro e wz ⟨rfl, hbz⟩
      have HBZ : Hid (Below B w wz) := HB1.out.trans (hbz.mono (Nat.le_trans hB0.out HB1.out.size))
      clear hbz
      go_wp2
      go_ret
      exact ⟨rfl, HBZ.out⟩
    have hd1 : decide (size < 1) = false := decide_eq_false h0
    by_cases h1 : 1000 < size
    · have hd2 : decide (1000 < size) = true := decide_eq_true h1
      clear HC HT HG
      go_wp2_with fail
      refine (awake20_any _).mono ?_
      rintro e wz ⟨rfl, hbz⟩
      have HBZ : Hid (Below B w wz) := HB1.out.trans (hbz.mono (Nat.le_trans hB0.out HB1.out.size))
      clear hbz
      go_wp2
      go_ret
      exact ⟨rfl, HBZ.out⟩
    have hd2 : decide (1000 < size) = false := decide_eq_false h1
    have hflat := tot_flat L
    have hLlen : L.length ≤ 1000 := by omega
    have hLrow : ∀ r ∈ L, r.length ≤ 1000 := fun r hr => by have := row_tot hr; omega
    have CM := Lib.hid (made_any _ T hTl w1 (HT.out w1 HB1.out))
    go_wp2_with fail
    refine CM.out.mono ?_
    rintro e w2 ⟨⟨m, x, rfl, hm, _⟩, hb2⟩
    have HB2 : Hid (Below B w w2) := HB1.out.trans (hb2.mono (Nat.le_trans hB0.out HB1.out.size))
    have HM : Hid (∀ w', Below w2.heap.size w2 w' → Mp w' w1.heap.size m (stV T T.length).1 (stV T T.length).2 (30 * T.length)) := fun w' hb => hm.below hb
    have hS2 : Hid (B ≤ w2.heap.size) := Nat.le_trans hB0.out HB2.out.size
    clear hm hb2 CM HT htot hflat
    generalize (stV T T.length).1 = V at *
    generalize (stV T T.length).2 = last at *
    have CN : Hid (Calls Try.prog 13 #[.pointer (some ⟨m, 0, none⟩), .slice a2 L.length cap2, .int .i64 size, .int .i64 hz, .int .i64 now] w2 fun e w' =>
        (∃ mv, e = .returned (.tuple #[.agg #[.int .i64 (nextZ V L size hz now : Nat), mv, .int .i64 (nextD V L size hz now)], .int .i64 (nextE V L size hz now)]) ∧ OwnC w' w2.heap.size mv (nextM V L size hz now)) ∧ Below w2.heap.size w2 w') :=
      next_any (.slice a2 L.length cap2) L (by omega) (fun r hr => by have := hLrow r hr; omega) size hz now w2 (HG.out _ HB2.out) (HM.out _ (Below.refl _ _))
    by_cases he : nextE V L size hz now = 0
    · have ok := next_ok he
      have HNB := Lib.hid (next_best ok)
      have HLT := ok.lt
      have HFU := Lib.hid ok.full
      have HMO := Lib.hid ok.moves
      have HDR := Lib.hid ok.drops
      have HLE := Lib.hid ok.less
      rw [he] at CN
      have CZ : Hid (∀ w', Below w2.heap.size w2 w' → Calls Try.prog 16 #[.pointer (some ⟨m, 0, none⟩), .slice a2 L.length cap2, .int .i64 size, .int .i64 hz] w' fun e w'' => (∃ v', e = .returned v' ∧ OwnZ w'' w'.heap.size v' (zonesV V size hz L)) ∧ Below w'.heap.size w' w'') := fun w' hb =>
        zones_any _ L (by omega) (fun r hr => by have := hLrow r hr; omega) size hz w' (HG.out w' (HB2.out.trans (hb.mono hS2.out))) (HM.out w' hb)
      clear he ok HG hLrow
      generalize nextZ V L size hz now = z at *
      generalize nextM V L size hz now = ms at *
      generalize nextD V L size hz now = dr at *
      obtain ⟨bz, oz, xz, cz, rfl, hcz⟩ := HC.out z HLT
      have HCZ := Lib.hid hcz
      clear hcz
      generalize hrz : L.getD z [] = rz at *
      have HRZ := Lib.hid hrz
      clear hrz
      go_wp2_with fail
      refine CN.out.mono ?_
      rintro e w3 ⟨⟨mv, rfl, hmv⟩, hb3⟩
      obtain ⟨am, cm, rfl⟩ := hmv.form
      have HB4 : Hid (Below w2.heap.size w2 (w3.alloc (.cells #[.int .i64 z, .slice am ms.length cm, .int .i64 dr] 37))) := hb3.alloc hb3.size _
      have HA : Hid ((w3.alloc (.cells #[.int .i64 z, .slice am ms.length cm, .int .i64 dr] 37)).heap[w3.heap.size]? = some (Obj.cells #[.int .i64 z, .slice am ms.length cm, .int .i64 dr] 37 (0, 0))) := heap_alloc_new _ _
      have HMV : Hid (OwnC (w3.alloc (.cells #[.int .i64 z, .slice am ms.length cm, .int .i64 dr] 37)) w2.heap.size (.slice am ms.length cm) ms) := ownsRow_after hmv ((Below.refl _ _).alloc (Nat.le_refl _) _)
      have HBW : Hid (Below B w (w3.alloc (.cells #[.int .i64 z, .slice am ms.length cm, .int .i64 dr] 37))) := HB2.out.trans (HB4.out.mono hS2.out)
      have k0 : (w3.alloc (.cells #[.int .i64 z, .slice am ms.length cm, .int .i64 dr] 37)).cell? ⟨w3.heap.size, 0, none⟩ = some (.int .i64 (z : Int)) := cell_of HA.out rfl
      obtain ⟨k3, _⟩ := HCZ.out _ HBW.out
      have hz1 : decide ((z : Int) < 0) = false := decide_eq_false (by omega)
      have hz2 : decide ((L.length : Int) ≤ (z : Int)) = false := decide_eq_false (by omega)
      have hz3 : ((rz.length : Int) != size) = false := by rw [HFU.out]; simp
      have hzl : (z : Int) < (L.length : Int) := by omega
      rename_i qq
      clear hmv hb3 CN qq
      go_wp2_with fail
      refine (CZ.out _ HB4.out).mono ?_
      rintro e w5 ⟨⟨v15, rfl, hz15⟩, hb5⟩
      obtain ⟨a15, c15, rfl, hzc⟩ := OwnZ.form hz15
      rw [zonesV_len] at hzc ⊢
      have HB5 : Hid (Below w2.heap.size w2 w5) := HB4.out.trans (hb5.mono HB4.out.size)
      have HS5 : Hid (w2.heap.size ≤ w5.heap.size) := HB5.out.size
      have HBw5 : Hid (Below B w w5) := HB2.out.trans (HB5.out.mono hS2.out)
      have hA5 := (hb5.block _ (Array.getElem?_eq_some_iff.1 HA.out).1).trans HA.out
      have HA5 : Hid (∀ w', Below w5.heap.size w5 w' → w'.heap[w3.heap.size]? = some (Obj.cells #[.int .i64 z, .slice am ms.length cm, .int .i64 dr] 37 (0, 0))) := fun w' hb => (hb.block _ (Array.getElem?_eq_some_iff.1 hA5).1).trans hA5
      have HMV5 : Hid (∀ w', Below w5.heap.size w5 w' → OwnC w' w2.heap.size (.slice am ms.length cm) ms) := fun w' hb => ownsRow_after (ownsRow_after HMV.out hb5) hb
      have HBB : Hid (∀ w', Below w5.heap.size w5 w' → Below B w w') := fun w' hb => HBw5.out.trans (hb.mono (Nat.le_trans hB0.out HBw5.out.size))
      have HMp : Hid (∀ w', Below w5.heap.size w5 w' → Mp w' w1.heap.size m V last (30 * T.length)) := fun w' hb => HM.out w' (HB5.out.trans (hb.mono HS5.out))
      have HZC : Hid (∀ k, k < L.length → ∃ g, a15 = some ⟨g, 0, none⟩ ∧ ∀ w', Below w5.heap.size w5 w' → w'.cell? ⟨g, k * 3, none⟩ = some (.int .i64 (zoneOf V size hz (L.getD k [])).1) ∧ w'.cell? ⟨g, k * 3 + 1, none⟩ = some (.int .i64 (zoneOf V size hz (L.getD k [])).2.1) ∧ w'.cell? ⟨g, k * 3 + 2, none⟩ = some (.int .i64 (zoneOf V size hz (L.getD k [])).2.2)) := fun k hk => by
        obtain ⟨g, q1, q2, q3, q4, q5⟩ := hzc k hk
        rw [zonesV_get hk] at q3 q4 q5
        exact ⟨g, q1, fun w' hb => ⟨cell_keep q3 hb, cell_keep q4 hb, cell_keep q5 hb⟩⟩
      clear hz15 hzc hb5 hA5 k0 k3 HA HMV HB4 HBW CZ HM
      generalize w3.heap.size = A at *
      have HSC : Hid (∀ (r : List Cp) w', Calls Try.prog 17 #[.agg #[.int .i64 (zoneOf V size hz r).1, .int .i64 (zoneOf V size hz r).2.1, .int .i64 (zoneOf V size hz r).2.2], .int .i64 now] w' fun e w'' => e = .returned (.tuple #[.float .f64 (zsc V size hz now r), .int .i64 (zse V size hz now r)]) ∧ Below w'.heap.size w' w'') := fun r w' => by
        have h5 := rscore_any (zoneOf V size hz r).1 (zoneOf V size hz r).2.1 (zoneOf V size hz r).2.2 now w'
        rw [← score_same] at h5
        exact h5
      obtain ⟨gz, rfl, hcz⟩ := HZC.out z HLT
      rw [HRZ.out] at hcz
      obtain ⟨y0, y1, y2⟩ := hcz w5 (Below.refl _ _)
      have k0 : w5.cell? ⟨A, 0, none⟩ = some (.int .i64 (z : Int)) := cell_of (HA5.out _ (Below.refl _ _)) rfl
      have CS1 := Lib.hid (HSC.out rz w5)
      obtain ⟨nb1, nb2, nb3⟩ := HNB.out
      rw [nb1] at CS1
      have HN3 := Lib.hid nb3
      clear hcz nb1 nb3 HNB hz1 hz2 hz3
      generalize hbs : zsc V size hz now rz = best at *
      generalize (zoneOf V size hz rz).1 = p0 at *
      generalize (zoneOf V size hz rz).2.1 = p1 at *
      generalize (zoneOf V size hz rz).2.2 = p2 at *
      go_wp2_with fail
      refine CS1.out.mono ?_
      rintro e w6 ⟨rfl, hb6⟩
      have HB6 := Lib.hid hb6
      clear hb6 CS1 y0 y1 y2 k0 hbs
      go_wp2
      go_loopw [18] (fun iv wx => ∃ i : Nat, i ≤ L.length ∧ iv = .int .i64 i ∧ Hid (Below w5.heap.size w5 wx)) (fun iv _ => L.length - (intOf iv).toNat)
      case atStart => exact ⟨0, Nat.zero_le _, rfl, HB6⟩
      case round =>
        clear HB6
        obtain ⟨i, hi, rfl, hb⟩ := hrel
        by_cases hlt : i < L.length
        · obtain ⟨gz', hg', hci⟩ := HZC.out i hlt
          simp only [Option.some.injEq, Addr.mk.injEq, and_true] at hg'
          subst hg'
          obtain ⟨bz', oz', xi, ci, hbo, hcr⟩ := HC.out i hlt
          simp only [Option.some.injEq, Addr.mk.injEq, and_true] at hbo
          obtain ⟨rfl, rfl⟩ := hbo
          obtain ⟨y0, y1, y2⟩ := hci wr hb.out
          have CS2 := Lib.hid (HSC.out (L.getD i []) wr)
          have HN := Lib.hid (HN3.out i hlt)
          have HCE : Hid (∀ w', Below w5.heap.size w5 w' → w'.cell? ⟨bz, oz + i, none⟩ = some (.slice xi (L.getD i []).length ci)) := fun w' h' => (hcr w' (HBB.out w' h')).1
          have hlt2 : (i : Int) < (L.length : Int) := by omega
          clear HC HZC HN3 HSC hci hcr HMp HMV5 HCZ
          generalize L.getD i [] = ri at *
          generalize zsc V size hz now ri = xs at *
          generalize zse V size hz now ri = gs at *
          generalize (zoneOf V size hz ri).1 = p0 at *
          generalize (zoneOf V size hz ri).2.1 = p1 at *
          generalize (zoneOf V size hz ri).2.2 = p2 at *
          generalize ri.length = nr at *
          go_wp2_with fail
          refine CS2.out.mono ?_
          rintro e w7 ⟨rfl, hb7⟩
          have HB7 : Hid (Below w5.heap.size w5 w7) := hb.out.trans (hb7.mono hb.out.size)
          have k0 : w7.cell? ⟨A, 0, none⟩ = some (.int .i64 (z : Int)) := cell_of (HA5.out w7 HB7.out) rfl
          have c0 := HCE.out w7 HB7.out
          clear hb7 CS2 y0 y1 y2 hb HCE HA5
          by_cases q1 : (nr : Int) = size
          · have b1 : ((nr : Int) == size) = true := beq_iff_eq.2 q1
            by_cases q2 : gs = 0
            · have b2 : (gs == 0) = true := beq_iff_eq.2 q2
              obtain ⟨b3, b4⟩ := HN.out q1 q2
              have hcs : feq xs best = false ∨ (feq xs best = true ∧ z ≤ i) := by
                cases hq : feq xs best
                · exact .inl rfl
                · refine .inr ⟨rfl, ?_⟩
                  rcases b4 with h | h
                  · rw [hq] at h; cases h
                  · exact h
              clear HN b4 q1 q2
              rcases hcs with b5 | ⟨b5, b6⟩
              · go_wp2
                exact ⟨⟨i + 1, by omega, by go_num, HB7⟩, by simp [intOf]; omega⟩
              · go_wp2
                exact ⟨⟨i + 1, by omega, by go_num, HB7⟩, by simp [intOf]; omega⟩
            · have b2 : (gs == 0) = false := beq_eq_false_iff_ne.2 q2
              clear HN q1 q2
              go_wp2
              exact ⟨⟨i + 1, by omega, by go_num, HB7⟩, by simp [intOf]; omega⟩
          · have b1 : ((nr : Int) == size) = false := beq_eq_false_iff_ne.2 q1
            clear HN q1
            go_wp2
            exact ⟨⟨i + 1, by omega, by go_num, HB7⟩, by simp [intOf]; omega⟩
        · clear HC HZC HN3 HSC
          have HMC : Hid (ms = rz.filter fun c => liveV V c hz) := HMO.out
          have HRD : Hid (∀ k, k < rz.length → ∃ b o, xz = some ⟨b, o, none⟩ ∧ ∀ w', Below w5.heap.size w5 w' → w'.cell? ⟨b, o + k * 2, none⟩ = some (.int .i64 (rz.getD k (0, 0)).1) ∧ w'.cell? ⟨b, o + k * 2 + 1, none⟩ = some (.int .i64 (rz.getD k (0, 0)).2)) := fun k hk => by
            obtain ⟨b, o, h1, h2⟩ := (HCZ.out w5 HBw5.out).2.rd (B := w5.heap.size) rfl k hk
            exact ⟨b, o, h1, fun w' h' => h2 w' h'⟩
          have HMD : Hid (∀ k, k < ms.length → ∃ b o, am = some ⟨b, o, none⟩ ∧ ∀ w', Below w5.heap.size w5 w' → w'.cell? ⟨b, o + k * 2, none⟩ = some (.int .i64 (ms.getD k (0, 0)).1) ∧ w'.cell? ⟨b, o + k * 2 + 1, none⟩ = some (.int .i64 (ms.getD k (0, 0)).2)) := fun k hk => by
            obtain ⟨b, o, h1, h2⟩ := (HMV5.out w5 (Below.refl _ _)).slc.rd (B := w5.heap.size) rfl k hk
            exact ⟨b, o, h1, fun w' h' => h2 w' h'⟩
          have HCZ2 : Hid (∀ w', Below w5.heap.size w5 w' → w'.cell? ⟨bz, oz + z, none⟩ = some (.slice xz rz.length cz) ∧ w'.cell? ⟨A, 0, none⟩ = some (.int .i64 (z : Int)) ∧ w'.cell? ⟨A, 1, none⟩ = some (.slice am ms.length cm) ∧ w'.cell? ⟨A, 2, none⟩ = some (.int .i64 dr)) := fun w' h' =>
            ⟨(HCZ.out w' (HBB.out w' h')).1, cell_of (HA5.out w' h') rfl, cell_of (HA5.out w' h') rfl, cell_of (HA5.out w' h') rfl⟩
          have hrz9 : rz.length ≤ 1000 := by have := HFU.out; omega
          clear HCZ HMV5 HA5 HMO HRZ HBw5 HLE
          obtain ⟨v0, v1, v2, v3⟩ := HCZ2.out wr hb.out
          go_wp2
          clear v0 v1 v2 v3 hlt hi
          go_loopw [21, 22] (fun kv iv wx => ∃ i : Nat, i ≤ rz.length ∧ kv = .int .i64 (((rz.take i).filter fun c => liveV V c hz).length : Nat) ∧ iv = .int .i64 i ∧ Hid (Below w5.heap.size w5 wx)) (fun _ iv _ => rz.length - (intOf iv).toNat)
          case atStart => exact ⟨0, Nat.zero_le _, by simp, rfl, hb⟩
          case round =>
            clear hb
            obtain ⟨i, hi, rfl, rfl, hb⟩ := hrel
            obtain ⟨v0, v1, v2, v3⟩ := HCZ2.out wr hb.out
            by_cases hlt : i < rz.length
            · obtain ⟨b, o, rfl, hci⟩ := HRD.out i hlt
              obtain ⟨x0, x1⟩ := hci wr hb.out
              have hlt2 : (i : Int) < (rz.length : Int) := by omega
              have HYES : Hid (liveV V (rz.getD i (0, 0)) hz = true → ((rz.take i).filter fun c => liveV V c hz).length < ms.length ∧ ms.getD ((rz.take i).filter fun c => liveV V c hz).length (0, 0) = rz.getD i (0, 0) ∧ ((rz.take (i + 1)).filter fun c => liveV V c hz).length = ((rz.take i).filter fun c => liveV V c hz).length + 1) := fun q => by
                rw [HMC.out]
                exact filter_at hlt q
              have HNOT : Hid (liveV V (rz.getD i (0, 0)) hz = false → ((rz.take (i + 1)).filter fun c => liveV V c hz).length = ((rz.take i).filter fun c => liveV V c hz).length) := fun q => filter_no hlt q
              have hkl : ((rz.take i).filter fun c => liveV V c hz).length ≤ 1000 := by
                have h1 := List.length_filter_le (fun c => liveV V c hz) (rz.take i)
                rw [List.length_take] at h1
                omega
              clear hci HRD HMC
              have HB7 : Hid (Below w5.heap.size w5 (wr.alloc (.cells #[.int .i64 (rz.getD i (0, 0)).1, .int .i64 (rz.getD i (0, 0)).2] 33))) := hb.out.alloc hb.out.size _
              have CL := Lib.hid (live_any (rz.getD i (0, 0)) hz _ (HMp.out _ HB7.out))
              have HA7 : Hid ((wr.alloc (.cells #[.int .i64 (rz.getD i (0, 0)).1, .int .i64 (rz.getD i (0, 0)).2] 33)).heap[wr.heap.size]? = some (Obj.cells #[.int .i64 (rz.getD i (0, 0)).1, .int .i64 (rz.getD i (0, 0)).2] 33 (0, 0))) := heap_alloc_new _ _
              clear HMp hb
              generalize hci : rz.getD i (0, 0) = ci at *
              clear hci
              obtain ⟨c0, c1⟩ := ci
              generalize ((rz.take i).filter fun c => liveV V c hz).length = nk at *
              cases hlv : liveV V (c0, c1) hz with
              | true =>
                rw [hlv] at CL
                obtain ⟨t1, t2, t3⟩ := HYES.out hlv
                obtain ⟨bm, om, rfl, hmc⟩ := HMD.out nk t1
                rw [t2] at hmc
                have T3 := Lib.hid t3
                have HMC2 := Lib.hid hmc
                have t4 : (nk : Int) < (ms.length : Int) := by omega
                have t5 : decide ((ms.length : Int) ≤ (nk : Int)) = false := decide_eq_false (by omega)
                have t6 : nk < ms.length := t1
                have hgg := egC
                have hqq := fun w => neqC w c0 c1 c0 c1
                have e0 : (c0 == c0) = true := beq_iff_eq.2 rfl
                have e1 : (c1 == c1) = true := beq_iff_eq.2 rfl
                clear HYES HNOT hlv t1 t2 t3 hmc
                go_wp2_with fail
                refine CL.out.mono ?_
                rintro e w8 ⟨rfl, hb8⟩
                have HB8 : Hid (Below w5.heap.size w5 w8) := HB7.out.trans (hb8.mono HB7.out.size)
                have p8 := (hb8.block _ (Array.getElem?_eq_some_iff.1 HA7.out).1).trans HA7.out
                have z0 : w8.cell? ⟨wr.heap.size, 0, none⟩ = some (.int .i64 c0) := cell_of p8 rfl
                have z1 : w8.cell? ⟨wr.heap.size, 1, none⟩ = some (.int .i64 c1) := cell_of p8 rfl
                obtain ⟨z2, z3⟩ := HMC2.out w8 HB8.out
                obtain ⟨u0, u1, u2, u3⟩ := HCZ2.out w8 HB8.out
                clear hb8 p8 CL HA7 HB7 x0 x1 v0 v1 v2 v3
                go_wp2
                go_quiet (fail)
                go_wp2
                exact ⟨⟨i + 1, by omega, by rw [T3.out]; go_num, by go_num, below_drewN HB8.out _⟩, by simp [intOf]; omega⟩
              | false =>
                rw [hlv] at CL
                have T3 := Lib.hid (HNOT.out hlv)
                clear HYES HNOT hlv
                go_wp2_with fail
                refine CL.out.mono ?_
                rintro e w8 ⟨rfl, hb8⟩
                have HB8 : Hid (Below w5.heap.size w5 w8) := HB7.out.trans (hb8.mono HB7.out.size)
                clear hb8 CL HA7 HB7
                go_wp2
                exact ⟨⟨i + 1, by omega, by rw [T3.out], by go_num, HB8⟩, by simp [intOf]; omega⟩
            · obtain rfl : i = rz.length := by omega
              rw [List.take_length, ← HMC.out]
              have hwr : IntKind.i64.wrap (size - (ms.length : Int)) = size - (ms.length : Int) := IntWalk.i64_in _ (by have h5 := List.length_filter_le (fun c => liveV V c hz) rz; rw [← HMC.out] at h5; omega)
              have hde : (dr == size - (ms.length : Int)) = true := beq_iff_eq.2 HDR.out
              have HBF : Hid (Below B w wr) := HBB.out wr hb.out
              clear HRD HMD HMC HCZ2 HMp hb
              go_wp2_with fail
              refine (awake20_any _).mono ?_
              rintro e wz ⟨rfl, hbz⟩
              have HBZ : Hid (Below B w wz) := HBF.out.trans (hbz.mono (Nat.le_trans hB0.out HBF.out.size))
              clear hbz
              go_wp2
              go_ret
              exact ⟨rfl, HBZ.out⟩
    · obtain ⟨e1, e2, e3⟩ := next_zero he
      rw [e1, e2, e3] at CN
      have hee : (nextE V L size hz now != 0) = true := bne_iff_ne.2 he
      clear HC HG HM hLrow e1 e2 e3 he
      generalize nextE V L size hz now = er at *
      go_wp2_with fail
      refine CN.out.mono ?_
      rintro e w3 ⟨⟨mv, rfl, hmv⟩, hb3⟩
      obtain ⟨am, cm, rfl⟩ := hmv.form
      have HB3 : Hid (Below B w (w3.alloc (.cells #[.int .i64 ((0 : Nat) : Int), .slice am ([] : List Cp).length cm, .int .i64 0] 37))) := (HB2.out.trans (hb3.mono hS2.out)).alloc (Nat.le_trans hS2.out hb3.size) _
      clear hmv hb3 CN
      go_wp2_with fail
      refine (awake20_any _).mono ?_
      rintro e wz ⟨rfl, hbz⟩
      have HBZ : Hid (Below B w wz) := HB3.out.trans (hbz.mono (Nat.le_trans hB0.out HB3.out.size))
      clear hbz
      go_wp2
      go_ret
      exact ⟨rfl, HBZ.out⟩
end Go.Proofs.Ytkpnjehgbehhcaa
