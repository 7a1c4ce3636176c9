/- The walk of ScoreTurns: the law returns true. -/
import Derived.Test.YtloldagcbjkelaaStp
import Derived.Test.YtloldagcbjkelaaOwz
import Derived.OpenShut
namespace Go.Proofs.Ytloldagcbjkelaa
open Go.RowKit Fl

theorem ZSrc.take {w : World} {ad : Addr} {n cap k : Nat} {l : List Zn} (h : SlZ w (.slice (some ad) n cap) l) (hk : k ≤ l.length) : ZSrc w (.slice (some ad) k cap) (l.take k) := by
  obtain ⟨_, _, hv, _, _, _, hc⟩ := h
  simp only [Value.slice.injEq] at hv
  obtain ⟨rfl, _, rfl⟩ := hv
  refine .inr ⟨ad, cap, by rw [List.length_take, Nat.min_eq_left hk], fun i hi => ?_⟩
  rw [List.length_take] at hi
  obtain ⟨b, o, hb, _, c0, c1, c2⟩ := hc i (by omega)
  obtain rfl := Option.some.inj hb
  have e : (l.take k).getD i (0, 0, 0) = l.getD i (0, 0, 0) := by rw [List.getD_eq_getElem?_getD, List.getElem?_take, if_pos (by omega), List.getD_eq_getElem?_getD]
  rw [e, addr_add', addr_add', addr_add', ← Nat.add_assoc, ← Nat.add_assoc]
  exact ⟨c0, c1, c2⟩
theorem ZSrc.drop {w : World} {ad : Addr} {n cap k : Nat} {l : List Zn} (h : SlZ w (.slice (some ad) n cap) l) (hk : k ≤ l.length) (A : Addr) (hA : (if cap = k then ad else ad.add (k * 3)) = A) : ZSrc w (.slice (some A) (l.length - k) (cap - k)) (l.drop k) := by
  obtain ⟨_, _, hv, _, hcl, _, hc⟩ := h
  simp only [Value.slice.injEq] at hv
  obtain ⟨rfl, _, rfl⟩ := hv
  refine .inr ⟨A, cap - k, by rw [List.length_drop], fun i hi => ?_⟩
  rw [List.length_drop] at hi
  obtain ⟨b, o, hb, _, c0, c1, c2⟩ := hc (k + i) (by omega)
  obtain rfl := Option.some.inj hb
  rw [if_neg (by omega), addr_add'] at hA
  subst hA
  have e : (l.drop k).getD i (0, 0, 0) = l.getD (k + i) (0, 0, 0) := by rw [List.getD_eq_getElem?_getD, List.getElem?_drop, List.getD_eq_getElem?_getD]
  rw [e, addr_add', addr_add', addr_add']
  rw [show o + k * 3 + i * 3 = o + (k + i) * 3 by omega, show o + k * 3 + (i * 3 + 1) = o + (k + i) * 3 + 1 by omega, show o + k * 3 + (i * 3 + 2) = o + (k + i) * 3 + 2 by omega]
  exact ⟨c0, c1, c2⟩
theorem ZSrc.new (w : World) (t : TypeId) : ZSrc (w.alloc (.cells #[.int .i64 3, .int .i64 3, .int .i64 0] t)) (.slice (some ⟨w.heap.size, 0, none⟩) 1 1) [(3, 3, 0)] := by
  refine .inr ⟨_, 1, rfl, fun i hi => ?_⟩
  have : i = 0 := by simpa using hi
  subst this
  rw [addr_add', addr_add', addr_add']
  exact ⟨World.cell?_alloc_at _ _ _ 0 rfl, World.cell?_alloc_at _ _ _ 1 rfl, World.cell?_alloc_at _ _ _ 2 rfl⟩

set_option maxHeartbeats 6400000 in
set_option maxRecDepth 16000 in
theorem turns_small (now kk : Int) (hkk : -9223372036854775808 ≤ kk ∧ kk ≤ 9223372036854775807) (a : Option Addr) (cap : Nat) (l : List Zn) (hl : l.length ≤ 200) (hn0 : 0 ≤ now) (hn1 : now ≤ 1099511627776) (w : World) (hS : SlZ w (.slice a l.length cap) l) :
    Calls Try.prog 7 #[.slice a l.length cap, .int .i64 now, .int .i64 kk] w fun e w' => e = .returned (.bool true) ∧ Below w.heap.size w w' := by
  generalize hB : w.heap.size = B
  have hB0 : Hid (B ≤ w.heap.size) := Nat.le_of_eq hB.symm
  have HSL : Hid (∀ w', Hid (Below B w w') → SlZ w' (.slice a l.length cap) l) := fun w' h => hS.below (Nat.le_of_eq hB) h.out
  have HZ : Hid (∀ k, k < l.length → ∃ b o, a = some ⟨b, o, none⟩ ∧ ∀ w', Hid (Below B w w') → w'.cell? ⟨b, o + k * 3, none⟩ = some (.int .i64 (l.getD k (0, 0, 0)).1) ∧
      w'.cell? ⟨b, o + k * 3 + 1, none⟩ = some (.int .i64 (l.getD k (0, 0, 0)).2.1) ∧ w'.cell? ⟨b, o + k * 3 + 2, none⟩ = some (.int .i64 (l.getD k (0, 0, 0)).2.2)) := fun k hk => by
    obtain ⟨_, _, hv, _, _, _, hc⟩ := hS
    simp only [Value.slice.injEq] at hv
    obtain ⟨rfl, _, rfl⟩ := hv
    obtain ⟨b, o, rfl, hlt, c0, c1, c2⟩ := hc k (by omega)
    refine ⟨b, o, rfl, fun w' hb => ⟨?_, ?_, ?_⟩⟩
    · rw [hb.out.cell (p := ⟨b, o + k * 3, none⟩) (by rw [← hB]; exact hlt)]; exact c0
    · rw [hb.out.cell (p := ⟨b, o + k * 3 + 1, none⟩) (by rw [← hB]; exact hlt)]; exact c1
    · rw [hb.out.cell (p := ⟨b, o + k * 3 + 2, none⟩) (by rw [← hB]; exact hlt)]; exact c2
  have CR := Lib.hid (rank_any _ l now (by omega) w hS)
  have hcap : Hid (l.length ≤ cap ∧ (a = none → cap = 0)) := by
    obtain ⟨_, _, hv, h1, h2, _⟩ := hS
    simp only [Value.slice.injEq] at hv
    obtain ⟨rfl, _, rfl⟩ := hv
    exact ⟨h2, h1⟩
  have hsm : decide (l.length ≤ 200) = true := decide_eq_true hl
  clear hS hB
  go_enter Try.func7, Try.ntmps7
  go_wp2_with (go_at_call 15; refine (small5_any _ _ _ _).mono ?_; rintro e w' ⟨rfl, rfl⟩)
  refine CR.out.mono ?_
  rintro e w1 ⟨v1, r, rfl, hr, ho1, hb1⟩
  have B1 : Hid (Below B w w1) := hb1.mono hB0.out
  have S1 : Hid (B ≤ w1.heap.size) := Nat.le_trans hB0.out B1.out.size
  have hrl := hr.len
  have HR := Lib.hid hr
  obtain ⟨ar, cr, rfl⟩ := ho1.form
  have HRC : Hid (0 < r.length → ∃ g, ar = some ⟨g, 0, none⟩ ∧ ∀ i, i < r.length → ∀ w', Hid (Below w1.heap.size w1 w') → w'.cell? ⟨g, i, none⟩ = some (.int .i64 (r.getD i 0 : Nat))) := fun hi => by
    obtain ⟨g, c, he, _, hg⟩ := ho1.at0 hi
    simp only [Value.slice.injEq] at he
    obtain ⟨rfl, _, rfl⟩ := he
    refine ⟨g, rfl, fun i hi w' hb => ?_⟩
    rw [hb.out.cell (p := ⟨g, i, none⟩) hg]
    exact (ho1.cellOf i hi).1
  clear ho1 hb1 hr CR
  go_wp2
  go_loopw [8] (fun iv wr => ∃ (j : Nat), (r.length = 0 ∨ j + 1 ≤ r.length) ∧ iv = .int .i64 ((j : Int) + 1) ∧ Hid (Below w1.heap.size w1 wr)) (fun iv _ => r.length - (intOf iv).toNat)
  case atStart => exact ⟨0, by omega, rfl, Below.refl _ _⟩
  case round =>
    obtain ⟨j, hj, rfl, hbl⟩ := hrel
    by_cases hlt : j + 1 < r.length
    · obtain ⟨g, rfl, hgc⟩ := HRC.out (by omega)
      obtain ⟨hx, hokx⟩ := HR.out.mem (by omega : j < r.length)
      obtain ⟨hy, hoky⟩ := HR.out.mem hlt
      have hturn := turn_of hokx hoky (HR.out.le (by omega) hlt) (HR.out.ne (by omega) hlt)
      have e0 := hgc j (by omega) wr hbl
      have HG := Lib.hid hgc
      have HBW : Hid (Below B w wr) := B1.out.trans (hbl.out.mono S1.out)
      obtain ⟨b, o, rfl, hc⟩ := HZ.out _ hx
      obtain ⟨b', o', hbo, hc'⟩ := HZ.out _ hy
      simp only [Option.some.injEq, Addr.mk.injEq, and_true] at hbo
      obtain ⟨rfl, rfl⟩ := hbo
      obtain ⟨hc0, hc1, hc2⟩ := hc wr HBW
      have HC' := Lib.hid hc'
      have CX := fun w' => score_any (l.getD (r.getD j 0) (0, 0, 0)).1 (l.getD (r.getD j 0) (0, 0, 0)).2.1 (l.getD (r.getD j 0) (0, 0, 0)).2.2 now w'
      have CY := fun w' => score_any (l.getD (r.getD (j + 1) 0) (0, 0, 0)).1 (l.getD (r.getD (j + 1) 0) (0, 0, 0)).2.1 (l.getD (r.getD (j + 1) 0) (0, 0, 0)).2.2 now w'
      rw [← scS_ok hokx] at CX
      rw [← scS_ok hoky] at CY
      have CX := Lib.hid CX
      have CY := Lib.hid CY
      clear hgc hc hc' hokx hoky
      generalize scS l now (r.getD j 0) = X at *
      generalize scS l now (r.getD (j + 1) 0) = Y at *
      generalize hgx : r.getD j 0 = x at *
      generalize hgy : r.getD (j + 1) 0 = y at *
      have HGX := Lib.hid hgx
      have HGY := Lib.hid hgy
      clear hgx hgy
      generalize scoreE (l.getD x (0, 0, 0)).1 (l.getD x (0, 0, 0)).2.1 (l.getD x (0, 0, 0)).2.2 now = E1 at *
      generalize scoreE (l.getD y (0, 0, 0)).1 (l.getD y (0, 0, 0)).2.1 (l.getD y (0, 0, 0)).2.2 now = E2 at *
      generalize (l.getD x (0, 0, 0)).1 = x0 at *
      generalize (l.getD x (0, 0, 0)).2.1 = x1 at *
      generalize (l.getD x (0, 0, 0)).2.2 = x2 at *
      have ix : (x : Int) < (l.length : Int) := by omega
      have iy : (y : Int) < (l.length : Int) := by omega
      go_wp2_with fail
      refine (CX.out _).mono ?_
      rintro e w2 ⟨rfl, hb2⟩
      have D2 : Hid (Below w1.heap.size w1 w2) := hbl.out.trans (hb2.mono hbl.out.size)
      have HBW2 : Hid (Below B w w2) := B1.out.trans (D2.out.mono S1.out)
      obtain ⟨hd0, hd1, hd2⟩ := HC'.out w2 HBW2
      have e1 := HG.out (j + 1) hlt w2 D2
      rw [HGY.out] at e1
      clear hb2
      generalize (l.getD y (0, 0, 0)).1 = y0 at *
      generalize (l.getD y (0, 0, 0)).2.1 = y1 at *
      generalize (l.getD y (0, 0, 0)).2.2 = y2 at *
      go_wp2_with fail
      refine (CY.out _).mono ?_
      rintro e w3 ⟨rfl, hb3⟩
      have D3 : Hid (Below w1.heap.size w1 w3) := D2.out.trans (hb3.mono D2.out.size)
      have e2 := HG.out j (by omega) w3 D3
      have e3 := HG.out (j + 1) hlt w3 D3
      rw [HGX.out] at e2
      rw [HGY.out] at e3
      clear hb3
      have hwr : IntKind.i64.wrap ((j : Int)) = j := IntWalk.i64_in _ (by omega)
      rcases hturn with h | ⟨h, h2, h3⟩
      · go_wp2
        go_quiet (fail)
        clear hwr
        go_wp2
        exact ⟨⟨j + 1, by omega, by go_num, below_drewN D3.out _⟩, by simp [intOf]; omega⟩
      · have hxy : decide (x < y) = true := decide_eq_true h3
        go_wp2
        go_quiet (fail)
        clear hwr
        go_wp2
        exact ⟨⟨j + 1, by omega, by go_num, below_drewN D3.out _⟩, by simp [intOf]; omega⟩
    · clear HZ
      have hrr := round_any kk ((l.length : Int) + 1) hkk (by omega) (by omega)
      generalize hrd : kk % ((l.length : Int) + 1) = rd at hrr
      have hr0 : 0 ≤ rd := by rw [← hrd]; exact Int.emod_nonneg _ (by omega)
      have hr1 : rd ≤ l.length := by have := Int.emod_lt_of_pos kk (show 0 < (l.length : Int) + 1 by omega); omega
      obtain ⟨k, rfl⟩ := Int.eq_ofNat_of_zero_le hr0
      have HRR := Lib.hid hrr
      have hk : k ≤ l.length := by omega
      clear hrr hrd hr0 hr1
      have HBW : Hid (Below B w wr) := B1.out.trans (hbl.out.mono S1.out)
      have SW : Hid (B ≤ wr.heap.size) := Nat.le_trans hB0.out HBW.out.size
      have hcl := hcap.out.1
      have hkc : k ≤ cap := by omega
      cases a with
      | none =>
        have hc0 : cap = 0 := hcap.out.2 rfl
        have hl0 : l = [] := List.eq_nil_of_length_eq_zero (by omega)
        subst hc0
        subst hl0
        have hk0 : k = 0 := by simpa using hk
        subst hk0
        have hr0 : r = [] := List.eq_nil_of_length_eq_zero (by simpa using hrl)
        have CQ : Hid (∀ v4 w4, Hid (OwnZ w4 wr.heap.size v4 [(3, 3, 0)]) → Calls Try.prog 16 #[v4, .int .i64 now] w4 fun e w' => ∃ a q, e = .returned (.slice a 0 q) ∧ Below w4.heap.size w4 w') := fun v4 w4 HO4 => by
          refine (rank_any v4 (insZ [] 0) now (by rw [insZ_len hk]; simp) w4 (HO4.out.slz (by simp))).mono ?_
          rintro e w' ⟨v', r', rfl, hr', ho, hb⟩
          rw [insZ_len hk] at hr'
          obtain rfl := (rank_ins hk HR.out).unique hr'
          rw [hr0] at ho
          obtain ⟨aq, cq, rfl⟩ := ho.form
          exact ⟨aq, cq, rfl, hb⟩
        subst hr0
        clear hk hrl hl hcl hkc hsm
        go_wp2_with (first
          | (go_at_call 17; refine (HRR.out _).mono ?_; rintro e w' ⟨rfl, rfl⟩)
          | (at_builtin; go_must (refine wpList_appZ rfl _ _ rfl wr.heap.size (.slice none 0 0) [] rfl (OwnZ.nil _ _) (.slice none 0 0) [] rfl (.inl ⟨rfl, rfl⟩) (by decide) (Nat.le_refl _) ?_)))
        intro v2 w2 ho2 hg2
        have HO2 := Lib.hid ho2
        have D2 : Hid (Below wr.heap.size wr w2) := (Below.refl _ _).grown hg2 (Nat.le_refl _) (fun k h => by cases h)
        clear ho2 hg2
        go_wp2_with (at_builtin; go_must (refine wpList_appZ rfl _ _ rfl wr.heap.size v2 _ rfl (HO2.out.alloc _) (.slice (some ⟨w2.heap.size, 0, none⟩) 1 1) [(3, 3, 0)] rfl (ZSrc.new w2 _) ?e3 ?e4 ?_))
        case e3 => simp
        case e4 => have := D2.out.size; simp; omega
        intro v3 w3 ho3 hg3
        have HO3 := Lib.hid ho3
        have D3 : Hid (Below wr.heap.size wr w3) := OwnZ.below (HO2.out.alloc _) hg3 (D2.out.alloc D2.out.size _) (Nat.le_refl _) (by have := D2.out.size; simp; omega)
        clear ho3 hg3
        go_wp2_with (at_builtin; go_must (refine wpList_appZ rfl _ _ rfl wr.heap.size v3 _ rfl HO3.out (.slice none 0 0) [] rfl (.inl ⟨rfl, rfl⟩) ?e5 ?e6 ?_))
        case e5 => simp
        case e6 => exact D3.out.size
        intro v4 w4 ho4 hg4
        have HO4 : Hid (OwnZ w4 wr.heap.size v4 [(3, 3, 0)]) := ho4
        have D4 : Hid (Below wr.heap.size wr w4) := OwnZ.below HO3.out hg4 D3.out (Nat.le_refl _) D3.out.size
        clear ho4 hg4
        go_wp2_with fail
        refine (CQ.out v4 w4 HO4).mono ?_
        rintro e w5 ⟨aq, cq, rfl, hb5⟩
        have D5 : Hid (Below wr.heap.size wr w5) := D4.out.trans (hb5.mono D4.out.size)
        clear hb5
        go_wp2
        go_loop [15] (fun iv => iv = .int .i64 0) (fun _ => 0)
        case atStart => rfl
        case round =>
          subst hrel
          go_wp2_with (go_at_call 14; refine (awake5_any _).mono ?_; rintro e w' ⟨rfl, hbb⟩)
          go_ret
          exact ⟨rfl, HBW.out.trans ((D5.out.trans (hbb.mono D5.out.size)).mono SW.out)⟩
      | some ad =>
        go_wp2_with (first
          | (go_at_call 17; refine (HRR.out _).mono ?_; rintro e w' ⟨rfl, rfl⟩)
          | (at_builtin; go_must (refine wpList_appZ rfl _ _ rfl wr.heap.size (.slice none 0 0) [] rfl (OwnZ.nil _ _) (.slice (some ad) k cap) (l.take k) rfl ?c0 ?c1 ?c2 ?_)))
        case c0 => exact ZSrc.take (HSL.out wr HBW) hk
        case c1 => simp; omega
        case c2 => exact Nat.le_refl _
        intro v2 w2 ho2 hg2
        have HO2 := Lib.hid ho2
        have D2 : Hid (Below wr.heap.size wr w2) := (Below.refl _ _).grown hg2 (Nat.le_refl _) (fun k h => by cases h)
        clear ho2 hg2
        go_wp2_with (at_builtin; go_must (refine wpList_appZ rfl _ _ rfl wr.heap.size v2 _ rfl (HO2.out.alloc _) (.slice (some ⟨w2.heap.size, 0, none⟩) 1 1) [(3, 3, 0)] rfl (ZSrc.new w2 _) ?c3 ?c4 ?_))
        case c3 => simp; omega
        case c4 => have := D2.out.size; simp; omega
        intro v3 w3 ho3 hg3
        have HO3 := Lib.hid ho3
        have D3 : Hid (Below wr.heap.size wr w3) := OwnZ.below (HO2.out.alloc _) hg3 (D2.out.alloc D2.out.size _) (Nat.le_refl _) (by have := D2.out.size; simp; omega)
        clear ho3 hg3
        obtain ⟨A, hA⟩ : ∃ A, (if cap = k then ad else ad.add (k * 3)) = A := ⟨_, rfl⟩
        have hif : (if cap = k then some ad else some (ad.add (k * 3))) = some A := by
          rw [← hA]; split <;> rfl
        have HBW3 : Hid (Below B w w3) := HBW.out.trans (D3.out.mono SW.out)
        have HDR := Lib.hid (ZSrc.drop (HSL.out w3 HBW3) hk A hA)
        clear hA
        go_wp2_with (at_builtin; go_must (refine wpList_appZ rfl _ _ rfl wr.heap.size v3 _ rfl HO3.out (.slice (some A) (l.length - k) (cap - k)) (l.drop k) rfl HDR.out ?c5 ?c6 ?_))
        case c5 => simp; omega
        case c6 => exact D3.out.size
        intro v4 w4 ho4 hg4
        clear hif
        have HO4 : Hid (OwnZ w4 wr.heap.size v4 (insZ l k)) := by show OwnZ _ _ _ _; unfold insZ; rw [List.append_assoc]; exact ho4
        have D4 : Hid (Below wr.heap.size wr w4) := OwnZ.below HO3.out hg4 D3.out (Nat.le_refl _) D3.out.size
        clear ho4 hg4
        have CQ : Hid (Calls Try.prog 16 #[v4, .int .i64 now] w4 fun e w' => ∃ v', e = .returned v' ∧ OwnN w' w4.heap.size v' (r.map (shK k)) ∧ Below w4.heap.size w4 w') := by
          refine (rank_any v4 (insZ l k) now (by rw [insZ_len hk]; omega) w4 (HO4.out.slz (by rw [insZ_len hk]; omega))).mono ?_
          rintro e w' ⟨v', r', rfl, hr', ho, hb⟩
          rw [insZ_len hk] at hr'
          obtain rfl := (rank_ins hk HR.out).unique hr'
          exact ⟨v', rfl, ho, hb⟩
        clear HO4 HO3 HO2
        go_wp2_with fail
        refine CQ.out.mono ?_
        rintro e w5 ⟨v5, rfl, ho5, hb5⟩
        have D5 : Hid (Below wr.heap.size wr w5) := D4.out.trans (hb5.mono D4.out.size)
        have D15 : Hid (Below w1.heap.size w1 w5) := hbl.out.trans (D5.out.mono hbl.out.size)
        have HQC : Hid (0 < r.length → ∃ g c, v5 = .slice (some ⟨g, 0, none⟩) r.length c ∧ ∀ i, i < r.length → w5.cell? ⟨g, i, none⟩ = some (.int .i64 (shK k (r.getD i 0) : Nat))) := fun h0 => by
          obtain ⟨g, c, he, _, _⟩ := ho5.at0 (by rw [List.length_map]; exact h0)
          have ho5' := ho5
          rw [he] at ho5'
          rw [List.length_map] at he
          refine ⟨g, c, he, fun i hi => ?_⟩
          have h1 := (ho5'.cellOf i (by rw [List.length_map]; exact hi)).1
          have e : (r.map (shK k)).getD i 0 = shK k (r.getD i 0) := by
            rw [List.getD_eq_getElem?_getD, List.getElem?_map, List.getElem?_eq_getElem hi, List.getD_eq_getElem?_getD, List.getElem?_eq_getElem hi]; rfl
          rw [e] at h1
          exact h1
        obtain ⟨aq, cq, hv5⟩ := ho5.form
        rw [List.length_map] at hv5
        subst hv5
        clear ho5 hb5 CQ
        go_wp2
        go_loop [15] (fun iv => ∃ i : Nat, i ≤ r.length ∧ iv = .int .i64 i) (fun iv => r.length - (intOf iv).toNat)
        case atStart => exact ⟨0, by omega, rfl⟩
        case round =>
          obtain ⟨i, hi, rfl⟩ := hrel
          by_cases hlt2 : i < r.length
          · obtain ⟨g, rfl, hgc⟩ := HRC.out (by omega)
            have e0 := hgc i hlt2 w5 D15
            obtain ⟨g5, c5, hv5, hq5⟩ := HQC.out (by omega)
            simp only [Value.slice.injEq] at hv5
            obtain ⟨rfl, _, rfl⟩ := hv5
            have e1 := hq5 i hlt2
            clear hgc hq5
            have hx : r.getD i 0 < l.length := (HR.out.mem hlt2).1
            generalize r.getD i 0 = x at *
            by_cases hxk : x < k
            · have d1 : decide (k ≤ x) = false := decide_eq_false (by omega)
              rw [show shK k x = x from if_pos hxk] at e1
              go_wp2
              go_round
              case rel => exact ⟨i + 1, by omega, by go_num⟩
              case measure => simp [intOf]; omega
            · have d1 : decide (k ≤ x) = true := decide_eq_true (by omega)
              rw [show shK k x = x + 1 from if_neg hxk, Int.natCast_add, Int.natCast_one] at e1
              go_wp2
              go_round
              case rel => exact ⟨i + 1, by omega, by go_num⟩
              case measure => simp [intOf]; omega
          · clear HRC HQC
            go_wp2_with (go_at_call 14; refine (awake5_any _).mono ?_; rintro e w' ⟨rfl, hbb⟩)
            go_ret
            exact ⟨rfl, HBW.out.trans ((D5.out.trans (hbb.mono D5.out.size)).mono SW.out)⟩
set_option maxHeartbeats 800000 in
set_option maxRecDepth 8000 in
theorem turns_off (now kk : Int) (a : Option Addr) (n cap : Nat) (h : 200 < n ∨ (n ≤ 200 ∧ now < 0) ∨ (n ≤ 200 ∧ 0 ≤ now ∧ 1099511627776 < now)) (w : World) :
    Calls Try.prog 7 #[.slice a n cap, .int .i64 now, .int .i64 kk] w fun e w' => e = .returned (.bool true) ∧ Below w.heap.size w w' := by
  rcases h with h | ⟨h, h2⟩ | ⟨h, h2, h3⟩
  · have hsm : decide (n ≤ 200) = false := decide_eq_false (by omega)
    go_enter Try.func7, Try.ntmps7
    go_wp2_with (first | (go_at_call 15; refine (small5_any _ _ _ _).mono ?_; rintro e w' ⟨rfl, rfl⟩) | (go_at_call 14; refine (awake5_any _).mono ?_; rintro e w' ⟨rfl, hbb⟩))
    go_ret
    exact ⟨rfl, hbb⟩
  all_goals
    have hsm : decide (n ≤ 200) = true := decide_eq_true h
    go_enter Try.func7, Try.ntmps7
    go_wp2_with (first | (go_at_call 15; refine (small5_any _ _ _ _).mono ?_; rintro e w' ⟨rfl, rfl⟩) | (go_at_call 14; refine (awake5_any _).mono ?_; rintro e w' ⟨rfl, hbb⟩))
    go_ret
    exact ⟨rfl, hbb⟩

theorem walk_ScoreTurns (w : World) (v : Value) (l : List Zn) (h : SlZ w v l) (now : Int) (_ : (Lit.int .i64 now).wf = true) (kk : Int) (wk : (Lit.int .i64 kk).wf = true) :
    Calls Try.prog 7 #[v, .int .i64 now, .int .i64 kk] w fun e w' => e = .returned (.bool true) ∧ Below w.heap.size w w' := by
  obtain ⟨a, cap, rfl, _⟩ := id h
  rcases Nat.lt_or_ge 200 l.length with hl | hl
  · exact turns_off now kk a _ cap (.inl hl) w
  · rcases Int.lt_or_le now 0 with h1 | h1
    · exact turns_off now kk a _ cap (.inr (.inl ⟨hl, h1⟩)) w
    · rcases Int.lt_or_le 1099511627776 now with h2 | h2
      · exact turns_off now kk a _ cap (.inr (.inr ⟨hl, h1, h2⟩)) w
      · exact turns_small now kk (bounds_i64 wk) a cap l hl h1 h2 w h
end Go.Proofs.Ytloldagcbjkelaa
