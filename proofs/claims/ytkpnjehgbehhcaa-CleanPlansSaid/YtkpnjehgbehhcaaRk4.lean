/- The walk of the reference's Rank. -/
import Derived.Test.YtkpnjehgbehhcaaRrp
import Derived.Test.YtkpnjehgbehhcaaRk3
namespace Go.Proofs.Ytkpnjehgbehhcaa
open Go.RowKit Fl

theorem Apart.grow1 {v u v' : Value} {s : Nat} (h : Apart v u) (hv : v'.ownBlock = v.ownBlock ∨ v'.ownBlock = some s) (hu : ∀ g, u.ownBlock = some g → g < s) : Apart v' u := by
  intro g hg hug
  rcases hv with e | e
  · rw [e] at hg; exact h g hg hug
  · rw [e] at hg
    have := hu g hug
    simp at hg; omega
theorem Apart.grow2 {v u u' : Value} {s : Nat} (h : Apart v u) (hu : u'.ownBlock = u.ownBlock ∨ u'.ownBlock = some s) (hv : ∀ g, v.ownBlock = some g → g < s) : Apart v u' := by
  intro g hg hug
  rcases hu with e | e
  · rw [e] at hug; exact h g hg hug
  · rw [e] at hug
    have := hv g hg
    simp at hug; omega

theorem OwnF.apart {w w' : World} {base : Nat} {v u : Value} {xs : List Nat} (h : OwnF w base u xs) (hg : w.grownBy w' v.ownBlock) (hap : Apart v u) : OwnF w' base u xs := by
  cases hu : u.ownBlock with
  | none => exact World.ownsRow.kept h hg (.inl hu)
  | some g => exact World.ownsRow.kept h hg (.inr (fun e => hap g (by rw [← e]; exact hu) hu))
theorem OwnN.apart {w w' : World} {base : Nat} {v u : Value} {xs : List Nat} (h : OwnN w base v xs) (hg : w.grownBy w' u.ownBlock) (hap : Apart v u) : OwnN w' base v xs := by
  cases hv : v.ownBlock with
  | none => exact World.ownsRow.kept h hg (.inl hv)
  | some g => exact World.ownsRow.kept h hg (.inr (fun e => hap g hv (by rw [← e]; exact hv)))
/-- both rows while the numbers behind a place move up -/
def ShRel (B : Nat) (w : World) (r sl : List Nat) (n gv gu c5 c6 T : Nat) (kv : Value) (wx : World) : Prop := ∃ k : Nat, T ≤ k ∧ k ≤ n ∧ kv = .int .i64 k ∧
  Hid (OwnN wx B (.slice (some ⟨gv, 0, none⟩) (n + 1) c5) (shiftL r k)) ∧ Hid (OwnF wx B (.slice (some ⟨gu, 0, none⟩) (n + 1) c6) (shiftL sl k)) ∧ Hid (Below B w wx)

/-- where one more is to stand: all from place t on are worth less -/
def AtRel (n : Nat) (sl : List Nat) (X : Nat) (tv : Value) : Prop := ∃ t : Nat, t ≤ n ∧ tv = .int .i64 t ∧ Hid (∀ j, t ≤ j → j < n → ckf (sl.getD j 0) < ckf X)

set_option maxHeartbeats 6400000 in
set_option maxRecDepth 16000 in
theorem rrank_any0 (a : Option Addr) (cap : Nat) (l : List Zn) (now : Int) (hn : l.length ≤ 1000000) (w : World) (h : SlZ w (.slice a l.length cap) l) :
    Calls Try.prog 41 #[.slice a l.length cap, .int .i64 now] w fun e w' => ∃ v' r, e = .returned v' ∧ IsRank (scS l now) (okB l now) l.length r ∧ OwnN w' w.heap.size v' r ∧ Below w.heap.size w w' := by
  generalize hB : w.heap.size = B
  have hB0 : Hid (B ≤ w.heap.size) := Nat.le_of_eq hB.symm
  have HZ : Hid (∀ k, k < l.length → ∃ b o, a = some ⟨b, o, none⟩ ∧ ∀ w', Hid (Below B w w') → w'.cell? ⟨b, o + k * 3, none⟩ = some (.int .i64 (l.getD k (0, 0, 0)).1) ∧
      w'.cell? ⟨b, o + k * 3 + 1, none⟩ = some (.int .i64 (l.getD k (0, 0, 0)).2.1) ∧ w'.cell? ⟨b, o + k * 3 + 2, none⟩ = some (.int .i64 (l.getD k (0, 0, 0)).2.2)) := fun k hk => by
    obtain ⟨_, _, hv, _, _, _, hc⟩ := h
    simp only [Value.slice.injEq] at hv
    obtain ⟨rfl, _, rfl⟩ := hv
    obtain ⟨b, o, rfl, hlt, c0, c1, c2⟩ := hc k (by omega)
    refine ⟨b, o, rfl, fun w' hb => ⟨?_, ?_, ?_⟩⟩
    · rw [hb.out.cell (p := ⟨b, o + k * 3, none⟩) (by rw [← hB]; exact hlt)]; exact c0
    · rw [hb.out.cell (p := ⟨b, o + k * 3 + 1, none⟩) (by rw [← hB]; exact hlt)]; exact c1
    · rw [hb.out.cell (p := ⟨b, o + k * 3 + 2, none⟩) (by rw [← hB]; exact hlt)]; exact c2
  clear h hB
  go_enter Try.func41, Try.ntmps41
  go_wp2
  go_loopw [5, 6, 7] (fun vo vs iv wr => ∃ (i : Nat) (v u : Value) (r : List Nat), v = vo ∧ u = vs ∧ i ≤ l.length ∧ iv = .int .i64 i ∧ Hid (IsRank (scS l now) (okB l now) i r) ∧ Hid (OwnN wr B v r) ∧ Hid (OwnF wr B u (r.map (scS l now))) ∧ Hid (Apart v u) ∧ Hid (Below B w wr)) (fun _ _ iv _ => l.length - (intOf iv).toNat)
  case atStart => exact ⟨0, _, _, [], rfl, rfl, by omega, rfl, IsRank.start _ _, OwnN.nil _ _, OwnF.nil _ _, (by intro g hg; simp [Value.ownBlock] at hg), Below.refl _ _⟩
  case round =>
    obtain ⟨i, v, u, r, rfl, rfl, hi, rfl, hR, hon, hof, hap, hbl⟩ := hrel
    by_cases hlt : i < l.length
    · obtain ⟨wo, hwo⟩ : ∃ wo : World, wo = wr := ⟨_, rfl⟩
      subst hwo
      obtain ⟨b, o, rfl, hc⟩ := HZ.out i hlt
      obtain ⟨hc0, hc1, hc2⟩ := hc wo hbl
      have HOK : Hid (okB l now i = okZ now (l.getD i (0, 0, 0))) := rfl
      have HSC : Hid (scS l now i = if okB l now i then scoreV (l.getD i (0, 0, 0)).1 (l.getD i (0, 0, 0)).2.1 (l.getD i (0, 0, 0)).2.2 now else 0) := rfl
      have cs := fun w' => rscore_any (l.getD i (0, 0, 0)).1 (l.getD i (0, 0, 0)).2.1 (l.getD i (0, 0, 0)).2.2 now w'
      rw [← score_same] at cs
      have CS := Lib.hid cs
      clear hc HZ cs
      unfold okZ at HOK
      generalize (l.getD i (0, 0, 0)).1 = z0 at *
      generalize (l.getD i (0, 0, 0)).2.1 = z1 at *
      generalize (l.getD i (0, 0, 0)).2.2 = z2 at *
      generalize scoreE z0 z1 z2 now = E at *
      generalize scoreV z0 z1 z2 now = X at *
      have HBO : Hid (B ≤ wo.heap.size) := Nat.le_trans hB0.out hbl.out.size
      by_cases hbad : (E != 0) = true ∨ ((E != 0) = false ∧ isNaN X = true) ∨ ((E != 0) = false ∧ isNaN X = false ∧ feq X 0 = true)
      · have hno : okB l now i = false := by
          rw [HOK.out]
          rcases hbad with h | ⟨h, h2⟩ | ⟨h, h2, h3⟩
          · have : (E == 0) = false := by simpa using h
            rw [this]; rfl
          · rw [h2]; simp
          · rw [h3]; simp
        have HR2 : Hid (IsRank (scS l now) (okB l now) (i + 1) r) := hR.out.skip hno
        clear hno HOK HSC hR
        rcases hbad with h | ⟨h, h2⟩ | ⟨h, h2, h3⟩
        all_goals
          go_wp2_with (go_at_call 17; refine (CS.out _).mono ?_; rintro e w2 ⟨rfl, hb2⟩)
          exact ⟨⟨i + 1, v, u, r, rfl, rfl, by omega, by go_num, HR2, hon.out.later hb2, hof.out.later hb2, hap, hbl.out.trans (hb2.mono HBO.out)⟩, by simp [intOf]; omega⟩
      · have hE : (E != 0) = false := by cases h : (E != 0) with | false => rfl | true => exact absurd (.inl h) hbad
        have hN : isNaN X = false := by cases h : isNaN X with | false => rfl | true => exact absurd (.inr (.inl ⟨hE, h⟩)) hbad
        have hF : feq X 0 = false := by cases h : feq X 0 with | false => rfl | true => exact absurd (.inr (.inr ⟨hE, hN, h⟩)) hbad
        clear hbad
        have hyes : okB l now i = true := by
          rw [HOK.out, hN, hF]
          have : (E == 0) = true := by simpa using hE
          rw [this]; rfl
        have e1 : scS l now i = X := by rw [HSC.out, hyes]; rfl
        have E1 := Lib.hid e1
        have HY := Lib.hid hyes
        clear hyes e1 HOK HSC
        have hrl := hR.out.len
        obtain ⟨av, cv, hv⟩ := hon.out.form
        obtain ⟨au, cu, hu⟩ := hof.out.form
        rw [List.length_map] at hu
        subst hv
        subst hu
        go_wp2_with (go_at_call 17; refine (CS.out _).mono ?_; rintro e w2 ⟨rfl, hb2⟩)
        have HON2 : Hid (OwnN w2 B (.slice av r.length cv) r) := hon.out.later hb2
        have HOF2 : Hid (OwnF w2 B (.slice au r.length cu) (r.map (scS l now))) := hof.out.later hb2
        have HB2 : Hid (Below B w w2) := hbl.out.trans (hb2.mono HBO.out)
        have HBO2 : Hid (B ≤ w2.heap.size) := Nat.le_trans HBO.out hb2.size
        clear hb2 hon hof hbl HBO
        obtain ⟨sl, hsl⟩ : ∃ sl, sl = r.map (scS l now) := ⟨_, rfl⟩
        have HSL := Lib.hid hsl
        have HSN : Hid (sl.length = r.length) := by show _ = _; rw [hsl, List.length_map]
        rw [← hsl] at HOF2
        clear hsl
        go_loop [10] (fun tv => AtRel r.length sl X tv) (fun tv => (intOf tv).toNat)
        case atStart => exact ⟨r.length, Nat.le_refl _, rfl, fun j h1 h2 => by omega⟩
        case round =>
          obtain ⟨t, ht, rfl, hgt⟩ := hrel
          by_cases hmore : ∃ s, t = s + 1 ∧ ckf (sl.getD s 0) < ckf X
          · obtain ⟨s, rfl, hlt2⟩ := hmore
            obtain ⟨g, c, hgu, hg1, hg2⟩ := HOF2.out.at0 (by rw [HSN.out]; omega)
            simp only [Value.slice.injEq] at hgu
            obtain ⟨rfl, hx9, rfl⟩ := hgu
            clear hx9
            have hcs := (HOF2.out.cellOf s (by rw [HSN.out]; omega)).1
            have HP : Hid (cmpF (sl.getD s 0) X = -1) := (cmpF_ltf hlt2).1
            have hgt2 : Hid (∀ j, s ≤ j → j < r.length → ckf (sl.getD j 0) < ckf X) := fun j h1 h2 => by
              rcases Nat.lt_or_ge s j with h | h
              · exact hgt.out j h h2
              · obtain rfl : j = s := by omega
                exact hlt2
            have hqz : ((s + 1 : Nat) : Int) = (s : Int) + 1 := by omega
            rw [hqz]
            clear hqz hgt hlt2
            generalize sl.getD s 0 = x0 at *
            go_wp2_with (go_at_call 54; refine (rcompare_any _ _ _).mono ?_; rintro e w' ⟨rfl, rfl⟩; rw [HP.out])
            go_round
            case rel => exact ⟨s, by omega, rfl, hgt2⟩
            case measure => simp [intOf]
          · have hst : t = 0 ∨ ∃ s, t = s + 1 ∧ ckf X ≤ ckf (sl.getD s 0) := by
              rcases Nat.eq_zero_or_pos t with h | h
              · exact .inl h
              · refine .inr ⟨t - 1, by omega, ?_⟩
                rcases Nat.lt_or_ge (ckf (sl.getD (t - 1) 0)) (ckf X) with h1 | h1
                · exact absurd ⟨t - 1, by omega, h1⟩ hmore
                · exact h1
            clear hmore
            have HINS : Hid (IsRank (scS l now) (okB l now) (i + 1) (r.take t ++ i :: r.drop t)) := by
              refine hR.out.ins HY.out ht (fun j h1 h2 => ?_) (fun h0 => ?_)
              · rw [← HSL.out, E1.out]; exact hgt.out j h1 h2
              · rcases hst with h | ⟨s, rfl, h1⟩
                · omega
                · rw [← HSL.out, E1.out]; exact h1
            have hst2 : (t = 0 ∧ True) ∨ ∃ s p, t = s + 1 ∧ cmpF (sl.getD s 0) X = p ∧ (p = 0 ∨ p = 1) := by
              rcases hst with h | ⟨s, h, h1⟩
              · exact .inl ⟨h, trivial⟩
              · rcases Nat.lt_or_eq_of_le h1 with h2 | h2
                · exact .inr ⟨s, 1, h, (cmpF_ltf h2).2, .inr rfl⟩
                · exact .inr ⟨s, 0, h, cmpF_eqf h2.symm, .inl rfl⟩
            clear hst hgt hR
            rcases hst2 with ⟨rfl, _⟩ | ⟨s, p, rfl, hp, hp2⟩
            · rw [show ((0 : Nat) : Int) = 0 from rfl]
              go_wp2_with (at_builtin; go_must (refine wpList_oneN rfl _ _ rfl B (.slice av r.length cv) r rfl w2 0 3 rfl (HON2.out.alloc _) rfl ?ac1 ?ac2 ?_))
              case ac1 => omega
              case ac2 => have := HBO2.out; simp; omega
              intro v5 w5 ho5 hg5 hb5
              have HON5 := Lib.hid ho5
              have HOF5 : Hid (OwnF w5 B (.slice au r.length cu) sl) := (HOF2.out.alloc _).apart hg5 hap.out
              have HB5 : Hid (Below B w w5) := OwnN.below (HON2.out.alloc _) hg5 (HB2.out.alloc HBO2.out _) (Nat.le_refl _) (by have := HBO2.out; simp; omega)
              have HBO5 : Hid (B ≤ w5.heap.size) := Nat.le_trans hB0.out HB5.out.size
              have HAP5 : Hid (Apart v5 (.slice au r.length cu)) := hap.out.grow1 hb5 (fun g hg => by have := (World.ownsRow.lt HOF2.out g hg).2; simp; omega)
              clear ho5 hg5 hb5
              go_wp2_with (at_builtin; go_must (refine wpList_oneF rfl _ _ rfl B (.slice au r.length cu) sl rfl w5 0 49 rfl (HOF5.out.alloc _) rfl ?ad1 ?ad2 ?_))
              case ad1 => rw [HSN.out]; omega
              case ad2 => have := HBO5.out; simp; omega
              intro v6 w6 ho6 hg6 hb6
              have HOF6 := Lib.hid ho6
              have HON6 : Hid (OwnN w6 B v5 (r ++ [0])) := (HON5.out.alloc _).apart hg6 HAP5.out
              have HB6 : Hid (Below B w w6) := OwnF.below (HOF5.out.alloc _) hg6 (HB5.out.alloc HBO5.out _) (Nat.le_refl _) (by have := HBO5.out; simp; omega)
              have HAP6 : Hid (Apart v5 v6) := HAP5.out.grow2 hb6 (fun g hg => by have := (World.ownsRow.lt HON5.out g hg).2; simp; omega)
              clear ho6 hg6 hb6
              obtain ⟨gv, c5, hv5, hgv, _⟩ := HON6.out.at0 (by simp)
              obtain ⟨gu, c6, hv6, hgu, _⟩ := HOF6.out.at0 (by simp)
              have l5 : (r ++ [0] : List Nat).length = r.length + 1 := by simp
              rw [l5] at hv5
              clear l5
              have l6 : (sl ++ [0] : List Nat).length = r.length + 1 := by rw [List.length_append, HSN.out]; rfl
              rw [l6] at hv6
              clear l6
              subst hv5
              subst hv6
              have HNE : Hid (gv ≠ gu) := fun e => HAP6.out gv rfl (by rw [e]; rfl)
              have HGV := Lib.hid hgv
              have HGU := Lib.hid hgu
              have HSS : Hid (shiftL sl r.length = sl ++ [0]) := by have h1 := shift_start sl; rw [HSN.out] at h1; exact h1
              clear hgv hgu HON5 HOF5 HB5 HBO5 HAP5 HON2 HOF2 HB2 HBO2 CS
              go_wp2
              go_loopw [11] (fun kv wx => ShRel B w r sl r.length gv gu c5 c6 0 kv wx) (fun kv _ => (intOf kv).toNat)
              case atStart => exact ⟨r.length, by omega, Nat.le_refl _, rfl, by rw [shift_start]; exact HON6.out, by rw [HSS.out]; exact HOF6.out, HB6.out⟩
              case round =>
                clear HON6 HOF6 HB6 HSS
                obtain ⟨k, hk1, hk2, rfl, hn3, hf3, hb3⟩ := hrel
                have HLR : Hid (∀ k, (shiftL r k).length = r.length + 1) := fun k => shiftL_len r k
                have HLS : Hid (∀ k, (shiftL sl k).length = r.length + 1) := fun k => by rw [shiftL_len, HSN.out]
                by_cases hmv : 0 < k
                · obtain ⟨j, rfl⟩ : ∃ j, k = j + 1 := ⟨k - 1, by omega⟩
                  obtain ⟨y, hy⟩ : ∃ y, (shiftL r (j + 1)).getD j 0 = y := ⟨_, rfl⟩
                  obtain ⟨x, hx⟩ : ∃ x, (shiftL sl (j + 1)).getD j 0 = x := ⟨_, rfl⟩
                  have e1 := (hn3.out.cellOf j (by rw [HLR.out]; omega)).1
                  obtain ⟨e2, e2f⟩ := hn3.out.cellOf (j + 1) (by rw [HLR.out]; omega)
                  rw [hy] at e1
                  have HON7 : Hid (OwnN (wr.setCell ⟨gv, j + 1, none⟩ (.int .i64 (y : Int))) B (.slice (some ⟨gv, 0, none⟩) (r.length + 1) c5) (shiftL r j)) := by
                    have h1 := hn3.out.put (j + 1) y
                    rw [← hy, shift_set (by omega), hy] at h1; exact h1
                  have HOF7 : Hid (OwnF (wr.setCell ⟨gv, j + 1, none⟩ (.int .i64 (y : Int))) B (.slice (some ⟨gu, 0, none⟩) (r.length + 1) c6) (shiftL sl (j + 1))) :=
                    hf3.out.far _ _ (fun e => HNE.out (by simpa [Value.ownBlock] using e.symm))
                  have f1 := (HOF7.out.cellOf j (by rw [HLS.out]; omega)).1
                  obtain ⟨f2, f2f⟩ := HOF7.out.cellOf (j + 1) (by rw [HLS.out]; omega)
                  rw [hx] at f1
                  have HOF8 : Hid (OwnF ((wr.setCell ⟨gv, j + 1, none⟩ (.int .i64 (y : Int))).setCell ⟨gu, j + 1, none⟩ (.float .f64 x)) B (.slice (some ⟨gu, 0, none⟩) (r.length + 1) c6) (shiftL sl j)) := by
                    have h1 := HOF7.out.put (j + 1) x
                    rw [← hx, shift_set (by rw [HSN.out]; omega), hx] at h1; exact h1
                  have HON8 : Hid (OwnN ((wr.setCell ⟨gv, j + 1, none⟩ (.int .i64 (y : Int))).setCell ⟨gu, j + 1, none⟩ (.float .f64 x)) B (.slice (some ⟨gv, 0, none⟩) (r.length + 1) c5) (shiftL r j)) :=
                    HON7.out.far _ _ (fun e => HNE.out (by simpa [Value.ownBlock] using e))
                  have HB8 : Hid (Below B w ((wr.setCell ⟨gv, j + 1, none⟩ (.int .i64 (y : Int))).setCell ⟨gu, j + 1, none⟩ (.float .f64 x))) :=
                    (hb3.out.setCell (p := ⟨gv, j + 1, none⟩) HGV.out _).setCell (p := ⟨gu, j + 1, none⟩) HGU.out _
                  have hqz : ((j + 1 : Nat) : Int) = (j : Int) + 1 := by omega
                  rw [hqz]
                  clear hqz hy hx hn3 hf3 hb3 HON7 HOF7
                  go_wp2
                  exact ⟨⟨j, by omega, by omega, rfl, HON8, HOF8, HB8⟩, by simp [intOf]⟩
                · obtain rfl : 0 = k := by omega
                  obtain ⟨e2, e2f⟩ := hn3.out.cellOf (0) (by rw [HLR.out]; omega)
                  have HON7 : Hid (OwnN (wr.setCell ⟨gv, 0, none⟩ (.int .i64 (i : Int))) B (.slice (some ⟨gv, 0, none⟩) (r.length + 1) c5) (r.take (0) ++ i :: r.drop (0))) := by
                    have h1 := hn3.out.put (0) i
                    rw [shift_end (by omega)] at h1; exact h1
                  have HOF7 : Hid (OwnF (wr.setCell ⟨gv, 0, none⟩ (.int .i64 (i : Int))) B (.slice (some ⟨gu, 0, none⟩) (r.length + 1) c6) (shiftL sl (0))) :=
                    hf3.out.far _ _ (fun e => HNE.out (by simpa [Value.ownBlock] using e.symm))
                  obtain ⟨f2, f2f⟩ := HOF7.out.cellOf (0) (by rw [HLS.out]; omega)
                  have HOF8 : Hid (OwnF ((wr.setCell ⟨gv, 0, none⟩ (.int .i64 (i : Int))).setCell ⟨gu, 0, none⟩ (.float .f64 X)) B (.slice (some ⟨gu, 0, none⟩) (r.length + 1) c6) ((r.take (0) ++ i :: r.drop (0)).map (scS l now))) := by
                    have h1 := HOF7.out.put (0) X
                    rw [shift_end (by rw [HSN.out]; omega)] at h1
                    rw [map_ins, E1.out, ← HSL.out]; exact h1
                  have HON8 : Hid (OwnN ((wr.setCell ⟨gv, 0, none⟩ (.int .i64 (i : Int))).setCell ⟨gu, 0, none⟩ (.float .f64 X)) B (.slice (some ⟨gv, 0, none⟩) (r.length + 1) c5) (r.take (0) ++ i :: r.drop (0))) :=
                    HON7.out.far _ _ (fun e => HNE.out (by simpa [Value.ownBlock] using e))
                  have HB8 : Hid (Below B w ((wr.setCell ⟨gv, 0, none⟩ (.int .i64 (i : Int))).setCell ⟨gu, 0, none⟩ (.float .f64 X))) :=
                    (hb3.out.setCell (p := ⟨gv, 0, none⟩) HGV.out _).setCell (p := ⟨gu, 0, none⟩) HGU.out _
                  clear hn3 hf3 hb3 HON7 HOF7
                  go_wp2
                  exact ⟨⟨i + 1, _, _, _, rfl, rfl, by omega, by go_num, HINS, HON8, HOF8, HAP6, HB8⟩, by simp [intOf]; omega⟩
            · obtain ⟨g, c, hgu, hg1, hg2⟩ := HOF2.out.at0 (by rw [HSN.out]; omega)
              simp only [Value.slice.injEq] at hgu
              obtain ⟨rfl, hx9, rfl⟩ := hgu
              clear hx9
              have hcs := (HOF2.out.cellOf s (by rw [HSN.out]; omega)).1
              have HP := Lib.hid hp
              have hqz : ((s + 1 : Nat) : Int) = (s : Int) + 1 := by omega
              rw [hqz]
              clear hqz hp
              generalize sl.getD s 0 = x0 at *
              rcases hp2 with rfl | rfl
              all_goals
                go_wp2_with (first
                                  | (go_at_call 54; refine (rcompare_any _ _ _).mono ?_; rintro e w' ⟨rfl, rfl⟩; rw [HP.out])
                                  | (at_builtin; go_must (refine wpList_oneN rfl _ _ rfl B (.slice av r.length cv) r rfl w2 0 3 rfl (HON2.out.alloc _) rfl ?_ ?_ ?_)))
                · omega
                · have := HBO2.out; simp; omega
                intro v5 w5 ho5 hg5 hb5
                have HON5 := Lib.hid ho5
                have HOF5 : Hid (OwnF w5 B (.slice (some ⟨g, 0, none⟩) r.length cu) sl) := (HOF2.out.alloc _).apart hg5 hap.out
                have HB5 : Hid (Below B w w5) := OwnN.below (HON2.out.alloc _) hg5 (HB2.out.alloc HBO2.out _) (Nat.le_refl _) (by have := HBO2.out; simp; omega)
                have HBO5 : Hid (B ≤ w5.heap.size) := Nat.le_trans hB0.out HB5.out.size
                have HAP5 : Hid (Apart v5 (.slice (some ⟨g, 0, none⟩) r.length cu)) := hap.out.grow1 hb5 (fun g hg => by have := (World.ownsRow.lt HOF2.out g hg).2; simp; omega)
                clear ho5 hg5 hb5
                go_wp2_with (at_builtin; go_must (refine wpList_oneF rfl _ _ rfl B (.slice (some ⟨g, 0, none⟩) r.length cu) sl rfl w5 0 49 rfl (HOF5.out.alloc _) rfl ?_ ?_ ?_))
                · rw [HSN.out]; omega
                · have := HBO5.out; simp; omega
                intro v6 w6 ho6 hg6 hb6
                have HOF6 := Lib.hid ho6
                have HON6 : Hid (OwnN w6 B v5 (r ++ [0])) := (HON5.out.alloc _).apart hg6 HAP5.out
                have HB6 : Hid (Below B w w6) := OwnF.below (HOF5.out.alloc _) hg6 (HB5.out.alloc HBO5.out _) (Nat.le_refl _) (by have := HBO5.out; simp; omega)
                have HAP6 : Hid (Apart v5 v6) := HAP5.out.grow2 hb6 (fun g hg => by have := (World.ownsRow.lt HON5.out g hg).2; simp; omega)
                clear ho6 hg6 hb6
                obtain ⟨gv, c5, hv5, hgv, _⟩ := HON6.out.at0 (by simp)
                obtain ⟨gu, c6, hv6, hgu, _⟩ := HOF6.out.at0 (by simp)
                have l5 : (r ++ [0] : List Nat).length = r.length + 1 := by simp
                rw [l5] at hv5
                clear l5
                have l6 : (sl ++ [0] : List Nat).length = r.length + 1 := by rw [List.length_append, HSN.out]; rfl
                rw [l6] at hv6
                clear l6
                subst hv5
                subst hv6
                have HNE : Hid (gv ≠ gu) := fun e => HAP6.out gv rfl (by rw [e]; rfl)
                have HGV := Lib.hid hgv
                have HGU := Lib.hid hgu
                have HSS : Hid (shiftL sl r.length = sl ++ [0]) := by have h1 := shift_start sl; rw [HSN.out] at h1; exact h1
                clear hgv hgu HON5 HOF5 HB5 HBO5 HAP5 HON2 HOF2 HB2 HBO2 CS
                go_wp2
                go_loopw [11] (fun kv wx => ShRel B w r sl r.length gv gu c5 c6 (s + 1) kv wx) (fun kv _ => (intOf kv).toNat)
                case atStart => exact ⟨r.length, by omega, Nat.le_refl _, rfl, by rw [shift_start]; exact HON6.out, by rw [HSS.out]; exact HOF6.out, HB6.out⟩
                case round =>
                  clear HON6 HOF6 HB6 HSS
                  obtain ⟨k, hk1, hk2, rfl, hn3, hf3, hb3⟩ := hrel
                  have HLR : Hid (∀ k, (shiftL r k).length = r.length + 1) := fun k => shiftL_len r k
                  have HLS : Hid (∀ k, (shiftL sl k).length = r.length + 1) := fun k => by rw [shiftL_len, HSN.out]
                  by_cases hmv : (s + 1) < k
                  · obtain ⟨j, rfl⟩ : ∃ j, k = j + 1 := ⟨k - 1, by omega⟩
                    obtain ⟨y, hy⟩ : ∃ y, (shiftL r (j + 1)).getD j 0 = y := ⟨_, rfl⟩
                    obtain ⟨x, hx⟩ : ∃ x, (shiftL sl (j + 1)).getD j 0 = x := ⟨_, rfl⟩
                    have e1 := (hn3.out.cellOf j (by rw [HLR.out]; omega)).1
                    obtain ⟨e2, e2f⟩ := hn3.out.cellOf (j + 1) (by rw [HLR.out]; omega)
                    rw [hy] at e1
                    have HON7 : Hid (OwnN (wr.setCell ⟨gv, j + 1, none⟩ (.int .i64 (y : Int))) B (.slice (some ⟨gv, 0, none⟩) (r.length + 1) c5) (shiftL r j)) := by
                      have h1 := hn3.out.put (j + 1) y
                      rw [← hy, shift_set (by omega), hy] at h1; exact h1
                    have HOF7 : Hid (OwnF (wr.setCell ⟨gv, j + 1, none⟩ (.int .i64 (y : Int))) B (.slice (some ⟨gu, 0, none⟩) (r.length + 1) c6) (shiftL sl (j + 1))) :=
                      hf3.out.far _ _ (fun e => HNE.out (by simpa [Value.ownBlock] using e.symm))
                    have f1 := (HOF7.out.cellOf j (by rw [HLS.out]; omega)).1
                    obtain ⟨f2, f2f⟩ := HOF7.out.cellOf (j + 1) (by rw [HLS.out]; omega)
                    rw [hx] at f1
                    have HOF8 : Hid (OwnF ((wr.setCell ⟨gv, j + 1, none⟩ (.int .i64 (y : Int))).setCell ⟨gu, j + 1, none⟩ (.float .f64 x)) B (.slice (some ⟨gu, 0, none⟩) (r.length + 1) c6) (shiftL sl j)) := by
                      have h1 := HOF7.out.put (j + 1) x
                      rw [← hx, shift_set (by rw [HSN.out]; omega), hx] at h1; exact h1
                    have HON8 : Hid (OwnN ((wr.setCell ⟨gv, j + 1, none⟩ (.int .i64 (y : Int))).setCell ⟨gu, j + 1, none⟩ (.float .f64 x)) B (.slice (some ⟨gv, 0, none⟩) (r.length + 1) c5) (shiftL r j)) :=
                      HON7.out.far _ _ (fun e => HNE.out (by simpa [Value.ownBlock] using e))
                    have HB8 : Hid (Below B w ((wr.setCell ⟨gv, j + 1, none⟩ (.int .i64 (y : Int))).setCell ⟨gu, j + 1, none⟩ (.float .f64 x))) :=
                      (hb3.out.setCell (p := ⟨gv, j + 1, none⟩) HGV.out _).setCell (p := ⟨gu, j + 1, none⟩) HGU.out _
                    have hqz : ((j + 1 : Nat) : Int) = (j : Int) + 1 := by omega
                    rw [hqz]
                    clear hqz hy hx hn3 hf3 hb3 HON7 HOF7
                    go_wp2
                    exact ⟨⟨j, by omega, by omega, rfl, HON8, HOF8, HB8⟩, by simp [intOf]⟩
                  · obtain rfl : (s + 1) = k := by omega
                    obtain ⟨e2, e2f⟩ := hn3.out.cellOf ((s + 1)) (by rw [HLR.out]; omega)
                    have HON7 : Hid (OwnN (wr.setCell ⟨gv, (s + 1), none⟩ (.int .i64 (i : Int))) B (.slice (some ⟨gv, 0, none⟩) (r.length + 1) c5) (r.take ((s + 1)) ++ i :: r.drop ((s + 1)))) := by
                      have h1 := hn3.out.put ((s + 1)) i
                      rw [shift_end (by omega)] at h1; exact h1
                    have HOF7 : Hid (OwnF (wr.setCell ⟨gv, (s + 1), none⟩ (.int .i64 (i : Int))) B (.slice (some ⟨gu, 0, none⟩) (r.length + 1) c6) (shiftL sl ((s + 1)))) :=
                      hf3.out.far _ _ (fun e => HNE.out (by simpa [Value.ownBlock] using e.symm))
                    obtain ⟨f2, f2f⟩ := HOF7.out.cellOf ((s + 1)) (by rw [HLS.out]; omega)
                    have HOF8 : Hid (OwnF ((wr.setCell ⟨gv, (s + 1), none⟩ (.int .i64 (i : Int))).setCell ⟨gu, (s + 1), none⟩ (.float .f64 X)) B (.slice (some ⟨gu, 0, none⟩) (r.length + 1) c6) ((r.take ((s + 1)) ++ i :: r.drop ((s + 1))).map (scS l now))) := by
                      have h1 := HOF7.out.put ((s + 1)) X
                      rw [shift_end (by rw [HSN.out]; omega)] at h1
                      rw [map_ins, E1.out, ← HSL.out]; exact h1
                    have HON8 : Hid (OwnN ((wr.setCell ⟨gv, (s + 1), none⟩ (.int .i64 (i : Int))).setCell ⟨gu, (s + 1), none⟩ (.float .f64 X)) B (.slice (some ⟨gv, 0, none⟩) (r.length + 1) c5) (r.take ((s + 1)) ++ i :: r.drop ((s + 1)))) :=
                      HON7.out.far _ _ (fun e => HNE.out (by simpa [Value.ownBlock] using e))
                    have HB8 : Hid (Below B w ((wr.setCell ⟨gv, (s + 1), none⟩ (.int .i64 (i : Int))).setCell ⟨gu, (s + 1), none⟩ (.float .f64 X))) :=
                      (hb3.out.setCell (p := ⟨gv, (s + 1), none⟩) HGV.out _).setCell (p := ⟨gu, (s + 1), none⟩) HGU.out _
                    have hqz : ((s + 1 : Nat) : Int) = (s : Int) + 1 := by omega
                    rw [hqz]
                    clear hqz
                    clear hn3 hf3 hb3 HON7 HOF7
                    go_wp2
                    exact ⟨⟨i + 1, _, _, _, rfl, rfl, by omega, by go_num, HINS, HON8, HOF8, HAP6, HB8⟩, by simp [intOf]; omega⟩
    · have hil : i = l.length := by omega
      subst hil
      go_wp2
      go_ret
      exact ⟨v, r, rfl, hR.out, hon.out, hbl.out⟩
end Go.Proofs.Ytkpnjehgbehhcaa
