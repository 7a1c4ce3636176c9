/- The walk of the program's Rank. -/
import Derived.Test.YtkpnjehgbehhcaaZns
import Derived.Deep.AppendLies
import Derived.WalkMore
import Derived.Deep.LoopGhost
namespace Go.Proofs.Ytkpnjehgbehhcaa
open Go.RowKit Fl

theorem sz_setCell (w : World) (p : Addr) (v : Value) : (w.setCell p v).heap.size = w.heap.size := by simp
theorem sl_oneN (w : World) (s : Nat) (hs : w.heap.size = s) (k : Nat) (t : TypeId) : Sl encN (w.alloc (.cells #[.int .i64 (k : Int)] t)) (.slice (some ⟨s, 0, none⟩) 1 1) [k] := by
  subst hs; exact Sl.one encN w k t
theorem fins_of {m : Nat} : ∀ (r : List Nat), (∀ x ∈ r, x < m + 1) → ∃ cs : List (Fin (m + 1)), cs.map (·.val) = r
  | [], _ => ⟨[], rfl⟩
  | x :: r, h => by
    obtain ⟨cs, hc⟩ := fins_of r (fun y hy => h y (by simp [hy]))
    exact ⟨⟨x, h x (by simp)⟩ :: cs, by simp [hc]⟩

set_option maxHeartbeats 3200000 in
set_option maxRecDepth 8000 in
theorem rank_some (a : Option Addr) (m cap : Nat) (l : List Zn) (now : Int) (hlm : l.length = m + 1) (hm : m < 1000000) (w : World) (h : SlZ w (.slice a (m + 1) cap) l) :
    Calls Try.prog 49 #[.slice a (m + 1) cap, .int .i64 now] w fun e w' => ∃ v' r, e = .returned v' ∧ IsRank (scS l now) (okB l now) (m + 1) r ∧ OwnN w' w.heap.size v' r ∧ Below w.heap.size w w' := by
  generalize hB : w.heap.size = B
  have hB0 : Hid (B ≤ w.heap.size) := Nat.le_of_eq hB.symm
  have HB := Lib.hid hB
  have HZ : Hid (∀ k, k < m + 1 → ∃ b o, a = some ⟨b, o, none⟩ ∧ ∀ w', Hid (Below B w w') → w'.cell? ⟨b, o + k * 3, none⟩ = some (.int .i64 (l.getD k (0, 0, 0)).1) ∧
      w'.cell? ⟨b, o + k * 3 + 1, none⟩ = some (.int .i64 (l.getD k (0, 0, 0)).2.1) ∧ w'.cell? ⟨b, o + k * 3 + 2, none⟩ = some (.int .i64 (l.getD k (0, 0, 0)).2.2)) := fun k hk => by
    obtain ⟨_, _, hv, _, _, _, hc⟩ := h
    simp only [Value.slice.injEq] at hv
    obtain ⟨rfl, _, rfl⟩ := hv
    obtain ⟨b, o, rfl, hlt, c0, c1, c2⟩ := hc k (by omega)
    refine ⟨b, o, rfl, fun w' hb => ⟨?_, ?_, ?_⟩⟩
    · rw [hb.out.cell (p := ⟨b, o + k * 3, none⟩) (by rw [← hB]; exact hlt)]; exact c0
    · rw [hb.out.cell (p := ⟨b, o + k * 3 + 1, none⟩) (by rw [← hB]; exact hlt)]; exact c1
    · rw [hb.out.cell (p := ⟨b, o + k * 3 + 2, none⟩) (by rw [← hB]; exact hlt)]; exact c2
  clear h hB
  have HLM := Lib.hid hlm
  clear hlm
  go_enter Try.func49, Try.ntmps49
  go_wp2
  go_step3
  go_wp2_with (refine wpList_mkF (w := w) rfl _ _ rfl B (m + 1) rfl rfl (by omega) hB0.out ?_; intro w1 ho1 hg1; have hb1 : Hid (Below B w w1) := (Below.refl _ _).grown hg1 hB0.out (fun k h => by cases h); have HO1 := Lib.hid ho1; clear ho1 hg1)
  go_step3
  go_wp2
  have hbox : (w1.alloc (.cells #[.slice (some ⟨w.heap.size, 0, none⟩) (m + 1) (m + 1)] 110)).cell? ⟨w1.heap.size, 0, none⟩ = some (.slice (some ⟨w.heap.size, 0, none⟩) (m + 1) (m + 1)) := World.cell?_alloc_at _ _ _ 0 rfl
  have ho2 := HO1.out.alloc (.cells #[.slice (some ⟨w.heap.size, 0, none⟩) (m + 1) (m + 1)] 110)
  have hb2 := hb1.out.alloc (Nat.le_trans hB0.out hb1.out.size) (.cells #[.slice (some ⟨w.heap.size, 0, none⟩) (m + 1) (m + 1)] 110)
  have hgx : Hid (w.heap.size < w1.heap.size) := (OwnF.blkOf HO1.out).2
  have hsz : (w1.alloc (.cells #[.slice (some ⟨w.heap.size, 0, none⟩) (m + 1) (m + 1)] 110)).heap.size = w1.heap.size + 1 := by simp
  generalize w1.alloc (.cells #[.slice (some ⟨w.heap.size, 0, none⟩) (m + 1) (m + 1)] 110) = W1 at *
  generalize w.heap.size = gs at *
  generalize w1.heap.size = Bx at *
  have HBOX := Lib.hid hbox
  have HO2 := Lib.hid ho2
  have HB2 := Lib.hid hb2
  have HSZ := Lib.hid hsz
  clear hbox ho2 hb2 hsz HO1 hb1
  have HGB : Hid (B ≤ gs ∧ gs ≤ Bx) := ⟨hB0.out, Nat.le_of_lt hgx.out⟩
  have HBX : Hid (B ≤ Bx + 1) := Nat.le_trans HGB.out.1 (Nat.le_trans HGB.out.2 (Nat.le_succ _))
  go_loopw [4, 15] (fun vv iv wr => ∃ (k : Nat) (v : Value), v = vv ∧ k ≤ m + 1 ∧ iv = .int .i64 k ∧ Hid (OwnN wr (Bx + 1) v ((List.range k).filter (okB l now))) ∧ Hid (OwnF wr B (.slice (some ⟨gs, 0, none⟩) (m + 1) (m + 1)) (rowS (scS l now) k (m + 1))) ∧
    Hid (wr.cell? ⟨Bx, 0, none⟩ = some (.slice (some ⟨gs, 0, none⟩) (m + 1) (m + 1))) ∧ Hid (Bx + 1 ≤ wr.heap.size) ∧ Hid (Below B w wr)) (fun _ iv _ => m + 1 - (intOf iv).toNat)
  case atStart => exact ⟨0, _, rfl, by omega, rfl, OwnN.nil _ _, by show OwnF _ _ _ _; rw [rowS_zero]; exact HO2.out, HBOX, Nat.le_of_eq HSZ.out.symm, HB2⟩
  case round =>
    obtain ⟨k, v, rfl, hk, rfl, hon, hof, hbx, hs, hbl⟩ := hrel
    by_cases hlt : k < m + 1
    · obtain ⟨b, o, rfl, hc⟩ := HZ.out k hlt
      obtain ⟨hc0, hc1, hc2⟩ := hc wr hbl
      have HOK : Hid (okB l now k = okZ now (l.getD k (0, 0, 0))) := rfl
      have HSC : Hid (scS l now k = if okB l now k then scoreV (l.getD k (0, 0, 0)).1 (l.getD k (0, 0, 0)).2.1 (l.getD k (0, 0, 0)).2.2 now else 0) := rfl
      have CS := Lib.hid (fun w' => score_any (l.getD k (0, 0, 0)).1 (l.getD k (0, 0, 0)).2.1 (l.getD k (0, 0, 0)).2.2 now w')
      clear hc HZ
      unfold okZ at HOK
      generalize (l.getD k (0, 0, 0)).1 = z0 at *
      generalize (l.getD k (0, 0, 0)).2.1 = z1 at *
      generalize (l.getD k (0, 0, 0)).2.2 = z2 at *
      generalize scoreE z0 z1 z2 now = E at *
      generalize scoreV z0 z1 z2 now = X at *
      have HFS := Lib.hid (range_filter_succ (okB l now) k)
      have HBC : Hid (Bx < wr.heap.size) := hs.out
      by_cases hbad : (E != 0) = true ∨ ((E != 0) = false ∧ isNaN X = true) ∨ ((E != 0) = false ∧ isNaN X = false ∧ feq X 0 = true)
      · have hno : okB l now k = false := by
          rw [HOK.out]
          rcases hbad with h | ⟨h, h2⟩ | ⟨h, h2, h3⟩
          · have : (E == 0) = false := by simpa using h
            rw [this]; rfl
          · rw [h2]; simp
          · rw [h3]; simp
        have e1 : scS l now k = 0 := by rw [HSC.out, hno]; rfl
        have e2 : (List.range (k + 1)).filter (okB l now) = (List.range k).filter (okB l now) := by rw [HFS.out, hno]; simp
        have HON : Hid (OwnN wr (Bx + 1) v ((List.range (k + 1)).filter (okB l now))) := by rw [e2]; exact hon.out
        have HOF : Hid (OwnF wr B (.slice (some ⟨gs, 0, none⟩) (m + 1) (m + 1)) (rowS (scS l now) (k + 1) (m + 1))) := by rw [← rowS_skip _ e1]; exact hof.out
        clear hno e1 e2 HOK HSC HFS hon hof
        rcases hbad with h | ⟨h, h2⟩ | ⟨h, h2, h3⟩
        all_goals
          go_wp2_with (go_at_call 57; refine (CS.out _).mono ?_; rintro e w2 ⟨rfl, hb2⟩)
          have HW : Below wr.heap.size wr w2 := ((Below.refl _ _).alloc (Nat.le_refl _) _).trans (hb2.mono (by simp))
          exact ⟨⟨k + 1, v, rfl, by omega, by go_num, HON.out.later HW, HOF.out.later HW, by show World.cell? _ _ = _; rw [HW.cell (p := ⟨Bx, 0, none⟩) HBC.out]; exact hbx.out, Nat.le_trans hs.out HW.size, hbl.out.trans (HW.mono (Nat.le_trans HBX.out hs.out))⟩, by simp [intOf]; omega⟩
      · have hE : (E != 0) = false := by cases h : (E != 0) with | false => rfl | true => exact absurd (.inl h) hbad
        have hN : isNaN X = false := by cases h : isNaN X with | false => rfl | true => exact absurd (.inr (.inl ⟨hE, h⟩)) hbad
        have hF : feq X 0 = false := by cases h : feq X 0 with | false => rfl | true => exact absurd (.inr (.inr ⟨hE, hN, h⟩)) hbad
        clear hbad
        have hyes : okB l now k = true := by
          rw [HOK.out, hN, hF]
          have : (E == 0) = true := by simpa using hE
          rw [this]; rfl
        have e1 : scS l now k = X := by rw [HSC.out, hyes]; rfl
        have e2 : (List.range (k + 1)).filter (okB l now) = (List.range k).filter (okB l now) ++ [k] := by rw [HFS.out, hyes]; rfl
        have E1 := Lib.hid e1
        have E2 := Lib.hid e2
        have E3 := Lib.hid (filter_len (okB l now) k)
        clear hyes e1 e2 HOK HSC HFS
        have HGN : Hid (gs ≠ Bx ∧ gs < wr.heap.size) := ⟨by have := hgx.out; omega, by have := HGB.out.2; have := HBC.out; omega⟩
        have iK : (k : Int) < (m : Int) + 1 := by omega
        go_wp2_with (first
          | (go_at_call 57; refine (CS.out _).mono ?_; rintro e w2 ⟨rfl, hb2⟩
             have HW : Hid (Below wr.heap.size wr w2) := ((Below.refl _ _).alloc (Nat.le_refl _) _).trans (hb2.mono (by simp))
             clear hb2
             have hbx2 : w2.cell? ⟨Bx, 0, none⟩ = some (.slice (some ⟨gs, 0, none⟩) (m + 1) (m + 1)) := by rw [HW.out.cell (p := ⟨Bx, 0, none⟩) HBC.out]; exact hbx.out
             have HON2 : Hid (OwnN w2 (Bx + 1) v ((List.range k).filter (okB l now))) := hon.out.later HW.out
             have HOF2 : Hid (OwnF w2 B (.slice (some ⟨gs, 0, none⟩) (m + 1) (m + 1)) (rowS (scS l now) k (m + 1))) := hof.out.later HW.out
             obtain ⟨hgc, hgf⟩ := HOF2.out.cellOf k (by rw [rowS_len]; exact hlt)
             have HB2 : Hid (Below B w w2) := hbl.out.trans (HW.out.mono (Nat.le_trans HBX.out hs.out))
             have HS2 : Hid (Bx + 1 ≤ w2.heap.size) := Nat.le_trans hs.out HW.out.size
             have HON3 : Hid (OwnN (w2.setCell ⟨gs, k, none⟩ (.float .f64 X)) (Bx + 1) v ((List.range k).filter (okB l now))) := HON2.out.other _ _ (by have := HGB.out.2; show gs < Bx + 1; omega)
             have HOF3 : Hid (OwnF (w2.setCell ⟨gs, k, none⟩ (.float .f64 X)) B (.slice (some ⟨gs, 0, none⟩) (m + 1) (m + 1)) (rowS (scS l now) (k + 1) (m + 1))) := by
               have h1 := HOF2.out.put k X
               rw [← E1.out, rowS_set _ hlt, E1.out] at h1
               exact h1
             have HBX3 : Hid ((w2.setCell ⟨gs, k, none⟩ (.float .f64 X)).cell? ⟨Bx, 0, none⟩ = some (.slice (some ⟨gs, 0, none⟩) (m + 1) (m + 1))) := by
               show World.cell? _ _ = _
               rw [World.cell?_setCell_far _ _ _ _ (by exact HGN.out.1)]; exact hbx2
             have HB3 : Hid (Below B w (w2.setCell ⟨gs, k, none⟩ (.float .f64 X))) := HB2.out.setCell (p := ⟨gs, k, none⟩) HGB.out.1 _
             have HS3 : Hid (Bx + 1 ≤ (w2.setCell ⟨gs, k, none⟩ (.float .f64 X)).heap.size) := by show _ ≤ _; simpa using HS2.out)
          | (at_builtin; go_must (refine wpList_appN rfl _ _ rfl (Bx + 1) v _ rfl (HON3.out.alloc _) _ [k] rfl (sl_oneN _ _ (sz_setCell _ _ _) k _) ?c1 ?c2 ?c3)))
        case c1 => have := E3.out; simp; omega
        case c2 => have := HS3.out; simp at this ⊢; omega
        intro v4 w4 ho4 hg4
        have hne : ∀ x, x ≤ Bx → some x ≠ v.ownBlock := fun x hx e => by
          have := (World.ownsRow.lt HON3.out x e.symm).1
          omega
        have hszA : Bx + 1 ≤ ((w2.setCell ⟨gs, k, none⟩ (.float .f64 X)).alloc (.cells #[encN k] 3)).heap.size := by have := HS3.out; simp at this ⊢; omega
        have HON4 : Hid (OwnN w4 (Bx + 1) v4 ((List.range (k + 1)).filter (okB l now))) := by rw [E2.out]; exact ho4
        have HOF4 : Hid (OwnF w4 B (.slice (some ⟨gs, 0, none⟩) (m + 1) (m + 1)) (rowS (scS l now) (k + 1) (m + 1))) :=
          World.ownsRow.kept (HOF3.out.alloc _) hg4 (.inr (by show some gs ≠ _; exact hne gs HGB.out.2))
        have HBX4 : Hid (w4.cell? ⟨Bx, 0, none⟩ = some (.slice (some ⟨gs, 0, none⟩) (m + 1) (m + 1))) := by
          show World.cell? _ _ = _
          rw [hg4.cell_far ⟨Bx, 0, none⟩ (Nat.lt_of_lt_of_le (Nat.lt_succ_self _) hszA) (hne Bx (Nat.le_refl _)), ((Below.refl _ _).alloc (Nat.le_refl _) _).cell (p := ⟨Bx, 0, none⟩) (Nat.lt_of_lt_of_le (Nat.lt_succ_self _) HS3.out)]
          exact HBX3.out
        have HB4 : Hid (Below B w w4) := OwnN.below (HON3.out.alloc _) hg4 (HB3.out.alloc (Nat.le_trans HBX.out HS3.out) _) HBX.out hszA
        have HS4 : Hid (Bx + 1 ≤ w4.heap.size) := Nat.le_trans hszA hg4.size
        clear ho4 hg4 hne hszA
        go_wp2
        exact ⟨⟨k + 1, v4, rfl, by omega, by go_num, HON4, HOF4, HBX4, HS4, HB4⟩, by simp [intOf]; omega⟩
    · have hke : k = m + 1 := by omega
      subst hke
      obtain ⟨cs, hcs⟩ : ∃ cs : List (Fin (m + 1)), cs.map (·.val) = (List.range (m + 1)).filter (okB l now) := fins_of _ (fun x hx => by
        have := (List.mem_filter.1 hx).1
        simpa using this)
      have hcl : cs.length ≤ m + 1 := by
        have h1 := congrArg List.length hcs
        rw [List.length_map] at h1
        rw [h1]; exact filter_len _ _
      have hR : Hid (IsRank (scS l now) (okB l now) (m + 1) ((sortK m (scS l now) cs).map (·.val))) := sortK_rank hcs
      have hon' := hon.out
      rw [← hcs] at hon'
      have HS := Lib.hid (sortRank_own (Bx + 1) v m (scS l now) cs (by omega) Bx gs wr hon' B w hbl.out HBX.out (by omega) (by have := HGB.out.2; omega) hs.out hbx.out (fun i hi => by
        have h1 := (OwnF.cellOf hof.out i (by rw [rowS_len]; exact hi)).1
        rw [rowS_all _ hi] at h1
        exact h1))
      clear hon hof hon' hcs hcl
      have hbx' := hbx.out
      go_wp2_with (go_at_call 58; refine (HS.out).mono ?_; rintro e w2 ⟨rfl, ho2, hb2⟩; have HO2' := Lib.hid ho2; have HB2' := Lib.hid hb2; clear ho2 hb2)
      try rw [Exit.noGoto_ret]
      go_ret
      exact ⟨v, _, rfl, hR.out, HO2'.out.base_le HBX.out, HB2'.out⟩
end Go.Proofs.Ytkpnjehgbehhcaa
