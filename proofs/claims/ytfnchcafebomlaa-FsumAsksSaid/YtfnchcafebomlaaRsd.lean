/- The walks of the reference's Dot and Spread. -/
import Derived.Test.YtfnchcafebomlaaRsum
import Derived.Test.YtfnchcafebomlaaSe
namespace Go.Proofs.Ytfnchcafebomlaa
open Go.RowKit Fl

set_option maxHeartbeats 400000 in
theorem rdot_odd (a1 a2 : Option Addr) (n m c1 c2 : Nat) (h : n ≠ m) (w : World) :
    Calls Try.prog 23 #[.slice a1 n c1, .slice a2 m c2] w fun e w' => e = .returned (.tuple #[.float .f64 0, .int .i64 1]) ∧ w = w' := by
  have h' : ((n : Int) != (m : Int)) = true := by simp; omega
  go_enter Try.func23, Try.ntmps23
  go_wp2
  go_ret2
  exact ⟨rfl, rfl⟩

set_option maxHeartbeats 1600000 in
theorem rdot_even (a1 a2 : Option Addr) (c1 c2 : Nat) (l r : List Nat) (hlr : l.length = r.length) (hl : l.length * 8 ≤ 140737488351232) (w : World)
    (hA : Hid (l = [] ∨ ∃ b o, a1 = some ⟨b, o, none⟩ ∧ b < w.heap.size ∧ ∀ i (h : i < l.length), w.cell? ⟨b, o + i, none⟩ = some (encF l[i])))
    (hB' : Hid (r = [] ∨ ∃ b o, a2 = some ⟨b, o, none⟩ ∧ b < w.heap.size ∧ ∀ i (h : i < r.length), w.cell? ⟨b, o + i, none⟩ = some (encF r[i]))) :
    Calls Try.prog 23 #[.slice a1 l.length c1, .slice a2 r.length c2] w fun e w' => e = .returned (.tuple #[.float .f64 (sumF (prods l r)), .int .i64 0]) ∧ Below w.heap.size w w' := by
  generalize hB : w.heap.size = B
  have HB := Lib.hid hB
  have HPL := Lib.hid (prods_len hlr)
  clear hB
  obtain ⟨n, hn⟩ : ∃ n, r.length = n := ⟨_, rfl⟩
  have hne : ((l.length : Int) != (n : Int)) = false := by simp; omega
  have HR := Lib.hid hn
  have HLR := Lib.hid hlr
  rw [hn]
  clear hn hlr
  go_enter Try.func23, Try.ntmps23
  go_wp2
  go_loopw [6, 7] (fun v i wr => ∃ (k : Nat) (ys : List Nat) (v' : Value), v' = v ∧ k ≤ l.length ∧ i = .int .i64 k ∧ Hid (OwnF wr B v' ys) ∧ Hid (ys.map canon = (prods l r).take k ∧ ∀ y ∈ ys, y < 2^64) ∧ Hid (Below B w wr)) (fun _ i _ => l.length - (intOf i).toNat)
  case atStart => exact ⟨0, [], _, rfl, Nat.zero_le _, rfl, OwnF.nil _ _, ⟨by simp, by simp⟩, Below.refl _ _⟩
  case round =>
    obtain ⟨k, ys, v', rfl, hk, rfl, hown, hW, hbl⟩ := hrel
    have hB1 := Lib.hid (show B ≤ wr.heap.size from by rw [← HB.out]; exact hbl.out.size)
    have HYL : Hid (ys.length = k) := by show _ = _; exact take_len_map hW.out.1 (by rw [HPL.out]; exact hk)
    by_cases hlt : k < l.length
    · have hlr : k < r.length := by rw [← HLR.out]; exact hlt
      have hln : k < n := by rw [← HR.out]; exact hlr
      have hcell : ∃ b o, a1 = some ⟨b, o, none⟩ ∧ wr.cell? ⟨b, o + k, none⟩ = some (.float .f64 l[k]) := by
        obtain h0 | ⟨b, o, rfl, hb, hc⟩ := hA.out
        · exfalso; rw [h0] at hlt; simp at hlt
        · exact ⟨b, o, rfl, by rw [hbl.out.cell (p := ⟨b, o + k, none⟩) (by rw [← HB.out]; exact hb)]; exact hc k hlt⟩
      have hcell2 : ∃ b o, a2 = some ⟨b, o, none⟩ ∧ wr.cell? ⟨b, o + k, none⟩ = some (.float .f64 r[k]) := by
        obtain h0 | ⟨b, o, rfl, hb, hc⟩ := hB'.out
        · exfalso; rw [h0] at hlr; simp at hlr
        · exact ⟨b, o, rfl, by rw [hbl.out.cell (p := ⟨b, o + k, none⟩) (by rw [← HB.out]; exact hb)]; exact hc k hlr⟩
      obtain ⟨b, o, rfl, hc1⟩ := hcell
      obtain ⟨b2, o2, rfl, hc2⟩ := hcell2
      obtain ⟨Z, N, hrun, hZ⟩ := float_runs .mul (.inr (.inr (.inl rfl))) 25 l[k] r[k]
      have HZ : Hid (∀ w, canon (Z w) = fmul l[k] r[k] ∧ Z w < 2^64) := hZ
      clear hZ
      have HN : Hid (∀ w', (ys ++ [Z w']).map canon = (prods l r).take (k + 1) ∧ ∀ y ∈ ys ++ [Z w'], y < 2^64) := fun w' =>
        ⟨prods_succ hlt hlr hW.out.1 (HZ.out w').1, lt_snoc hW.out.2 (HZ.out w').2⟩
      clear hA hB'
      go_wp2_with fail
      go_region_law (
        (refine step_appF rfl (.tmp 19) (.tmp 29) rfl B v' ys (by simp [Act.eval]) (by first | exact ((hown.out.drewN _).alloc _)) _ _ (by simp [Act.eval]) (Sl.one encF _ _ _) (by rw [HYL.out]; simp; omega) (by simp; have := hB1.out; omega) ?_
         intro v1 w1 ho1 hg1
         have hb' : Hid (Below B w w1) := OwnF.below ((hown.out.drewN _).alloc _) hg1 ((below_drewN hbl.out _).alloc hB1.out _) (Nat.le_refl _) (by simp; have := hB1.out; omega)
         have HO1 := Lib.hid ho1
         clear ho1 hg1))
      all_goals
        go_wp2
        exact ⟨⟨k + 1, _, _, rfl, by omega, by go_num, HO1, HN.out _, hb'⟩, by simp [intOf]; omega⟩
    · have hkl : k = l.length := by omega
      have HS : Hid (sumF ys = sumF (prods l r)) := sumF_congr _ _ (by rw [hW.out.1, prods_canon, List.take_of_length_le (by rw [HPL.out]; omega)])
      have HS1 := Lib.hid (rsum_any v' ys hW.out.2 wr (hown.out.sl (by rw [HYL.out]; omega)))
      rw [HS.out] at HS1
      clear HS hW hA hB'
      go_wp2_with (go_at_call 24; refine (HS1.out).mono ?_; rintro e w' ⟨rfl, n3, rfl⟩)
      go_ret2
      exact ⟨rfl, below_drewN hbl.out _⟩

theorem rdot_any (v1 v2 : Value) (l r : List Nat) (hl : l.length * 8 ≤ 140737488351232) (w : World) (h1 : Sl encF w v1 l) (h2 : Sl encF w v2 r) :
    Calls Try.prog 23 #[v1, v2] w fun e w' => e = .returned (.tuple #[.float .f64 (dotV l r), .int .i64 (dotE l r)]) ∧ Below w.heap.size w w' := by
  obtain ⟨a1, c1, rfl, g1⟩ := h1.parts
  obtain ⟨a2, c2, rfl, g2⟩ := h2.parts
  by_cases h : l.length = r.length
  · have e1 : dotV l r = sumF (prods l r) := if_pos h
    have e2 : dotE l r = 0 := if_pos h
    rw [e1, e2]
    exact rdot_even a1 a2 c1 c2 l r h hl w g1 g2
  · have e1 : dotV l r = 0 := if_neg h
    have e2 : dotE l r = 1 := if_neg h
    rw [e1, e2]
    refine (rdot_odd a1 a2 _ _ c1 c2 h w).mono ?_
    rintro e w' ⟨rfl, rfl⟩
    exact ⟨rfl, Below.refl _ _⟩

set_option maxHeartbeats 1600000 in
theorem rspread_any (v : Value) (l : List Nat) (hbd : ∀ x ∈ l, x < 2^64) (hl : l.length * 8 ≤ 140737488351232) (w : World) (h : Sl encF w v l) :
    Calls Try.prog 22 #[v] w fun e w' => e = .returned (.tuple #[.float .f64 (spreadV l), .int .i64 (meanE l)]) ∧ Below w.heap.size w w' := by
  have HM := Lib.hid (rmean_any v l hbd w h)
  obtain ⟨a1, c1, rfl, hA⟩ := h.parts
  clear h hbd
  generalize hB : w.heap.size = B
  have HB := Lib.hid hB
  clear hB
  by_cases h0 : l = []
  · subst h0
    rw [show meanE [] = 14 from rfl, show meanV [] = 0 from rfl] at HM
    rw [show meanE [] = 14 from rfl, show spreadV [] = 0 from rfl]
    go_enter Try.func22, Try.ntmps22
    go_wp2_with (go_at_call 21; refine (HM.out).mono ?_; rintro e w' ⟨rfl, n3, rfl⟩)
    go_ret2
    exact ⟨rfl, below_drewN (Below.refl _ _) _⟩
  · rw [show meanE l = 0 from if_neg h0, show meanV l = meanF l from if_neg h0] at HM
    rw [show meanE l = 0 from if_neg h0, show spreadV l = meanF (sqs (meanF l) l) from if_neg h0]
    have H0 : Hid (l ≠ []) := h0
    clear h0
    have HPL := Lib.hid (sqs_len (meanF l) l)
    go_enter Try.func22, Try.ntmps22
    go_wp2_with (go_at_call 21; refine (HM.out).mono ?_; rintro e w' ⟨rfl, n3, rfl⟩)
    go_loopw [6, 7, 8] (fun v i _ wr => ∃ (k : Nat) (ys : List Nat) (v' : Value), v' = v ∧ k ≤ l.length ∧ i = .int .i64 k ∧ Hid (OwnF wr B v' ys) ∧ Hid (ys.map canon = (sqs (meanF l) l).take k ∧ ∀ y ∈ ys, y < 2^64) ∧ Hid (Below B w wr)) (fun _ i _ _ => l.length - (intOf i).toNat)
    case atStart => exact ⟨0, [], _, rfl, Nat.zero_le _, rfl, OwnF.nil _ _, ⟨by simp, by simp⟩, below_drewN (Below.refl _ _) _⟩
    case round =>
      obtain ⟨k, ys, v', rfl, hk, rfl, hown, hW, hbl⟩ := hrel
      have hB1 := Lib.hid (show B ≤ wr.heap.size from by rw [← HB.out]; exact hbl.out.size)
      have HYL : Hid (ys.length = k) := by show _ = _; exact take_len_map hW.out.1 (by rw [HPL.out]; exact hk)
      by_cases hlt : k < l.length
      · have hcell : ∃ b o, a1 = some ⟨b, o, none⟩ ∧ wr.cell? ⟨b, o + k, none⟩ = some (.float .f64 l[k]) := by
          obtain h0 | ⟨b, o, rfl, hb, hc⟩ := hA.out
          · exfalso; rw [h0] at hlt; simp at hlt
          · exact ⟨b, o, rfl, by rw [hbl.out.cell (p := ⟨b, o + k, none⟩) (by rw [← HB.out]; exact hb)]; exact hc k hlt⟩
        obtain ⟨b, o, rfl, hc1⟩ := hcell
        have HN : Hid (∀ d z, canon d = fsub l[k] (meanF l) → canon z = fmul d d → z < 2^64 → (ys ++ [z]).map canon = (sqs (meanF l) l).take (k + 1) ∧ ∀ y ∈ ys ++ [z], y < 2^64) := fun d z hd hz hl =>
          ⟨sqs_succ hlt hW.out.1 hd hz, lt_snoc hW.out.2 hl⟩
        clear hA
        go_wp2_with (first
          | (refine wpList_fsub _ rfl _ _ _ _ rfl _ _ rfl rfl ?_; intro zs ns hzs hls)
          | (refine wpList_fmul _ rfl _ _ _ _ rfl _ _ rfl rfl ?_; intro za na hza hla)
          | (at_builtin; go_must (refine wpList_appF rfl _ _ rfl B _ _ rfl ((hown.out.drewN _).alloc _) _ _ rfl (Sl.one encF _ _ _) ?c1 ?c2 ?c3)))
        case c1 => rw [HYL.out]; simp; omega
        case c2 => simp; have := hB1.out; omega
        intro v1 w1 ho1 hg1
        have hb' : Hid (Below B w w1) := OwnF.below ((hown.out.drewN _).alloc _) hg1 ((below_drewN hbl.out _).alloc hB1.out _) (Nat.le_refl _) (by simp; have := hB1.out; omega)
        have HO1 := Lib.hid ho1
        have HN1 := Lib.hid (HN.out _ _ hzs hza hla)
        clear ho1 hg1 hzs hza hla
        go_wp2
        exact ⟨⟨k + 1, _, _, rfl, by omega, by go_num, HO1, HN1, hb'⟩, by simp [intOf]; omega⟩
      · have hkl : k = l.length := by omega
        have hS : ys.map canon = (sqs (meanF l) l).map canon := by rw [hW.out.1, sqs_canon, List.take_of_length_le (by rw [HPL.out]; omega)]
        have hne : ys ≠ [] := fun h => by rw [h] at HYL; have := HYL.out; rw [hkl] at this; exact H0.out (List.length_eq_zero_iff.1 this.symm)
        have HSM : Hid (fdiv (sumF ys) (ofInt l.length) = meanF (sqs (meanF l) l)) := by
          show _ = _
          rw [← meanF_congr _ _ hS]; unfold meanF; rw [HYL.out, hkl]
        have HS2 := Lib.hid (rsum_any v' ys hW.out.2 wr (hown.out.sl (by rw [HYL.out]; omega)))
        clear hS hne hW hA
        go_wp2_with (first
          | (go_at_call 24; refine (HS2.out).mono ?_; rintro e w' ⟨rfl, n4, rfl⟩)
          | (refine wpList_fquo _ rfl _ _ _ _ rfl _ _ rfl rfl ?_; intro z n hz hlz)
          | (go_at_call 33; refine (clean_any _ _).mono ?_; rintro e w' ⟨rfl, rfl⟩))
        go_ret2
        refine ⟨?_, below_drewN hbl.out _⟩
        rw [← HSM.out]; rfl
end Go.Proofs.Ytfnchcafebomlaa
