/- The walk of ForderSorts: the law returns true. -/
import Derived.Test.YticpfopjffbgbaaWFasks
import Derived.Test.YticpfopjffbgbaaFsp
import Derived.Test.YticpfopjffbgbaaFnp
import Derived.Test.YticpfopjffbgbaaCap
import Derived.Deep.RegionLaw
namespace Go.Proofs.Yticpfopjffbgbaa
open Go.RowKit Fl

theorem cmp_quiet {x y : Nat} {p : Int} (h : cmpF x y = p) (w : World) (n : Nat) :
    Calls Try.prog 14 #[.float .f64 x, .float .f64 y] (w.drewN n) fun e w'' => e = .returned (.int .i64 p) ∧ ∃ m, w'' = w.drewN m := by
  have := compare_any x y (w.drewN n)
  rw [h] at this
  exact quiet_eq this
theorem same_quiet {x y : Nat} {b : Bool} (h : (canon x == canon y) = b) (w : World) (n : Nat) :
    Calls Try.prog 15 #[.float .f64 x, .float .f64 y] (w.drewN n) fun e w'' => e = .returned (.bool b) ∧ ∃ m, w'' = w.drewN m := by
  have := same_any x y (w.drewN n)
  rw [h] at this
  exact quiet_eq this

theorem same_quiet2 {x y : Nat} {b : Bool} (h : (canon x == canon y) = b) (w : World) (a n : Nat) :
    Calls Try.prog 15 #[.float .f64 x, .float .f64 y] (w.drewN (a + n)) fun e w'' => e = .returned (.bool b) ∧ ∃ m, w'' = w.drewN (a + m) := by
  have := same_any x y (w.drewN (a + n))
  rw [h] at this
  exact this.mono fun _ _ ⟨he, hm⟩ => ⟨he, n, hm.symm⟩

/-- the cells of a slice, by places -/
def CellsF (w : World) (a : Option Addr) (l : List Nat) : Prop := ∀ k, k < l.length → ∃ b o, a = some ⟨b, o, none⟩ ∧ ∀ i, i < l.length → w.cell? ⟨b, o + i, none⟩ = some (.float .f64 (l.getD i 0))
theorem Sl.cells {w : World} {a : Option Addr} {n cap : Nat} {l : List Nat} (h : Sl encF w (.slice a n cap) l) : CellsF w a l := fun k hk => by
  obtain ⟨_, _, hv, _, _, hA⟩ := h
  simp only [Value.slice.injEq] at hv
  obtain ⟨rfl, _, rfl⟩ := hv
  obtain h0 | ⟨b, o, rfl, hb, hc⟩ := hA
  · exfalso; rw [h0] at hk; simp at hk
  · exact ⟨b, o, rfl, fun i hi => by rw [getD_eq hi]; exact hc i hi⟩
theorem CellsF.drw {w w' : World} {a : Option Addr} {l : List Nat} (h : CellsF w a l) (hd : Drw w w') : CellsF w' a l := by
  obtain ⟨n, rfl⟩ := hd; exact h
theorem Drw.trans {a b c : World} (h : Drw a b) (g : Drw b c) : Drw a c := by
  obtain ⟨n, rfl⟩ := h
  obtain ⟨m, rfl⟩ := g
  exact ⟨n + m, World.drewN_drewN ..⟩

set_option maxHeartbeats 6400000 in
set_option maxRecDepth 16000 in
theorem sorts_small (a : Option Addr) (cap : Nat) (l : List Nat) (kk : Int) (hkk : -9223372036854775808 ≤ kk ∧ kk ≤ 9223372036854775807) (hl : l.length ≤ 300) (hbd : ∀ x ∈ l, x < 2^64) (w : World) (hS : Sl encF w (.slice a l.length cap) l) (hcp : l.length ≤ cap) :
    Calls Try.prog 3 #[.slice a l.length cap, .int .i64 kk] w fun e w' => e = .returned (.bool true) ∧ Below w.heap.size w w' := by
  generalize hB : w.heap.size = B
  have HL : Hid (∀ w', Hid (Below B w w') → Sl encF w' (.slice a l.length cap) l) := fun w' h => hS.below (Nat.le_of_eq hB) h.out
  have l8 : l.length * 8 ≤ 140737488351232 := by omega
  have C1 := Lib.hid (sort_any (.slice a l.length cap) l hbd l8 w hS)
  have hsm : decide (l.length ≤ 300) = true := decide_eq_true hl
  have HLE := Lib.hid (sortF_len l)
  have HCN : Hid (∀ y, cntF (sortF l) y = cntF l y) := fun y => cntF_sort hbd y
  have HLS : Hid (∀ i, i + 1 < (sortF l).length → ckf ((sortF l).getD i 0) ≤ ckf ((sortF l).getD (i + 1) 0)) := fun i hi => sortF_lef hi
  have HRT : Hid (∀ r, sortF (l.drop r ++ l.take r) = sortF l) := fun r => sortF_rot l r
  have HCS := Lib.hid (canon_sortF2 l)
  have HBD := Lib.hid hbd
  have hB1 : Hid (B ≤ w.heap.size) := Nat.le_of_eq hB.symm
  clear hS hbd l8 hB
  generalize sortF l = s at *
  go_enter Try.func3, Try.ntmps3
  go_wp2_with (go_at_call 11; refine (small2_any _ _ _ _).mono ?_; rintro e w' ⟨rfl, rfl⟩)
  refine C1.out.mono ?_
  rintro e w1 ⟨v1, rfl, ho1, hb1⟩
  have B1 : Hid (Below B w w1) := hb1.mono hB1.out
  have HS1 := Lib.hid (ho1.sl (by rw [HLE.out]; omega))
  obtain ⟨a1, c1, hv1, _⟩ := HS1.out
  rw [HLE.out] at hv1
  subst hv1
  clear ho1 hb1 C1
  have HC1 : Hid (CellsF w1 a1 s) := Sl.cells HS1.out
  have HC0 : Hid (CellsF w1 a l) := Sl.cells (HL.out w1 B1)
  go_wp2
  go_loopw [6] (fun iv wr => ∃ (j : Nat), (l.length = 0 ∨ j + 1 ≤ l.length) ∧ iv = .int .i64 ((j : Int) + 1) ∧ Drw w1 wr) (fun iv _ => l.length - (intOf iv).toNat)
  case atStart => exact ⟨0, by omega, rfl, Drw.refl _⟩
  case round =>
    obtain ⟨j, hj, rfl, hd⟩ := hrel
    by_cases hlt : j + 1 < l.length
    · obtain ⟨b, o, rfl, hc⟩ := HC1.out j (by rw [HLE.out]; omega)
      have hle := HLS.out j (by rw [HLE.out]; omega)
      have hc0 : wr.cell? ⟨b, o + j, none⟩ = some (.float .f64 (s.getD j 0)) := by obtain ⟨n, rfl⟩ := hd; exact hc j (by rw [HLE.out]; omega)
      have hc1 : wr.cell? ⟨b, o + (j + 1), none⟩ = some (.float .f64 (s.getD (j + 1) 0)) := by obtain ⟨n, rfl⟩ := hd; exact hc (j + 1) (by rw [HLE.out]; omega)
      have HD := Lib.hid hd
      clear hd hc
      have hwr : IntKind.i64.wrap ((j : Int)) = j := IntWalk.i64_in _ (by omega)
      have hp : cmpF (s.getD j 0) (s.getD (j + 1) 0) = -1 ∨ cmpF (s.getD j 0) (s.getD (j + 1) 0) = 0 := by
        rcases Nat.lt_or_eq_of_le hle with h | h
        · exact .inl (cmpF_ltf h).1
        · exact .inr (cmpF_eqf h)
      clear hle
      generalize s.getD j 0 = x0 at *
      generalize s.getD (j + 1) 0 = x1 at *
      rcases hp with hp | hp
      all_goals
        have HP := Lib.hid hp
        clear hp
        go_wp2
        go_quiet ((go_at_call 14; exact cmp_quiet HP.out _ _))
        go_wp2
        exact ⟨⟨j + 1, by omega, by go_num, HD.out.more _⟩, by simp [intOf]; omega⟩
    · obtain ⟨wo, hwo⟩ : ∃ wo : World, wo = wr := ⟨_, rfl⟩
      subst hwo
      have HD := Lib.hid hd
      clear hd
      go_wp2
      go_loopw [7] (fun iv wr => ∃ (i : Nat), i ≤ l.length ∧ iv = .int .i64 i ∧ Drw w1 wr) (fun iv _ => l.length - (intOf iv).toNat)
      case atStart => exact ⟨0, by omega, rfl, HD.out⟩
      case round =>
        obtain ⟨i, hi, rfl, hd⟩ := hrel
        by_cases hil : i < l.length
        · obtain ⟨wp, hwp⟩ : ∃ wp : World, wp = wr := ⟨_, rfl⟩
          subst hwp
          clear HD
          have HD := Lib.hid hd
          clear hd
          obtain ⟨b, o, rfl, hc⟩ := HC0.out i hil
          obtain ⟨b1, o1, rfl, hc1⟩ := HC1.out i (by rw [HLE.out]; omega)
          have HC := Lib.hid hc
          have HCS1 := Lib.hid hc1
          clear hc hc1
          obtain ⟨y, hy⟩ : ∃ y, l.getD i 0 = y := ⟨_, rfl⟩
          have HY := Lib.hid hy
          clear hy
          go_wp2
          go_loopw [8, 9, 10] (fun nv mv jv wr => ∃ (j n m : Nat), j ≤ l.length ∧ n ≤ j ∧ m ≤ j ∧ Hid (n = cntF (l.take j) y) ∧ Hid (m = cntF (s.take j) y) ∧ nv = .int .i64 n ∧ mv = .int .i64 m ∧ jv = .int .i64 j ∧ Drw w1 wr) (fun _ _ jv _ => l.length - (intOf jv).toNat)
          case atStart => exact ⟨0, 0, 0, by omega, by omega, by omega, rfl, rfl, rfl, rfl, rfl, HD.out⟩
          case round =>
            clear HD
            obtain ⟨j, n, m, hj2, hn, hm, hen, hem, rfl, rfl, rfl, hd⟩ := hrel
            by_cases hjl : j < l.length
            · have c0 : wr.cell? ⟨b, o + i, none⟩ = some (.float .f64 y) := by obtain ⟨n, rfl⟩ := hd; rw [← HY.out]; exact HC.out i hil
              have c1 : wr.cell? ⟨b, o + j, none⟩ = some (.float .f64 (l.getD j 0)) := by obtain ⟨n, rfl⟩ := hd; exact HC.out j hjl
              have c2 : wr.cell? ⟨b1, o1 + j, none⟩ = some (.float .f64 (s.getD j 0)) := by obtain ⟨n, rfl⟩ := hd; exact HCS1.out j (by rw [HLE.out]; omega)
              have HD := Lib.hid hd
              have HN := Lib.hid (cntF_succ hjl y)
              have HM := Lib.hid (cntF_succ (l := s) (k := j) (by rw [HLE.out]; omega) y)
              clear hd
              generalize l.getD j 0 = x0 at *
              generalize s.getD j 0 = x1 at *
              cases h0 : (canon x0 == canon y)
              · cases h1 : (canon x1 == canon y)
                · have HN2 : Hid (n = cntF (l.take (j + 1)) y) := by show _ = _; rw [HN.out, ← hen.out, h0]; rfl
                  have HM2 : Hid (m = cntF (s.take (j + 1)) y) := by show _ = _; rw [HM.out, ← hem.out, h1]; rfl
                  have H0 := Lib.hid h0
                  have H1 := Lib.hid h1
                  clear h0 h1 HN HM hen hem
                  go_wp2
                  go_quiet ((go_at_call 15; exact same_quiet H0.out _ _))
                  go_wp2
                  go_quiet ((go_at_call 15; exact same_quiet2 H1.out _ _ _))
                  go_wp2
                  exact ⟨⟨j + 1, n, m, by omega, by omega, by omega, HN2, HM2, rfl, rfl, by go_num, HD.out.more _⟩, by simp [intOf]; omega⟩
                · have HN2 : Hid (n = cntF (l.take (j + 1)) y) := by show _ = _; rw [HN.out, ← hen.out, h0]; rfl
                  have HM2 : Hid (m + 1 = cntF (s.take (j + 1)) y) := by show _ = _; rw [HM.out, ← hem.out, h1]; rfl
                  have H0 := Lib.hid h0
                  have H1 := Lib.hid h1
                  clear h0 h1 HN HM hen hem
                  go_wp2
                  go_quiet ((go_at_call 15; exact same_quiet H0.out _ _))
                  go_wp2
                  go_quiet ((go_at_call 15; exact same_quiet2 H1.out _ _ _))
                  go_wp2
                  exact ⟨⟨j + 1, n, m + 1, by omega, by omega, by omega, HN2, HM2, rfl, by go_num, by go_num, HD.out.more _⟩, by simp [intOf]; omega⟩
              · cases h1 : (canon x1 == canon y)
                · have HN2 : Hid (n + 1 = cntF (l.take (j + 1)) y) := by show _ = _; rw [HN.out, ← hen.out, h0]; rfl
                  have HM2 : Hid (m = cntF (s.take (j + 1)) y) := by show _ = _; rw [HM.out, ← hem.out, h1]; rfl
                  have H0 := Lib.hid h0
                  have H1 := Lib.hid h1
                  clear h0 h1 HN HM hen hem
                  go_wp2
                  go_quiet ((go_at_call 15; exact same_quiet H0.out _ _))
                  go_wp2
                  go_quiet ((go_at_call 15; exact same_quiet2 H1.out _ _ _))
                  go_wp2
                  exact ⟨⟨j + 1, n + 1, m, by omega, by omega, by omega, HN2, HM2, by go_num, rfl, by go_num, HD.out.more _⟩, by simp [intOf]; omega⟩
                · have HN2 : Hid (n + 1 = cntF (l.take (j + 1)) y) := by show _ = _; rw [HN.out, ← hen.out, h0]; rfl
                  have HM2 : Hid (m + 1 = cntF (s.take (j + 1)) y) := by show _ = _; rw [HM.out, ← hem.out, h1]; rfl
                  have H0 := Lib.hid h0
                  have H1 := Lib.hid h1
                  clear h0 h1 HN HM hen hem
                  go_wp2
                  go_quiet ((go_at_call 15; exact same_quiet H0.out _ _))
                  go_wp2
                  go_quiet ((go_at_call 15; exact same_quiet2 H1.out _ _ _))
                  go_wp2
                  exact ⟨⟨j + 1, n + 1, m + 1, by omega, by omega, by omega, HN2, HM2, by go_num, by go_num, by go_num, HD.out.more _⟩, by simp [intOf]; omega⟩
            · have hjl2 : j = l.length := by omega
              have hnm : n = m := by
                have h1 := hen.out
                have h2 := hem.out
                rw [List.take_of_length_le (by omega)] at h1
                rw [List.take_of_length_le (by rw [HLE.out]; omega), HCN.out] at h2
                omega
              subst hnm
              have HD := Lib.hid hd
              clear hd hen hem hjl2
              go_wp2
              exact ⟨⟨i + 1, by omega, by go_num, HD.out⟩, by simp [intOf]; omega⟩
        · clear HD
          have hd' := hd
          have HW : Hid (Below B w wr) := B1.out.trans (hd.below B)
          have HSl := Lib.hid (HL.out wr HW)
          have HSs : Hid (Sl encF wr (.slice a1 l.length c1) s) := by obtain ⟨n, rfl⟩ := hd'; exact HS1.out
          clear hd hd' HC0 HC1
          have hrr := round_any kk ((l.length : Int) + 1) hkk (by omega) (by omega)
          generalize hr : kk % ((l.length : Int) + 1) = r at hrr
          have hr0 : 0 ≤ r := by rw [← hr]; exact Int.emod_nonneg _ (by omega)
          have hr1 : r ≤ l.length := by have := Int.emod_lt_of_pos kk (show 0 < (l.length : Int) + 1 by omega); omega
          obtain ⟨r', rfl⟩ := Int.eq_ofNat_of_zero_le hr0
          have HR := Lib.hid hrr
          clear hrr hr hr0
          go_wp2_with (go_at_call 16; refine (HR.out _).mono ?_; rintro e w' ⟨rfl, rfl⟩)
          have hcl : l.length ≤ cap := hcp
          have hB1' : Hid (B ≤ wr.heap.size) := Nat.le_trans hB1.out HW.out.size
          have HSRT : Hid (∀ v2 w2, Hid (OwnF w2 wr.heap.size v2 ([] ++ l.drop r' ++ l.take r')) → Calls Try.prog 13 #[v2] w2 fun e w' => ∃ v', e = .returned v' ∧ OwnF w' w2.heap.size v' s ∧ Below w2.heap.size w2 w') := fun v2 w2 h => by
            have h' := h.out
            rw [List.nil_append] at h'
            have hlen : (l.drop r' ++ l.take r').length = l.length := by rw [List.length_append, List.length_drop, List.length_take]; omega
            have := sort_any v2 (l.drop r' ++ l.take r') (fun x hx => by
              rcases List.mem_append.1 hx with h | h
              · exact HBD.out x (List.mem_of_mem_drop h)
              · exact HBD.out x (List.mem_of_mem_take h)) (by rw [hlen]; omega) w2 (h'.sl (by rw [hlen]; omega))
            rw [HRT.out] at this
            exact this
          have HNUM : Hid (∀ v3 w3 w2, Hid (Below wr.heap.size wr w2) → Hid (Below w2.heap.size w2 w3) → Hid (OwnF w3 w2.heap.size v3 s) → Calls Try.prog 17 #[v3, .slice a1 l.length c1] w3 fun e w' => e = .returned (.bool true) ∧ Drw w3 w') := fun v3 w3 w2 h2 h3 h =>
            nums_any v3 _ s s (by rw [HLE.out]; omega) rfl w3 (h.out.sl (by rw [HLE.out]; omega)) (HSs.out.below (Nat.le_refl _) (h2.out.trans (h3.out.mono h2.out.size)))
          cases a with
          | none =>
            obtain ⟨_, _, hv, hax, _, _⟩ := HSl.out
            simp only [Value.slice.injEq] at hv
            obtain ⟨rfl, _, rfl⟩ := hv
            have hc0 : cap = 0 := hax rfl
            have hl0 : l = [] := List.eq_nil_of_length_eq_zero (by omega)
            subst hc0 hl0
            have hr' : r' = 0 := by have : ((r' : Nat) : Int) ≤ 0 := hr1; omega
            subst hr'
            clear hr1 hax hcl hcp hl
            go_region_law (first
              | (refine step_appF rfl (.tmp 81) (.tmp 84) rfl wr.heap.size (.slice (some ⟨wr.heap.size, 0, none⟩) 0 0) [] (by simp [Act.eval]) (OwnF.empty (by exact heap_alloc_new wr _) (Nat.le_refl _)) (.slice none 0 0) [] (by simp [Act.eval])
                  (Sl.nil _ _) (by simp) (by simp) ?_
                 intro v1 w1 ho1 hg1
                 have hbw : Hid (Below wr.heap.size wr w1) := OwnF.below (OwnF.empty (by exact heap_alloc_new wr _) (Nat.le_refl _)) hg1 (by first | exact ((Below.refl _ _).alloc (Nat.le_refl _) _).drew | exact ((Below.refl _ _).drew.alloc (Nat.le_refl _) _) | exact ((Below.refl _ _).alloc (Nat.le_refl _) _)) (Nat.le_refl _) (by simp)
                 have HO1 := Lib.hid ho1
                 clear ho1 hg1)
              | (refine step_appF rfl (.tmp 85) (.tmp 88) rfl wr.heap.size v1 _ (by simp [Act.eval]) HO1.out (.slice none 0 0) [] (by simp [Act.eval]) (Sl.nil _ _) (by simp) hbw.out.size ?_
                 intro v2 w2 ho2 hg2
                 have hbr : Hid (Below wr.heap.size wr w2) := OwnF.below HO1.out hg2 hbw.out (Nat.le_refl _) hbw.out.size
                 have HO2 := Lib.hid ho2
                 clear ho2 hg2)
              | (go_simp
                 go_wp2_with (go_at_call 13; refine (HSRT.out v2 w2 HO2).mono ?_; rintro e w3 ⟨v3, rfl, ho3, hb3⟩)
                 have HO3 := Lib.hid ho3
                 have HB3 := Lib.hid hb3
                 clear ho3 hb3)
              | (go_simp
                 go_wp2_with (go_at_call 17; refine (HNUM.out v3 w3 w2 hbr HB3 HO3).mono ?_; rintro e w4 ⟨rfl, hd4⟩)
                 have HD4 := Lib.hid hd4
                 clear hd4)
              | (go_simp
                 go_wp2_with (go_at_call 12; refine (awake2_any _).mono ?_; rintro e w' ⟨rfl, hbb⟩)
                 have HBB := Lib.hid hbb
                 clear hbb))
            go_wp2
            go_ret
            exact ⟨rfl, HW.out.trans ((hbr.out.trans ((HB3.out.trans ((HD4.out.below _).trans (HBB.out.mono (Nat.le_trans HB3.out.size (HD4.out.below w2.heap.size).size)))).mono hbr.out.size)).mono hB1'.out)⟩
          | some ad =>
            have hrc : r' ≤ cap := by omega
            obtain ⟨A, hA⟩ : ∃ A, (if cap = r' then ad else ad.add r') = A := ⟨_, rfl⟩
            have HDr := Lib.hid (HSl.out.drop (r := r') (by omega) A hA hcl)
            have HT := Lib.hid (HSl.out.take (r := r') (by omega))
            have hif : (if cap = r' then some ad else some (ad.add r')) = some A := by
              rw [← hA]; split <;> rfl
            clear hA
            have hb4 : ((0 : Nat) + (l.drop r').length) * 8 ≤ 140737488355328 := by rw [List.length_drop]; omega
            have hb8 : ((([] : List Nat) ++ l.drop r').length + (l.take r').length) * 8 ≤ 140737488355328 := by rw [List.nil_append, List.length_drop, List.length_take]; omega
            have H4 := Lib.hid hb4
            have H8 := Lib.hid hb8
            clear hb4 hb8
            go_region_law (first
              | (refine step_appF rfl (.tmp 81) (.tmp 84) rfl wr.heap.size (.slice (some ⟨wr.heap.size, 0, none⟩) 0 0) [] (by simp [Act.eval]) (OwnF.empty (by exact heap_alloc_new wr _) (Nat.le_refl _)) (.slice (some A) (l.length - r') (cap - r')) (l.drop r') (by simp [Act.eval])
                  (HDr.out.below (Nat.le_refl _) (by first | exact ((Below.refl _ _).alloc (Nat.le_refl _) _).drew | exact ((Below.refl _ _).drew.alloc (Nat.le_refl _) _) | exact ((Below.refl _ _).alloc (Nat.le_refl _) _))) H4.out (by simp) ?_
                 intro v1 w1 ho1 hg1
                 have hbw : Hid (Below wr.heap.size wr w1) := OwnF.below (OwnF.empty (by exact heap_alloc_new wr _) (Nat.le_refl _)) hg1 (by first | exact ((Below.refl _ _).alloc (Nat.le_refl _) _).drew | exact ((Below.refl _ _).drew.alloc (Nat.le_refl _) _) | exact ((Below.refl _ _).alloc (Nat.le_refl _) _)) (Nat.le_refl _) (by simp)
                 have HO1 := Lib.hid ho1
                 clear ho1 hg1)
              | (refine step_appF rfl (.tmp 85) (.tmp 88) rfl wr.heap.size v1 _ (by simp [Act.eval]) HO1.out (.slice (some ad) r' cap) (l.take r') (by simp [Act.eval]) (HT.out.below (Nat.le_refl _) hbw.out) H8.out hbw.out.size ?_
                 intro v2 w2 ho2 hg2
                 have hbr : Hid (Below wr.heap.size wr w2) := OwnF.below HO1.out hg2 hbw.out (Nat.le_refl _) hbw.out.size
                 have HO2 := Lib.hid ho2
                 clear ho2 hg2)
              | (go_simp
                 go_wp2_with (go_at_call 13; refine (HSRT.out v2 w2 HO2).mono ?_; rintro e w3 ⟨v3, rfl, ho3, hb3⟩)
                 have HO3 := Lib.hid ho3
                 have HB3 := Lib.hid hb3
                 clear ho3 hb3)
              | (go_simp
                 go_wp2_with (go_at_call 17; refine (HNUM.out v3 w3 w2 hbr HB3 HO3).mono ?_; rintro e w4 ⟨rfl, hd4⟩)
                 have HD4 := Lib.hid hd4
                 clear hd4)
              | (go_simp
                 go_wp2_with (go_at_call 12; refine (awake2_any _).mono ?_; rintro e w' ⟨rfl, hbb⟩)
                 have HBB := Lib.hid hbb
                 clear hbb))
            go_wp2
            go_ret
            exact ⟨rfl, HW.out.trans ((hbr.out.trans ((HB3.out.trans ((HD4.out.below _).trans (HBB.out.mono (Nat.le_trans HB3.out.size (HD4.out.below w2.heap.size).size)))).mono hbr.out.size)).mono hB1'.out)⟩

set_option maxHeartbeats 800000 in
set_option maxRecDepth 8000 in
theorem sorts_big (a : Option Addr) (n cap : Nat) (kk : Int) (hl : 300 < n) (w : World) :
    Calls Try.prog 3 #[.slice a n cap, .int .i64 kk] w fun e w' => e = .returned (.bool true) ∧ Below w.heap.size w w' := by
  have hsm : decide (n ≤ 300) = false := decide_eq_false (by omega)
  go_enter Try.func3, Try.ntmps3
  go_wp2_with (first | (go_at_call 11; refine (small2_any _ _ _ _).mono ?_; rintro e w' ⟨rfl, rfl⟩) | (go_at_call 12; refine (awake2_any _).mono ?_; rintro e w' ⟨rfl, hbb⟩))
  go_ret
  exact ⟨rfl, hbb⟩

theorem walk_ForderSorts (w : World) (v : Value) (l : List Nat) (h : Sl encF w v l) (hb : ∀ x ∈ l, x < 2^64) (_ : l.length * 8 ≤ 140737488351232) (hc : Capd v) (kk : Int) (wk : (Lit.int .i64 kk).wf = true) :
    Calls Try.prog 3 #[v, .int .i64 kk] w fun e w' => e = .returned (.bool true) ∧ Below w.heap.size w w' := by
  obtain ⟨a, cap, rfl, _⟩ := id h
  rcases Nat.lt_or_ge 300 l.length with hl | hl
  · exact sorts_big a _ cap kk hl w
  · exact sorts_small a cap l kk (bounds_i64 wk) hl hb w h (hc _ _ _ rfl)
end Go.Proofs.Yticpfopjffbgbaa
