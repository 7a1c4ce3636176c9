/- The walk of FsumWhole: the law returns true. -/
import Derived.Test.YtfnchcafebomlaaSwc
import Derived.Test.YtfnchcafebomlaaAppF
import Derived.Deep.RegionLaw
import Derived.RegionTactic
import Derived.OpenShut
namespace Go.Proofs.Ytfnchcafebomlaa
open Go.RowKit Fl

/-- what the list's numbers may be -/
def Whole (l : List Int) (k : Nat) : Prop := ∀ j (h : j < l.length), j < k → -1099511627776 ≤ l[j] ∧ l[j] ≤ 1099511627776

theorem Whole.natAbs {l : List Int} {k : Nat} (h : Whole l k) : ∀ x ∈ l.take k, x.natAbs ≤ 1099511627776 := by
  intro x hx
  obtain ⟨j, hj, rfl⟩ := List.getElem_of_mem hx
  rw [List.length_take] at hj
  rw [List.getElem_take]
  have := h j (by omega) (by omega)
  omega

theorem Whole.bound {l : List Int} {k : Nat} (h : Whole l k) (hl : l.length ≤ 300) : -329853488332800 ≤ isum (l.take k) ∧ isum (l.take k) ≤ 329853488332800 := by
  have h1 := isum_bound 1099511627776 (l.take k) h.natAbs
  have h2 : (l.take k).length * 1099511627776 ≤ 300 * 1099511627776 := Nat.mul_le_mul_right _ (by rw [List.length_take]; omega)
  omega

theorem isum_take_succ {l : List Int} {k : Nat} (h : k < l.length) : isum (l.take (k + 1)) = isum (l.take k) + l[k] := by
  rw [List.take_succ_eq_append_getElem h, isum_snoc]

theorem map_take_succ {l : List Int} {xs : List Nat} (hx : xs = l.map ofInt) {k : Nat} (h : k < l.length) : xs.take k ++ [floatOfInt .f64 l[k]] = xs.take (k + 1) := by
  subst hx
  rw [List.take_succ_eq_append_getElem (by simpa using h), List.getElem_map]; rfl

theorem ofInt_lt (n : Int) : ofInt n < 2^64 := D.write_lt _
theorem whole_sum (l : List Int) (hl : l.length ≤ 300) (h : ∀ x ∈ l, x.natAbs ≤ 1099511627776) : feq (sumF (l.map ofInt)) (floatOfInt .f64 (isum l)) = true ∧ ∀ x ∈ l.map ofInt, x < 2^64 := by
  constructor
  · obtain ⟨a, b⟩ := sumF_whole l hl h
    have b1 := isum_bound 1099511627776 l h
    have : l.length * 1099511627776 ≤ 300 * 1099511627776 := Nat.mul_le_mul_right _ hl
    obtain ⟨c, d⟩ := ofInt_fin (isum l) (by omega)
    show feq _ (ofInt (isum l)) = true
    rw [feq_fin a c, b, d]; simp
  · intro x hx
    obtain ⟨y, _, rfl⟩ := List.mem_map.1 hx
    exact ofInt_lt y
theorem isum_rot (l : List Int) (r : Nat) : isum (l.drop r ++ l.take r) = isum l := by
  rw [isum_append, Int.add_comm, ← isum_append, List.take_append_drop]

set_option maxHeartbeats 800000 in
theorem whole_small (a : Option Addr) (cap : Nat) (l : List Int) (kk : Int) (hkk : -9223372036854775808 ≤ kk ∧ kk ≤ 9223372036854775807) (hl : l.length ≤ 300) (w : World)
    (hA : Hid (l = [] ∨ ∃ b o, a = some ⟨b, o, none⟩ ∧ b < w.heap.size ∧ ∀ i (h : i < l.length), w.cell? ⟨b, o + i, none⟩ = some (encI l[i]))) :
    Calls Try.prog 3 #[.slice a l.length cap, .int .i64 kk] w fun e w' => e = .returned (.bool true) ∧ Below w.heap.size w w' := by
  generalize hB : w.heap.size = B
  have HB := Lib.hid hB
  clear hB
  obtain ⟨xs, hxs⟩ : ∃ xs, xs = l.map ofInt := ⟨_, rfl⟩
  have hxl : Hid (xs.length = l.length) := by show _ = _; rw [hxs, List.length_map]
  have HXS := Lib.hid hxs
  clear hxs
  go_enter Try.func3, Try.ntmps3
  go_wp2
  go_loopw [5, 6, 7] (fun n v i wr => ∃ (k : Nat), k ≤ l.length ∧ i = .int .i64 k ∧ n = .int .i64 (isum (l.take k)) ∧ Hid (OwnF wr B v (xs.take k)) ∧ Hid (Whole l k) ∧ Hid (Below B w wr)) (fun _ _ i _ => l.length - (intOf i).toNat)
  case atStart => exact ⟨0, Nat.zero_le _, rfl, rfl, OwnF.nil _ _, fun j _ h => by omega, Below.refl _ _⟩
  case round =>
    obtain ⟨k, hk, rfl, rfl, hown, hW, hbl⟩ := hrel
    have hB1 := Lib.hid (show B ≤ wr.heap.size from by rw [← HB.out]; exact hbl.out.size)
    by_cases hlt : k < l.length
    · obtain h0 | ⟨b, o, rfl, hb, hc⟩ := hA.out
      · exfalso; rw [h0] at hlt; simp at hlt
      have hcell : wr.cell? ⟨b, o + k, none⟩ = some (.int .i64 l[k]) := by
        rw [hbl.out.cell (p := ⟨b, o + k, none⟩) (by rw [← HB.out]; exact hb)]; exact hc k hlt
      clear hc
      obtain ⟨q1, q2⟩ := hW.out.bound hl
      have HS := Lib.hid (isum_take_succ hlt)
      have HM := Lib.hid (map_take_succ HXS.out hlt)
      have HL : Hid ((xs.take k).length = k) := by show _ = _; rw [List.length_take, hxl.out]; omega
      have HX : Hid (∀ j (h : j < l.length), j < k + 1 → j < k ∨ j = k) := fun j _ h => by omega
      generalize isum (l.take k) = S at *
      by_cases hlo : l[k] < -1099511627776
      · go_wp2_with (go_at_call 12; refine (awake4_any _).mono ?_; rintro e w' ⟨rfl, hbb⟩)
        go_ret
        exact ⟨rfl, hbl.out.trans (hbb.mono hB1.out)⟩
      · by_cases hhi : 1099511627776 < l[k]
        · have hlo' : -1099511627776 ≤ l[k] := by omega
          clear hlo
          go_wp2_with (go_at_call 12; refine (awake4_any _).mono ?_; rintro e w' ⟨rfl, hbb⟩)
          go_ret
          exact ⟨rfl, hbl.out.trans (hbb.mono hB1.out)⟩
        · have hlo' : -1099511627776 ≤ l[k] := by omega
          have hhi' : l[k] ≤ 1099511627776 := by omega
          clear hlo hhi
          go_wp2_with (at_builtin; refine wpList_appF rfl _ _ rfl B _ _ rfl (hown.out.alloc _) _ _ rfl (Sl.one encF _ _ _) ?c1 ?c2 ?c3)
          case c1 => rw [HL.out]; simp; omega
          case c2 => simp; have := hB1.out; omega
          intro v' w' hown' hg
          have hW' : Hid (Whole l (k + 1)) := fun j h h' => by
            rcases HX.out j h h' with h2 | h2
            · exact hW.out j h h2
            · subst h2; exact ⟨hlo', hhi'⟩
          have hb' : Hid (Below B w w') := OwnF.below (hown.out.alloc _) hg (hbl.out.alloc hB1.out _) (Nat.le_refl _) (by simp; have := hB1.out; omega)
          rw [HM.out] at hown'
          have HO := Lib.hid hown'
          clear hown' hg
          go_wp2
          exact ⟨⟨k + 1, by omega, by go_num, by rw [HS.out], HO, hW', hb'⟩, by simp [intOf]; omega⟩
    · have hke : l.take k = l := List.take_of_length_le (by omega)
      have hke2 : xs.take k = xs := List.take_of_length_le (by rw [hxl.out]; omega)
      rw [hke2] at hown
      obtain ⟨q1, q2⟩ := hW.out.bound hl
      rw [hke] at q1 q2 ⊢
      have hkl : k = l.length := by omega
      subst hkl
      have hrr := round_any kk ((l.length : Int) + 1) hkk (by omega) (by omega)
      generalize hr : kk % ((l.length : Int) + 1) = r at hrr
      have hr0 : 0 ≤ r := by rw [← hr]; exact Int.emod_nonneg _ (by omega)
      have hr1 : r ≤ l.length := by have := Int.emod_lt_of_pos kk (show 0 < (l.length : Int) + 1 by omega); omega
      obtain ⟨r', rfl⟩ := Int.eq_ofNat_of_zero_le hr0
      have HR := Lib.hid hrr
      clear hrr hr hr0 hke hke2
      have HSl := Lib.hid (hown.out.sl (by rw [hxl.out]; omega))
      obtain ⟨ax, capx, hv, hax, _, hcx⟩ := HSl.out
      rw [hxl.out] at hv
      subst hv
      go_wp2_with (go_at_call 13; refine (HR.out _).mono ?_; rintro e w' ⟨rfl, rfl⟩)
      have hcap := Lib.hid (hown.out.cap).1
      have hnat : ∀ x ∈ l, x.natAbs ≤ 1099511627776 := by have := hW.out.natAbs; rwa [List.take_of_length_le (Nat.le_refl _)] at this
      have hro0 : Hid (feq (sumF xs) (floatOfInt .f64 (isum l)) = true ∧ ∀ x ∈ xs, x < 2^64) := by
        rw [HXS.out]; exact whole_sum l hl hnat
      have hro : Hid (feq (sumF (xs.drop r' ++ xs.take r')) (floatOfInt .f64 (isum l)) = true ∧ ∀ x ∈ xs.drop r' ++ xs.take r', x < 2^64) := by
        have h := whole_sum (l.drop r' ++ l.take r') (by rw [List.length_append, List.length_drop, List.length_take]; omega) (fun x hx => by
          rcases List.mem_append.1 hx with h | h
          · exact hnat x (List.mem_of_mem_drop h)
          · exact hnat x (List.mem_of_mem_take h))
        rw [isum_rot, List.map_append, List.map_drop, List.map_take] at h
        rw [HXS.out]; exact h
      clear hnat
      cases ax with
      | none =>
        have hc0 : capx = 0 := hax rfl
        have hl0 : l = [] := List.eq_nil_of_length_eq_zero (by have := hcap.out; omega)
        subst hc0 hl0
        have hr' : r' = 0 := by have : ((r' : Nat) : Int) ≤ 0 := hr1; omega
        have hx0 : xs = [] := by rw [HXS.out]; rfl
        subst hr' hx0
        clear hcx hr1
        go_region_law (first
          | (refine step_appF rfl (.tmp 51) (.tmp 54) rfl wr.heap.size (.slice (some ⟨wr.heap.size, 0, none⟩) 0 0) [] (by simp [Act.eval]) (OwnF.empty (by exact heap_alloc_new wr _) (Nat.le_refl _)) (.slice none 0 0) [] (by simp [Act.eval])
              (Sl.nil _ _) (by simp) (by simp) ?_
             intro v1 w1 ho1 hg1
             have hbw : Hid (Below wr.heap.size wr w1) := OwnF.below (OwnF.empty (by exact heap_alloc_new wr _) (Nat.le_refl _)) hg1 (by first | exact ((Below.refl _ _).alloc (Nat.le_refl _) _).drew | exact ((Below.refl _ _).drew.alloc (Nat.le_refl _) _) | exact ((Below.refl _ _).alloc (Nat.le_refl _) _)) (Nat.le_refl _) (by simp)
             have HO1 := Lib.hid ho1
             clear ho1 hg1)
          | (refine step_appF rfl (.tmp 55) (.tmp 58) rfl wr.heap.size v1 _ (by simp [Act.eval]) HO1.out (.slice none 0 0) [] (by simp [Act.eval]) (Sl.nil _ _) (by simp) hbw.out.size ?_
             intro v2 w2 ho2 hg2
             have hbw2 : Hid (Below B w w2) := hbl.out.trans ((OwnF.below HO1.out hg2 hbw.out (Nat.le_refl _) hbw.out.size : Below wr.heap.size wr w2).mono hB1.out)
             have HO2 := Lib.hid ho2
             clear ho2 hg2))
        obtain ⟨f1, g1⟩ := hro0.out
        obtain ⟨f2, g2⟩ := hro.out
        have HS1 := Lib.hid (sum_any (.slice none 0 0) [] g1 w2 (Sl.nil _ _))
        have HS2 := Lib.hid (fun n => sum_any v2 _ g1 (w2.drewN n) ((HO2.out.sl (by simp)).drewN n))
        generalize sumF [] = S1 at *
        clear hro0 hro g1 g2 f2
        go_wp2_with fail
        refine HS1.out.mono ?_; rintro e w3 ⟨rfl, n3, rfl⟩
        go_wp2_with fail
        refine (HS2.out _).mono ?_; rintro e w4 ⟨rfl, n4, rfl⟩
        go_wp2_with (go_at_call 12; refine (awake4_any _).mono ?_; rintro e w' ⟨rfl, hbb⟩)
        go_ret
        exact ⟨rfl, (below_drewN hbw2.out _).trans (hbb.mono (by show B ≤ w2.heap.size; have := hbw2.out.size; have := HB.out; omega))⟩
      | some ad =>
        have hrc : r' ≤ capx := by have := hcap.out; omega
        obtain ⟨A, hA⟩ : ∃ A, (if capx = r' then ad else ad.add r') = A := ⟨_, rfl⟩
        have HD := Lib.hid (HSl.out.drop (r := r') (by omega) A hA hcap.out)
        have HT := Lib.hid (HSl.out.take (r := r') (by omega))
        clear hcx
        have hif : (if capx = r' then some ad else some (ad.add r')) = some A := by
          rw [← hA]; split <;> rfl
        clear hA
        have hb4 : ((0 : Nat) + (xs.drop r').length) * 8 ≤ 140737488355328 := by rw [List.length_drop, hxl.out]; omega
        have hb8 : ((([] : List Nat) ++ xs.drop r').length + (xs.take r').length) * 8 ≤ 140737488355328 := by rw [List.nil_append, List.length_drop, List.length_take, hxl.out]; omega
        have H4 := Lib.hid hb4
        have H8 := Lib.hid hb8
        clear hb4 hb8
        go_region_law (first
          | (refine step_appF rfl (.tmp 51) (.tmp 54) rfl wr.heap.size (.slice (some ⟨wr.heap.size, 0, none⟩) 0 0) [] (by simp [Act.eval]) (OwnF.empty (by exact heap_alloc_new wr _) (Nat.le_refl _)) (.slice (some A) (l.length - r') (capx - r')) (xs.drop r') (by simp [Act.eval])
              (HD.out.below (Nat.le_refl _) (by first | exact ((Below.refl _ _).alloc (Nat.le_refl _) _).drew | exact ((Below.refl _ _).drew.alloc (Nat.le_refl _) _) | exact ((Below.refl _ _).alloc (Nat.le_refl _) _))) H4.out (by simp) ?_
             intro v1 w1 ho1 hg1
             have hbw : Hid (Below wr.heap.size wr w1) := OwnF.below (OwnF.empty (by exact heap_alloc_new wr _) (Nat.le_refl _)) hg1 (by first | exact ((Below.refl _ _).alloc (Nat.le_refl _) _).drew | exact ((Below.refl _ _).drew.alloc (Nat.le_refl _) _) | exact ((Below.refl _ _).alloc (Nat.le_refl _) _)) (Nat.le_refl _) (by simp)
             have HO1 := Lib.hid ho1
             clear ho1 hg1)
          | (refine step_appF rfl (.tmp 55) (.tmp 58) rfl wr.heap.size v1 _ (by simp [Act.eval]) HO1.out (.slice (some ad) r' capx) (xs.take r') (by simp [Act.eval]) (HT.out.below (Nat.le_refl _) hbw.out) H8.out hbw.out.size ?_
             intro v2 w2 ho2 hg2
             have hbr : Hid (Below wr.heap.size wr w2) := OwnF.below HO1.out hg2 hbw.out (Nat.le_refl _) hbw.out.size
             have hbw2 : Hid (Below B w w2) := hbl.out.trans (hbr.out.mono hB1.out)
             have HO2 := Lib.hid ho2
             clear ho2 hg2))
        clear hif
        obtain ⟨f1, g1⟩ := hro0.out
        obtain ⟨f2, g2⟩ := hro.out
        have HS1 := Lib.hid (sum_any (.slice (some ad) l.length capx) xs g1 w2 (HSl.out.below (Nat.le_refl _) hbr.out))
        have HS2 := Lib.hid (fun n => sum_any v2 _ g2 (w2.drewN n) ((HO2.out.sl (by have := H8.out; simp at this ⊢; omega)).drewN n))
        generalize sumF xs = S1 at *
        generalize sumF (xs.drop r' ++ xs.take r') = S2 at *
        clear hro0 hro g1 g2
        go_wp2_with fail
        refine HS1.out.mono ?_; rintro e w3 ⟨rfl, n3, rfl⟩
        go_wp2_with fail
        refine (HS2.out _).mono ?_; rintro e w4 ⟨rfl, n4, rfl⟩
        go_wp2_with (go_at_call 12; refine (awake4_any _).mono ?_; rintro e w' ⟨rfl, hbb⟩)
        go_ret
        exact ⟨rfl, (below_drewN hbw2.out _).trans (hbb.mono (by show B ≤ w2.heap.size; have := hbw2.out.size; have := HB.out; omega))⟩

set_option maxHeartbeats 400000 in
theorem whole_big (a : Option Addr) (n cap : Nat) (kk : Int) (hl : 300 < n) (w : World) :
    Calls Try.prog 3 #[.slice a n cap, .int .i64 kk] w fun e w' => e = .returned (.bool true) ∧ Below w.heap.size w w' := by
  go_enter Try.func3, Try.ntmps3
  go_wp2_with (go_at_call 12; refine (awake4_any _).mono ?_; rintro e w' ⟨rfl, hbb⟩)
  go_ret
  exact ⟨rfl, hbb⟩

theorem walk_FsumWhole (w : World) (v : Value) (l : List Int) (h : Sl encI w v l) (_ : ∀ x ∈ l, (Lit.int .i64 x).wf = true) (_ : l.length * 8 ≤ 140737488351232) (kk : Int) (wk : (Lit.int .i64 kk).wf = true) :
    Calls Try.prog 3 #[v, .int .i64 kk] w fun e w' => e = .returned (.bool true) ∧ Below w.heap.size w w' := by
  obtain ⟨a, cap, rfl, _, _, h⟩ := h
  rcases Nat.lt_or_ge 300 l.length with hl | hl
  · exact whole_big a _ cap kk hl w
  · exact whole_small a cap l kk (bounds_i64 wk) hl w h
end Go.Proofs.Ytfnchcafebomlaa
