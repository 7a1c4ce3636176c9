/- The walk of FsumDoubles: the law returns true. -/
import Derived.Test.YtfnchcafebomlaaSwc
import Derived.Test.YtfnchcafebomlaaAppF
import Derived.Test.YtfnchcafebomlaaSame
namespace Fl
def lo200 : Nat := 1614679632300144556
def hi200 : Nat := 7598952565167317594
def nlo200 : Nat := 10838051669154920364
def nhi200 : Nat := 16822324602022093402
/-- what the law asks of a number -/
def okD (x : Nat) : Bool := !fne x 0 || ((fgt x lo200 && flt x hi200) || (flt x nlo200 && fgt x nhi200))

theorem hi200_bound : fin hi200 ∧ fin nhi200 ∧ fin lo200 ∧ fin nlo200 ∧ 0 ≤ rv lo200 ∧ rv nlo200 ≤ 0 ∧ rv hi200 ≤ bigB ∧ -bigB ≤ rv nhi200 := by
  obtain ⟨b1, b2, b3, b4⟩ := w1e300_bound
  refine ⟨by decide, by decide, by decide, by decide, ?_, ?_, ?_, ?_⟩
  · unfold rv; rw [show sg lo200 = false from by decide]; have := VR_nonneg (rung lo200); unfold sv; simp; exact this
  · unfold rv; rw [show sg nlo200 = true from by decide]; have := VR_nonneg (rung nlo200); unfold sv; simp; grind
  · refine Rat.le_trans ?_ b3
    unfold rv; rw [show sg hi200 = false from by decide, show sg w1e300 = false from by decide]
    have := VR_le (show rung hi200 ≤ rung w1e300 by decide)
    unfold sv; simp; grind
  · refine Rat.le_trans b4 ?_
    unfold rv; rw [show sg nhi200 = true from by decide, show sg nw1e300 = true from by decide]
    have := VR_le (show rung nhi200 ≤ rung nw1e300 by decide)
    unfold sv; simp; grind

theorem fne_not_feq (x y : Nat) : fne x y = !feq x y := rfl

theorem inf_cmp (s : Bool) {y : Nat} (hy : fin y) : fgt (if s then ninfW else infW) y = !s ∧ flt (if s then ninfW else infW) y = s ∧ feq (if s then ninfW else infW) y = false := by
  obtain ⟨m, i, hr⟩ := fin_read hy
  have hi : D.read (if s then ninfW else infW) = .infinity s := by
    cases s
    · have := read_inf inf_is.1; rwa [inf_is.2] at this
    · have := read_inf ninf_is.1; rwa [ninf_is.2] at this
  unfold fgt flt feq Ieee.Format.order
  rw [hi, hr]
  cases s <;> exact ⟨rfl, rfl, rfl⟩

theorem okD_lim {x : Nat} (hx : x < 2^64) (h : okD x = true) : Lim 1 x := by
  obtain ⟨b1, b2, b3, b4, b5, b6, b7, b8⟩ := hi200_bound
  have one : (((1 : Nat) : Rat)) * bigB = bigB := by rw [show ((1 : Nat) : Rat) = 1 from rfl, Rat.one_mul]
  unfold okD at h
  rw [fne_not_feq, Bool.not_not] at h
  rcases kinds x with ⟨hf, _, _⟩ | ⟨_, hi, _⟩ | ⟨_, _, hn⟩
  · refine ⟨hf, ?_⟩
    rw [one]
    rw [feq_zero hf, fgt_fin hf b3, flt_fin hf b1, flt_fin hf b4, fgt_fin hf b2] at h
    simp only [Bool.or_eq_true, Bool.and_eq_true, decide_eq_true_eq] at h
    have hB := bigB_pos
    rcases h with h | ⟨h1, h2⟩ | ⟨h1, h2⟩
    · rw [h]; unfold ab; grind
    · exact ab_of_between (by grind) (by grind)
    · exact ab_of_between (by grind) (by grind)
  · exfalso
    rcases isInf_cases hx hi with rfl | rfl
    · obtain ⟨c1, c2, c3⟩ := inf_cmp false b1
      obtain ⟨d1, d2, d3⟩ := inf_cmp false b4
      obtain ⟨e1, e2, e3⟩ := inf_cmp false zero_fin.1
      simp only [Bool.false_eq_true, if_false] at c2 d2 e3
      rw [e3, c2, d2] at h; simp at h
    · obtain ⟨c1, c2, c3⟩ := inf_cmp true b3
      obtain ⟨d1, d2, d3⟩ := inf_cmp true b2
      obtain ⟨e1, e2, e3⟩ := inf_cmp true zero_fin.1
      simp only [if_true] at c1 d1 e3
      rw [e3, c1, d1] at h; simp at h
  · exfalso
    have z : ∀ y, D.order x y = none := fun y => nan_order_l y hn
    unfold feq fgt flt at h
    rw [z, z, z, z, z] at h
    revert h; decide
end Fl
namespace Go.Proofs.Ytfnchcafebomlaa
open Go.RowKit Fl

set_option maxHeartbeats 400000 in
theorem small4_any (a : Option Addr) (n cap : Nat) (w : World) :
    Calls Try.prog 15 #[.slice a n cap] w fun e w' => e = .returned (.bool (decide (n ≤ 300))) ∧ w = w' := by
  have h : decide ((n : Int) ≤ 300) = decide (n ≤ 300) := by rw [Bool.eq_iff_iff, decide_eq_true_eq, decide_eq_true_eq]; omega
  have H := Lib.hid h
  clear h
  go_enter Try.func15, Try.ntmps15
  go_wp2
  go_ret
  exact ⟨by rw [← H.out]; rfl, rfl⟩

theorem dbl_take_succ {l xs : List Nat} (hx : xs = l.map dbl) {k : Nat} (h : k < l.length) : xs.take k ++ [dbl l[k]] = xs.take (k + 1) := by
  subst hx
  rw [List.take_succ_eq_append_getElem (by simpa using h), List.getElem_map]

set_option maxHeartbeats 6400000 in
theorem doubles_small (a : Option Addr) (cap : Nat) (l : List Nat) (hl : l.length ≤ 300) (hbd : Hid (∀ x ∈ l, x < 2^64)) (w : World)
    (hA : Hid (l = [] ∨ ∃ b o, a = some ⟨b, o, none⟩ ∧ b < w.heap.size ∧ ∀ i (h : i < l.length), w.cell? ⟨b, o + i, none⟩ = some (encF l[i])))
    (hS : Hid (Sl encF w (.slice a l.length cap) l)) :
    Calls Try.prog 5 #[.slice a l.length cap] w fun e w' => e = .returned (.bool true) ∧ Below w.heap.size w w' := by
  generalize hB : w.heap.size = B
  have HB := Lib.hid hB
  clear hB
  obtain ⟨xs, hxs⟩ : ∃ xs, xs = l.map dbl := ⟨_, rfl⟩
  have hxl : Hid (xs.length = l.length) := by show _ = _; rw [hxs, List.length_map]
  have HXS := Lib.hid hxs
  clear hxs
  have hsm : decide (l.length ≤ 300) = true := decide_eq_true hl
  go_enter Try.func5, Try.ntmps5
  go_wp2_with (go_at_call 15; refine (small4_any _ _ _ _).mono ?_; rintro e w' ⟨rfl, rfl⟩)
  go_loopw [3, 4, 5] (fun v i _ wr => ∃ (k : Nat), k ≤ l.length ∧ i = .int .i64 k ∧ Hid (OwnF wr B v (xs.take k)) ∧ Hid (∀ j (h : j < l.length), j < k → Lim 1 l[j]) ∧ Hid (Below B w wr)) (fun _ i _ _ => l.length - (intOf i).toNat)
  case atStart => exact ⟨0, Nat.zero_le _, rfl, OwnF.nil _ _, fun j _ h => by omega, Below.refl _ _⟩
  case round =>
    obtain ⟨k, hk, rfl, hown, hW, hbl⟩ := hrel
    have hB1 := Lib.hid (show B ≤ wr.heap.size from by rw [← HB.out]; exact hbl.out.size)
    by_cases hlt : k < l.length
    · obtain h0 | ⟨b, o, rfl, hb, hc⟩ := hA.out
      · exfalso; rw [h0] at hlt; simp at hlt
      have hcell : wr.cell? ⟨b, o + k, none⟩ = some (.float .f64 l[k]) := by
        rw [hbl.out.cell (p := ⟨b, o + k, none⟩) (by rw [← HB.out]; exact hb)]; exact hc k hlt
      clear hc
      have HM := Lib.hid (dbl_take_succ HXS.out hlt)
      have HL : Hid ((xs.take k).length = k) := by show _ = _; rw [List.length_take, hxl.out]; omega
      have HX : Hid (∀ j (h : j < l.length), j < k + 1 → j < k ∨ j = k) := fun j _ h => by omega
      have HN : Hid (Lim 1 l[k] → Hid (∀ j (h : j < l.length), j < k + 1 → Lim 1 l[j])) := fun hl j h h' => by
        rcases HX.out j h h' with h2 | h2
        · exact hW.out j h h2
        · subst h2; exact hl
      have HM2 : Hid (∀ v' w', OwnF w' B v' (xs.take k ++ [fadd l[k] l[k]]) → Hid (OwnF w' B v' (xs.take (k + 1)))) := fun v' w' h => by
        have h' : OwnF w' B v' (xs.take k ++ [dbl l[k]]) := h
        rw [HM.out] at h'; exact h'
      cases h1 : fne l[k] 0
      · skip
        have hlim : Hid (Lim 1 l[k]) := okD_lim (hbd.out _ (List.getElem_mem hlt)) (by unfold okD lo200 hi200 nlo200 nhi200; simp [h1])
        go_wp2_with (first | (refine wpList_fadd _ rfl _ _ _ _ rfl _ _ rfl rfl ?_; intro za na hza hla; obtain rfl := eq_of_canon hza (fin_not_nan (hlim.out.add hlim.out (by omega)).1); clear hza hla) | (at_builtin; refine wpList_appF rfl _ _ rfl B _ _ rfl ((hown.out.drewN _).alloc _) _ _ rfl (Sl.one encF _ _ _) ?a0 ?b0 ?c0))
        case a0 => rw [HL.out]; simp; omega
        case b0 => simp; have := hB1.out; omega
        intro v' w' hown' hg
        have hW' := HN.out hlim.out
        have hb' : Hid (Below B w w') := OwnF.below ((hown.out.drewN _).alloc _) hg ((below_drewN hbl.out _).alloc hB1.out _) (Nat.le_refl _) (by simp; have := hB1.out; omega)
        have HOW := HM2.out _ _ hown'
        clear hown' hg
        go_wp2
        exact ⟨⟨k + 1, by omega, by go_num, HOW, hW', hb'⟩, by simp [intOf]; omega⟩
      · skip
        cases h2 : fgt l[k] 1614679632300144556
        · skip
          cases h4 : flt l[k] 10838051669154920364
          · skip
            go_wp2_with (go_at_call 12; refine (awake4_any _).mono ?_; rintro e w' ⟨rfl, hbb⟩)
            go_ret
            exact ⟨rfl, hbl.out.trans (hbb.mono hB1.out)⟩
          · skip
            cases h5 : fgt l[k] 16822324602022093402
            · skip
              go_wp2_with (go_at_call 12; refine (awake4_any _).mono ?_; rintro e w' ⟨rfl, hbb⟩)
              go_ret
              exact ⟨rfl, hbl.out.trans (hbb.mono hB1.out)⟩
            · skip
              have hlim : Hid (Lim 1 l[k]) := okD_lim (hbd.out _ (List.getElem_mem hlt)) (by unfold okD lo200 hi200 nlo200 nhi200; simp [h1, h2, h4, h5])
              go_wp2_with (first | (refine wpList_fadd _ rfl _ _ _ _ rfl _ _ rfl rfl ?_; intro za na hza hla; obtain rfl := eq_of_canon hza (fin_not_nan (hlim.out.add hlim.out (by omega)).1); clear hza hla) | (at_builtin; refine wpList_appF rfl _ _ rfl B _ _ rfl ((hown.out.drewN _).alloc _) _ _ rfl (Sl.one encF _ _ _) ?a1 ?b1 ?c1))
              case a1 => rw [HL.out]; simp; omega
              case b1 => simp; have := hB1.out; omega
              intro v' w' hown' hg
              have hW' := HN.out hlim.out
              have hb' : Hid (Below B w w') := OwnF.below ((hown.out.drewN _).alloc _) hg ((below_drewN hbl.out _).alloc hB1.out _) (Nat.le_refl _) (by simp; have := hB1.out; omega)
              have HOW := HM2.out _ _ hown'
              clear hown' hg
              go_wp2
              exact ⟨⟨k + 1, by omega, by go_num, HOW, hW', hb'⟩, by simp [intOf]; omega⟩
        · skip
          cases h3 : flt l[k] 7598952565167317594
          · skip
            cases h4 : flt l[k] 10838051669154920364
            · skip
              go_wp2_with (go_at_call 12; refine (awake4_any _).mono ?_; rintro e w' ⟨rfl, hbb⟩)
              go_ret
              exact ⟨rfl, hbl.out.trans (hbb.mono hB1.out)⟩
            · skip
              cases h5 : fgt l[k] 16822324602022093402
              · skip
                go_wp2_with (go_at_call 12; refine (awake4_any _).mono ?_; rintro e w' ⟨rfl, hbb⟩)
                go_ret
                exact ⟨rfl, hbl.out.trans (hbb.mono hB1.out)⟩
              · skip
                have hlim : Hid (Lim 1 l[k]) := okD_lim (hbd.out _ (List.getElem_mem hlt)) (by unfold okD lo200 hi200 nlo200 nhi200; simp [h1, h2, h3, h4, h5])
                go_wp2_with (first | (refine wpList_fadd _ rfl _ _ _ _ rfl _ _ rfl rfl ?_; intro za na hza hla; obtain rfl := eq_of_canon hza (fin_not_nan (hlim.out.add hlim.out (by omega)).1); clear hza hla) | (at_builtin; refine wpList_appF rfl _ _ rfl B _ _ rfl ((hown.out.drewN _).alloc _) _ _ rfl (Sl.one encF _ _ _) ?a2 ?b2 ?c2))
                case a2 => rw [HL.out]; simp; omega
                case b2 => simp; have := hB1.out; omega
                intro v' w' hown' hg
                have hW' := HN.out hlim.out
                have hb' : Hid (Below B w w') := OwnF.below ((hown.out.drewN _).alloc _) hg ((below_drewN hbl.out _).alloc hB1.out _) (Nat.le_refl _) (by simp; have := hB1.out; omega)
                have HOW := HM2.out _ _ hown'
                clear hown' hg
                go_wp2
                exact ⟨⟨k + 1, by omega, by go_num, HOW, hW', hb'⟩, by simp [intOf]; omega⟩
          · skip
            have hlim : Hid (Lim 1 l[k]) := okD_lim (hbd.out _ (List.getElem_mem hlt)) (by unfold okD lo200 hi200 nlo200 nhi200; simp [h1, h2, h3])
            go_wp2_with (first | (refine wpList_fadd _ rfl _ _ _ _ rfl _ _ rfl rfl ?_; intro za na hza hla; obtain rfl := eq_of_canon hza (fin_not_nan (hlim.out.add hlim.out (by omega)).1); clear hza hla) | (at_builtin; refine wpList_appF rfl _ _ rfl B _ _ rfl ((hown.out.drewN _).alloc _) _ _ rfl (Sl.one encF _ _ _) ?a3 ?b3 ?c3))
            case a3 => rw [HL.out]; simp; omega
            case b3 => simp; have := hB1.out; omega
            intro v' w' hown' hg
            have hW' := HN.out hlim.out
            have hb' : Hid (Below B w w') := OwnF.below ((hown.out.drewN _).alloc _) hg ((below_drewN hbl.out _).alloc hB1.out _) (Nat.le_refl _) (by simp; have := hB1.out; omega)
            have HOW := HM2.out _ _ hown'
            clear hown' hg
            go_wp2
            exact ⟨⟨k + 1, by omega, by go_num, HOW, hW', hb'⟩, by simp [intOf]; omega⟩
    · have hke : xs.take k = xs := List.take_of_length_le (by rw [hxl.out]; omega)
      have hkl : k = l.length := by omega
      subst hkl
      rw [hke] at hown
      have hlim : ∀ x ∈ l, Lim 1 x ∧ x < 2^64 := fun x hx => by
        obtain ⟨j, hj, rfl⟩ := List.getElem_of_mem hx
        exact ⟨hW.out j hj hj, hbd.out _ hx⟩
      have hsd := sum_double l hl hlim
      rw [← HXS.out] at hsd
      have hx64 : ∀ x ∈ xs, x < 2^64 := fun x hx => by
        rw [HXS.out] at hx
        obtain ⟨y, _, rfl⟩ := List.mem_map.1 hx
        exact fadd_lt64 _ _
      have HS1 : Hid (Calls Try.prog 14 #[.slice a l.length cap] wr fun e w' => e = .returned (.float .f64 (sumF l)) ∧ ∃ m, w' = wr.drewN m) :=
        sum_any _ l hbd.out wr (hS.out.below (Nat.le_of_eq HB.out) hbl.out)
      have HS2 := Lib.hid (fun n => sum_any _ xs hx64 (wr.drewN n) ((hown.out.sl (by rw [hxl.out]; omega)).drewN n))
      have HC : Hid (∀ z, canon z = fadd (sumF l) (sumF l) → Hid ((canon (sumF xs) == canon z) = true)) := fun z hz => by
        show _ = true
        rw [hz, canon_sumF, hsd]; exact beq_self_eq_true _
      clear hlim hsd hx64 hke
      generalize sumF xs = S2 at *
      generalize sumF l = S at *
      cases t1 : fne S 0
      · skip
        go_wp2_with fail
        refine HS1.out.mono ?_; rintro e w' ⟨rfl, n3, rfl⟩
        go_wp2_with (first
          | (go_at_call 14; refine (HS2.out _).mono ?_; rintro e w' ⟨rfl, n4, rfl⟩)
          | (refine wpList_fadd _ rfl _ _ _ _ rfl _ _ rfl rfl ?_; intro za na hza hla; have HZ := HC.out _ hza; clear hza hla)
          | (go_at_call 17; refine (same_any _ _ _).mono ?_; rintro e w' ⟨rfl, rfl⟩; rw [HZ.out])
          | (go_at_call 12; refine (awake4_any _).mono ?_; rintro e w' ⟨rfl, hbb⟩))
        go_ret
        exact ⟨rfl, hbl.out.trans ((below_drewN (Below.refl _ _) _).trans (hbb.mono hB1.out))⟩
      · skip
        cases t2 : flt S 1614679632300144556
        · skip
          go_wp2_with fail
          refine HS1.out.mono ?_; rintro e w' ⟨rfl, n3, rfl⟩
          go_wp2_with (first
            | (go_at_call 14; refine (HS2.out _).mono ?_; rintro e w' ⟨rfl, n4, rfl⟩)
            | (refine wpList_fadd _ rfl _ _ _ _ rfl _ _ rfl rfl ?_; intro za na hza hla; have HZ := HC.out _ hza; clear hza hla)
            | (go_at_call 17; refine (same_any _ _ _).mono ?_; rintro e w' ⟨rfl, rfl⟩; rw [HZ.out])
            | (go_at_call 12; refine (awake4_any _).mono ?_; rintro e w' ⟨rfl, hbb⟩))
          go_ret
          exact ⟨rfl, hbl.out.trans ((below_drewN (Below.refl _ _) _).trans (hbb.mono hB1.out))⟩
        · skip
          cases t3 : fgt S 10838051669154920364
          · skip
            go_wp2_with fail
            refine HS1.out.mono ?_; rintro e w' ⟨rfl, n3, rfl⟩
            go_wp2_with (first
              | (go_at_call 14; refine (HS2.out _).mono ?_; rintro e w' ⟨rfl, n4, rfl⟩)
              | (refine wpList_fadd _ rfl _ _ _ _ rfl _ _ rfl rfl ?_; intro za na hza hla; have HZ := HC.out _ hza; clear hza hla)
              | (go_at_call 17; refine (same_any _ _ _).mono ?_; rintro e w' ⟨rfl, rfl⟩; rw [HZ.out])
              | (go_at_call 12; refine (awake4_any _).mono ?_; rintro e w' ⟨rfl, hbb⟩))
            go_ret
            exact ⟨rfl, hbl.out.trans ((below_drewN (Below.refl _ _) _).trans (hbb.mono hB1.out))⟩
          · skip
            go_wp2_with fail
            refine HS1.out.mono ?_; rintro e w' ⟨rfl, n3, rfl⟩
            go_wp2_with (first
              | (go_at_call 12; refine (awake4_any _).mono ?_; rintro e w' ⟨rfl, hbb⟩))
            go_ret
            exact ⟨rfl, hbl.out.trans ((below_drewN (Below.refl _ _) _).trans (hbb.mono hB1.out))⟩

set_option maxHeartbeats 400000 in
theorem doubles_big (a : Option Addr) (n cap : Nat) (hl : 300 < n) (w : World) :
    Calls Try.prog 5 #[.slice a n cap] w fun e w' => e = .returned (.bool true) ∧ Below w.heap.size w w' := by
  have hsm : decide (n ≤ 300) = false := decide_eq_false (by omega)
  go_enter Try.func5, Try.ntmps5
  go_wp2_with (first | (go_at_call 15; refine (small4_any _ _ _ _).mono ?_; rintro e w' ⟨rfl, rfl⟩) | (go_at_call 12; refine (awake4_any _).mono ?_; rintro e w' ⟨rfl, hbb⟩))
  go_ret
  exact ⟨rfl, hbb⟩

theorem walk_FsumDoubles (w : World) (v : Value) (l : List Nat) (h : Sl encF w v l) (hb : ∀ x ∈ l, x < 2^64) (_ : l.length * 8 ≤ 140737488351232) :
    Calls Try.prog 5 #[v] w fun e w' => e = .returned (.bool true) ∧ Below w.heap.size w w' := by
  have h' := h
  obtain ⟨a, cap, rfl, _, _, h⟩ := h
  rcases Nat.lt_or_ge 300 l.length with hl | hl
  · exact doubles_big a _ cap hl w
  · exact doubles_small a cap l hl hb w h h'
end Go.Proofs.Ytfnchcafebomlaa
