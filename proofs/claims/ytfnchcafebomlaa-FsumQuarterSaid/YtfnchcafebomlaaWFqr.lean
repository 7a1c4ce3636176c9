/- The walk of FsumQuarter: the law returns true. -/
import Derived.Test.YtfnchcafebomlaaQrp
import Derived.Test.YtfnchcafebomlaaQtr
import Derived.Test.YtfnchcafebomlaaWMiddle
namespace Go.Proofs.Ytfnchcafebomlaa
open Go.RowKit Fl

/-- what the loop has seen -/
def Mil (l : List Int) (k : Nat) : Prop := ∀ j (h : j < l.length), j < k → -1000000 ≤ l[j] ∧ l[j] ≤ 1000000
theorem Mil.step {l : List Int} {k : Nat} (h : Mil l k) (hk : k < l.length) (h1 : -1000000 ≤ l[k]) (h2 : l[k] ≤ 1000000) : Mil l (k + 1) := fun j hj hjk => by
  by_cases hjk' : j < k
  · exact h j hj hjk'
  · have : j = k := by omega
    subst this
    exact ⟨h1, h2⟩
theorem Mil.all {l : List Int} (h : Mil l l.length) : ∀ x ∈ l, -1000000 ≤ x ∧ x ≤ 1000000 := fun x hx => by
  obtain ⟨j, hj, rfl⟩ := List.getElem_of_mem hx
  exact h j hj hj

set_option maxHeartbeats 3200000 in
set_option maxRecDepth 8000 in
theorem quarter_some (a : Option Addr) (cap : Nat) (l : List Int) (pa pb : Nat) (h0 : 0 < l.length) (hl : l.length ≤ 200) (q1 : fge pa 0 = true) (q2 : fle pa pb = true) (q3 : fle pb 4607182418800017408 = true) (w : World)
    (hA : Hid (l = [] ∨ ∃ b o, a = some ⟨b, o, none⟩ ∧ b < w.heap.size ∧ ∀ i (h : i < l.length), w.cell? ⟨b, o + i, none⟩ = some (encI l[i]))) :
    Calls Try.prog 10 #[.slice a l.length cap, .float .f64 pa, .float .f64 pb] w fun e w' => e = .returned (.bool true) ∧ Below w.heap.size w w' := by
  generalize hB : w.heap.size = B
  have HB := Lib.hid hB
  clear hB
  have HIN := Lib.hid (parts_in q1 q2 q3)
  obtain ⟨xs, hxs⟩ : ∃ xs, xs = l.map ofInt := ⟨_, rfl⟩
  have hxl : Hid (xs.length = l.length) := by show _ = _; rw [hxs, List.length_map]
  have HXS := Lib.hid hxs
  clear hxs
  have hne : ((l.length : Int) == 0) = false := beq_eq_false_iff_ne.2 (by omega)
  have hcell0 : ∃ b o, a = some ⟨b, o, none⟩ ∧ b < B ∧ (∀ i (h : i < l.length), w.cell? ⟨b, o + i, none⟩ = some (encI l[i])) := by
    obtain h | ⟨b, o, rfl, hb, hc⟩ := hA.out
    · exfalso; rw [h] at h0; simp at h0
    · exact ⟨b, o, rfl, by rw [← HB.out]; exact hb, hc⟩
  clear hA
  obtain ⟨b, o, rfl, hb, hc⟩ := hcell0
  have HC := Lib.hid hc
  clear hc
  go_enter Try.func10, Try.ntmps10
  go_wp2
  go_loopw [7, 8] (fun vv i wr => ∃ (k : Nat) (v : Value), v = vv ∧ k ≤ l.length ∧ i = .int .i64 k ∧ Hid (OwnF wr B v (xs.take k)) ∧ Hid (Mil l k) ∧ Hid (Below B w wr)) (fun _ i _ => l.length - (intOf i).toNat)
  case atStart => exact ⟨0, _, rfl, Nat.zero_le _, rfl, OwnF.nil _ _, fun j _ h => by omega, Below.refl _ _⟩
  case round =>
    obtain ⟨k, v, rfl, hk, rfl, hown, hW, hbl⟩ := hrel
    have hB1 := Lib.hid (show B ≤ wr.heap.size from by rw [← HB.out]; exact hbl.out.size)
    by_cases hlt : k < l.length
    · have hcell : wr.cell? ⟨b, o + k, none⟩ = some (.int .i64 l[k]) := by
        rw [hbl.out.cell (p := ⟨b, o + k, none⟩) hb]; exact HC.out k hlt
      have HM := Lib.hid (map_take_succ HXS.out hlt)
      have HL : Hid ((xs.take k).length = k) := by show _ = _; rw [List.length_take, hxl.out]; omega
      by_cases hlo : l[k] < -1000000
      · go_wp2_with (go_at_call 12; refine (awake4_any _).mono ?_; rintro e w' ⟨rfl, hbb⟩)
        go_ret
        exact ⟨rfl, hbl.out.trans (hbb.mono hB1.out)⟩
      · by_cases hhi : 1000000 < l[k]
        · have hlo' : -1000000 ≤ l[k] := by omega
          clear hlo
          go_wp2_with (go_at_call 12; refine (awake4_any _).mono ?_; rintro e w' ⟨rfl, hbb⟩)
          go_ret
          exact ⟨rfl, hbl.out.trans (hbb.mono hB1.out)⟩
        · have hlo' : -1000000 ≤ l[k] := by omega
          have hhi' : l[k] ≤ 1000000 := by omega
          clear hlo hhi
          have HST := Lib.hid (hW.out.step hlt hlo' hhi')
          go_wp2_with (at_builtin; refine wpList_appF rfl _ _ rfl B _ _ rfl (hown.out.alloc _) _ _ rfl (Sl.one encF _ _ _) ?c1 ?c2 ?c3)
          case c1 => rw [HL.out]; simp; omega
          case c2 => simp; have := hB1.out; omega
          intro v' w' hown' hg
          have hb' : Hid (Below B w w') := OwnF.below (hown.out.alloc _) hg (hbl.out.alloc hB1.out _) (Nat.le_refl _) (by simp; have := hB1.out; omega)
          rw [HM.out] at hown'
          have HO := Lib.hid hown'
          clear hown' hg
          go_wp2
          exact ⟨⟨k + 1, _, rfl, by omega, by go_num, HO, HST, hb'⟩, by simp [intOf]; omega⟩
    · have hke2 : xs.take k = xs := List.take_of_length_le (by rw [hxl.out]; omega)
      rw [hke2] at hown
      have hkl : k = l.length := by omega
      subst hkl
      have hl0 : l ≠ [] := List.length_pos_iff.1 h0
      have hx64 : ∀ x ∈ xs, x < 2^64 := fun x hx => by
        rw [HXS.out] at hx
        obtain ⟨y, _, rfl⟩ := List.mem_map.1 hx
        exact ofInt_ltw y
      obtain ⟨i1, i2, i3⟩ := HIN.out
      obtain ⟨E0, E1, E2, E3, E4, E5, E6⟩ := quarter_end hl0 hl hW.out.all i1 i2 i3
      rw [← HXS.out] at E0 E1 E2 E3 E4 E5 E6
      have HV := Lib.hid (hown.out.sl (by rw [hxl.out]; omega))
      have CQ : ∀ q, inB q = true → Hid (∀ w', Below wr.heap.size wr w' → Calls Try.prog 25 #[v, .float .f64 q] w' fun e w2 => e = .returned (.tuple #[.float .f64 (quantAt (sortF xs) l.length q), .int .i64 0]) ∧ Below w'.heap.size w' w2) := fun q hq w' h => by
        have := quantile_any v xs q (by rw [hxl.out]; omega) hx64 w' (HV.out.below (Nat.le_refl _) h)
        rw [(E0 q hq).1, (E0 q hq).2] at this
        exact this
      have CA := CQ pa i1
      have CB := CQ pb i2
      have C0 := CQ 0 zero_in
      have C1 := CQ oneW one_in
      have CS : Hid (∀ w', Below wr.heap.size wr w' → Calls Try.prog 27 #[v] w' fun e w2 => ∃ g cp, e = .returned (.slice (some ⟨g, 0, none⟩) l.length cp) ∧ w2.cell? ⟨g, 0, none⟩ = some (.float .f64 ((sortF xs).getD 0 0)) ∧ w2.cell? ⟨g, l.length - 1, none⟩ = some (.float .f64 ((sortF xs).getD (l.length - 1) 0)) ∧ Below w'.heap.size w' w2) := fun w' h => by
        refine (rsort_any v xs (by rw [hxl.out]; omega) w' (HV.out.below (Nat.le_refl _) h)).mono ?_
        rintro e w2 ⟨v', s, rfl, hr, ho, hb⟩
        have hsl : s.length = l.length := by rw [hr.len, hxl.out]
        obtain ⟨n1, n2⟩ := sorted_raw hr hx64 (by omega : l.length - 1 < s.length)
        have hss := n2 (by omega) E1
        obtain ⟨g, cp, rfl, _, _, hrd⟩ := ho.read (by intro h0'; rw [h0'] at hsl; simp at hsl; omega)
        refine ⟨g, cp, by rw [hsl], ?_, ?_, hb⟩
        · rw [hrd 0 (by omega), ← hss, List.getD_eq_getElem?_getD, List.getElem?_eq_getElem (by omega)]; rfl
        · rw [hrd (l.length - 1) (by omega), ← hss, List.getD_eq_getElem?_getD, List.getElem?_eq_getElem (by omega)]; rfl
      clear hW hx64 HV hl0 hke2 hown E0 E1 CQ HXS hxl HIN i1 i2 i3 q1 q2 q3
      have hoW : oneW = 4607182418800017408 := rfl
      rw [hoW] at C1 E4 E6
      clear hoW
      generalize quantAt (sortF xs) l.length pa = VA at *
      generalize quantAt (sortF xs) l.length pb = VB at *
      generalize quantAt (sortF xs) l.length 0 = V0 at *
      generalize quantAt (sortF xs) l.length 4607182418800017408 = V1 at *
      generalize (sortF xs).getD 0 0 = s0 at *
      generalize (sortF xs).getD (l.length - 1) 0 = s1 at *
      obtain ⟨m, hm⟩ : ∃ m, l.length = m + 1 := ⟨l.length - 1, by omega⟩
      rw [hm] at CS
      have hm1 : m + 1 - 1 = m := by omega
      rw [hm1] at CS
      have hm2 : m ≤ 199 := by omega
      clear hm1 hm
      go_wp2_with fail
      refine (CA.out wr (Below.refl _ _)).mono ?_
      rintro e w1 ⟨rfl, b1⟩
      have B1 := Lib.hid b1
      clear b1
      go_wp2_with fail
      refine (CB.out w1 B1.out).mono ?_
      rintro e w2 ⟨rfl, b2⟩
      have B2 : Hid (Below wr.heap.size wr w2) := B1.out.trans (b2.mono B1.out.size)
      clear b2
      go_wp2_with fail
      refine (C0.out w2 B2.out).mono ?_
      rintro e w3 ⟨rfl, b3⟩
      have B3 : Hid (Below wr.heap.size wr w3) := B2.out.trans (b3.mono B2.out.size)
      clear b3
      go_wp2_with fail
      refine (C1.out w3 B3.out).mono ?_
      rintro e w4 ⟨rfl, b4⟩
      have B4 : Hid (Below wr.heap.size wr w4) := B3.out.trans (b4.mono B3.out.size)
      clear b4
      go_wp2_with fail
      refine (CS.out w4 B4.out).mono ?_
      rintro e w5 ⟨g, cp, rfl, hc0, hc1, b5⟩
      have B5 : Hid (Below wr.heap.size wr w5) := B4.out.trans (b5.mono B4.out.size)
      clear b5
      go_wp2_with (go_at_call 12; refine (awake4_any _).mono ?_; rintro e w' ⟨rfl, hbb⟩)
      go_ret
      exact ⟨rfl, hbl.out.trans ((B5.out.trans (hbb.mono B5.out.size)).mono hB1.out)⟩

set_option maxHeartbeats 800000 in
set_option maxRecDepth 8000 in
theorem quarter_big (a : Option Addr) (n cap pa pb : Nat) (hl : 200 < n) (w : World) :
    Calls Try.prog 10 #[.slice a n cap, .float .f64 pa, .float .f64 pb] w fun e w' => e = .returned (.bool true) ∧ Below w.heap.size w w' := by
  have hne : ((n : Int) == 0) = false := beq_eq_false_iff_ne.2 (by omega)
  go_enter Try.func10, Try.ntmps10
  go_wp2_with (go_at_call 12; refine (awake4_any _).mono ?_; rintro e w' ⟨rfl, hbb⟩)
  go_ret
  exact ⟨rfl, hbb⟩

set_option maxHeartbeats 800000 in
set_option maxRecDepth 8000 in
theorem quarter_none (a : Option Addr) (cap pa pb : Nat) (w : World) :
    Calls Try.prog 10 #[.slice a 0 cap, .float .f64 pa, .float .f64 pb] w fun e w' => e = .returned (.bool true) ∧ Below w.heap.size w w' := by
  go_enter Try.func10, Try.ntmps10
  go_wp2_with (go_at_call 12; refine (awake4_any _).mono ?_; rintro e w' ⟨rfl, hbb⟩)
  go_ret
  exact ⟨rfl, hbb⟩

set_option maxHeartbeats 800000 in
set_option maxRecDepth 8000 in
theorem quarter_off (a : Option Addr) (n cap pa pb : Nat) (h0 : 0 < n) (hl : n ≤ 200) (h : fge pa 0 = false ∨ (fge pa 0 = true ∧ fle pa pb = false) ∨ (fge pa 0 = true ∧ fle pa pb = true ∧ fle pb 4607182418800017408 = false)) (w : World) :
    Calls Try.prog 10 #[.slice a n cap, .float .f64 pa, .float .f64 pb] w fun e w' => e = .returned (.bool true) ∧ Below w.heap.size w w' := by
  have hne : ((n : Int) == 0) = false := beq_eq_false_iff_ne.2 (by omega)
  rcases h with h | ⟨h, h2⟩ | ⟨h, h2, h3⟩
  all_goals
    go_enter Try.func10, Try.ntmps10
    go_wp2_with (go_at_call 12; refine (awake4_any _).mono ?_; rintro e w' ⟨rfl, hbb⟩)
    go_ret
    exact ⟨rfl, hbb⟩

theorem walk_FsumQuarter (w : World) (v : Value) (l : List Int) (h : Sl encI w v l) (_ : ∀ x ∈ l, (Lit.int .i64 x).wf = true) (_ : l.length * 8 ≤ 140737488351232) (pa : Nat) (_ : pa < 2^64) (pb : Nat) (_ : pb < 2^64) :
    Calls Try.prog 10 #[v, .float .f64 pa, .float .f64 pb] w fun e w' => e = .returned (.bool true) ∧ Below w.heap.size w w' := by
  obtain ⟨a, cap, rfl, _, _, h⟩ := h
  rcases Nat.lt_or_ge 200 l.length with hl | hl
  · exact quarter_big a _ cap pa pb hl w
  · rcases Nat.eq_zero_or_pos l.length with h0 | h0
    · rw [h0]; exact quarter_none a cap pa pb w
    · cases q1 : fge pa 0
      · exact quarter_off a _ cap pa pb h0 hl (.inl q1) w
      · cases q2 : fle pa pb
        · exact quarter_off a _ cap pa pb h0 hl (.inr (.inl ⟨q1, q2⟩)) w
        · cases q3 : fle pb 4607182418800017408
          · exact quarter_off a _ cap pa pb h0 hl (.inr (.inr ⟨q1, q2, q3⟩)) w
          · exact quarter_some a cap l pa pb h0 hl q1 q2 q3 w h
end Go.Proofs.Ytfnchcafebomlaa
