/- The walk of FsumMiddle: the law returns true. -/
import Derived.Test.YtfnchcafebomlaaSpq
import Derived.Test.YtfnchcafebomlaaWWhole
namespace Fl
open Go
/-- what is known of the numbers that the loop has seen -/
def Mid (l : List Int) (k : Nat) (lo hi : Int) : Prop := lo ∈ l ∧ hi ∈ l ∧ (∀ j (h : j < l.length), j < k → lo ≤ l[j] ∧ l[j] ≤ hi ∧ -1000000 ≤ l[j] ∧ l[j] ≤ 1000000)
theorem Mid.start {l : List Int} (h : 0 < l.length) : Mid l 0 l[0] l[0] := ⟨List.getElem_mem h, List.getElem_mem h, fun j _ h => by omega⟩
theorem Mid.step {l : List Int} {k : Nat} {lo hi lo' hi' : Int} (h : Mid l k lo hi) (hk : k < l.length) (h1 : -1000000 ≤ l[k]) (h2 : l[k] ≤ 1000000)
    (hlo : lo' = if l[k] < lo then l[k] else lo) (hhi : hi' = if hi < l[k] then l[k] else hi) : Mid l (k + 1) lo' hi' := by
  obtain ⟨a, b, c⟩ := h
  refine ⟨?_, ?_, fun j hj hjk => ?_⟩
  · rw [hlo]; split
    · exact List.getElem_mem hk
    · exact a
  · rw [hhi]; split
    · exact List.getElem_mem hk
    · exact b
  · by_cases hjk' : j < k
    · have := c j hj hjk'
      subst hlo hhi
      refine ⟨?_, ?_, this.2.2⟩
      · split <;> omega
      · split <;> omega
    · have : j = k := by omega
      subst this
      subst hlo hhi
      refine ⟨?_, ?_, h1, h2⟩
      · split <;> omega
      · split <;> omega
theorem Mid.all {l : List Int} {lo hi : Int} (h : Mid l l.length lo hi) : (∀ x ∈ l, lo ≤ x ∧ x ≤ hi) ∧ -1000000 ≤ lo ∧ hi ≤ 1000000 := by
  obtain ⟨a, b, c⟩ := h
  have d : ∀ x ∈ l, lo ≤ x ∧ x ≤ hi ∧ -1000000 ≤ x ∧ x ≤ 1000000 := fun x hx => by
    obtain ⟨j, hj, rfl⟩ := List.getElem_of_mem hx
    exact c j hj hj
  exact ⟨fun x hx => ⟨(d x hx).1, (d x hx).2.1⟩, (d _ a).2.2.1, (d _ b).2.2.2⟩
theorem middle_end {l : List Int} {lo hi : Int} (h0 : l ≠ []) (hl : l.length ≤ 200) (h : Mid l l.length lo hi) :
    fge (meanF (l.map ofInt)) (floatOfInt .f64 lo) = true ∧ fle (meanF (l.map ofInt)) (floatOfInt .f64 hi) = true ∧ fge (spreadV (l.map ofInt)) 0 = true ∧ feq (spreadV (l.map ofInt)) 0 = (lo == hi) := by
  obtain ⟨a, b, c⟩ := h.all
  obtain ⟨m1, m2, m3⟩ := mean_between l lo hi h0 (by omega) a b c
  have hlh := a lo h.1
  obtain ⟨o1, o2⟩ := ofInt_fin lo (by omega)
  obtain ⟨o3, o4⟩ := ofInt_fin hi (by omega)
  obtain ⟨s1, s2⟩ := spread_whole l lo hi h0 hl a h.1 h.2.1 b c
  refine ⟨?_, ?_, s1, s2⟩
  · show fge _ (ofInt lo) = true
    rw [fge_eq, fle_fin o1 m1, o2]; simpa using m2
  · show fle _ (ofInt hi) = true
    rw [fle_fin m1 o3, o4]; simpa using m3
end Fl
namespace Go.Proofs.Ytfnchcafebomlaa
open Go.RowKit Fl

set_option maxHeartbeats 3200000 in
set_option maxRecDepth 8000 in
theorem middle_some (a : Option Addr) (cap : Nat) (l : List Int) (h0 : 0 < l.length) (hl : l.length ≤ 200) (w : World)
    (hA : Hid (l = [] ∨ ∃ b o, a = some ⟨b, o, none⟩ ∧ b < w.heap.size ∧ ∀ i (h : i < l.length), w.cell? ⟨b, o + i, none⟩ = some (encI l[i]))) :
    Calls Try.prog 7 #[.slice a l.length cap] w fun e w' => e = .returned (.bool true) ∧ Below w.heap.size w w' := by
  generalize hB : w.heap.size = B
  have HB := Lib.hid hB
  clear hB
  obtain ⟨xs, hxs⟩ : ∃ xs, xs = l.map ofInt := ⟨_, rfl⟩
  have hxl : Hid (xs.length = l.length) := by show _ = _; rw [hxs, List.length_map]
  have HXS := Lib.hid hxs
  clear hxs
  have hne : ((l.length : Int) == 0) = false := beq_eq_false_iff_ne.2 (by omega)
  have hcell0 : ∃ b o, a = some ⟨b, o, none⟩ ∧ b < B ∧ (∀ i (h : i < l.length), w.cell? ⟨b, o + i, none⟩ = some (encI l[i])) := by
    obtain h | ⟨b, o, rfl, hb, hc⟩ := hA.out
    · exfalso; rw [h] at h0; simp at h0
    · exact ⟨b, o, rfl, by rw [← HB.out]; exact hb, hc⟩
  clear hA
  obtain ⟨b, o, rfl, hb, hc⟩ := hcell0
  have HC := Lib.hid hc
  have hc0 : w.cell? ⟨b, o, none⟩ = some (.int .i64 l[0]) := hc 0 h0
  clear hc
  have HM0 := Lib.hid (Mid.start h0)
  generalize l[0] = z0 at *
  go_enter Try.func7, Try.ntmps7
  go_wp2
  go_loopw [3, 4, 5, 6] (fun v lo hi i wr => ∃ (k : Nat) (lo' hi' : Int), k ≤ l.length ∧ i = .int .i64 k ∧ lo = .int .i64 lo' ∧ hi = .int .i64 hi' ∧ Hid (OwnF wr B v (xs.take k)) ∧ Hid (Mid l k lo' hi') ∧ Hid (Below B w wr)) (fun _ _ _ i _ => l.length - (intOf i).toNat)
  case atStart => exact ⟨0, z0, z0, Nat.zero_le _, rfl, rfl, rfl, OwnF.nil _ _, HM0, Below.refl _ _⟩
  case round =>
    obtain ⟨k, lo, hi, hk, rfl, rfl, rfl, hown, hW, hbl⟩ := hrel
    have hB1 := Lib.hid (show B ≤ wr.heap.size from by rw [← HB.out]; exact hbl.out.size)
    by_cases hlt : k < l.length
    · have hcell : wr.cell? ⟨b, o + k, none⟩ = some (.int .i64 l[k]) := by
        rw [hbl.out.cell (p := ⟨b, o + k, none⟩) hb]; exact HC.out k hlt
      have HM := Lib.hid (map_take_succ HXS.out hlt)
      have HL : Hid ((xs.take k).length = k) := by show _ = _; rw [List.length_take, hxl.out]; omega
      by_cases hlo : l[k] < -1000000
      · go_wp2_with (go_at_call 12; refine (awake4_any _).mono ?_; rintro e w' ⟨rfl, hbb⟩)
        go_ret
        exact ⟨rfl, hbl.out.trans (hbb.mono hB1.out)⟩
      · by_cases hhi : 1000000 < l[k]
        · have hlo' : -1000000 ≤ l[k] := by omega
          clear hlo
          go_wp2_with (go_at_call 12; refine (awake4_any _).mono ?_; rintro e w' ⟨rfl, hbb⟩)
          go_ret
          exact ⟨rfl, hbl.out.trans (hbb.mono hB1.out)⟩
        · have hlo' : -1000000 ≤ l[k] := by omega
          have hhi' : l[k] ≤ 1000000 := by omega
          clear hlo hhi
          have HST := Lib.hid (fun lo' hi' => hW.out.step hlt hlo' hhi' (lo' := lo') (hi' := hi'))
          go_wp2_with (at_builtin; refine wpList_appF rfl _ _ rfl B _ _ rfl (hown.out.alloc _) _ _ rfl (Sl.one encF _ _ _) ?c1 ?c2 ?c3)
          case c1 => rw [HL.out]; simp; omega
          case c2 => simp; have := hB1.out; omega
          intro v' w' hown' hg
          have hb' : Hid (Below B w w') := OwnF.below (hown.out.alloc _) hg (hbl.out.alloc hB1.out _) (Nat.le_refl _) (by simp; have := hB1.out; omega)
          have hcell' : w'.cell? ⟨b, o + k, none⟩ = some (.int .i64 l[k]) := by
            rw [hb'.out.cell (p := ⟨b, o + k, none⟩) hb]; exact HC.out k hlt
          rw [HM.out] at hown'
          have HO := Lib.hid hown'
          clear hown' hg
          go_wp2
          exact ⟨⟨k + 1, _, _, by omega, by go_num, rfl, rfl, HO, HST.out _ _ rfl rfl, hb'⟩, by simp [intOf]; omega⟩
    · have hke2 : xs.take k = xs := List.take_of_length_le (by rw [hxl.out]; omega)
      rw [hke2] at hown
      have hkl : k = l.length := by omega
      subst hkl
      have hl0 : l ≠ [] := List.length_pos_iff.1 h0
      have hx0 : xs ≠ [] := fun h => by have := hxl.out; rw [h] at this; simp at this; omega
      have hx64 : ∀ x ∈ xs, x < 2^64 := fun x hx => by
        rw [HXS.out] at hx
        obtain ⟨y, _, rfl⟩ := List.mem_map.1 hx
        exact ofInt_lt y
      have hE := middle_end hl0 hl hW.out
      rw [← HXS.out] at hE
      have HV := Lib.hid (hown.out.sl (by rw [hxl.out]; omega))
      have C1 := mean_any _ xs hx64 wr HV.out
      have C2 := fun n => spread_any _ xs hx64 (by rw [hxl.out]; omega) (wr.drewN n) (HV.out.drewN n)
      rw [show meanV xs = meanF xs from if_neg hx0, show meanE xs = 0 from if_neg hx0] at C1
      rw [show meanE xs = 0 from if_neg hx0] at C2
      have C1 := Lib.hid C1
      have C2 := Lib.hid C2
      obtain ⟨e1, e2, e3, e4⟩ := hE
      clear hW hx64 HV hl0 hx0 hke2 hown
      generalize meanF xs = M at *
      generalize spreadV xs = SP at *
      cases hlh : lo == hi
      · rw [hlh] at e4
        clear HXS hxl
        go_wp2_with fail
        refine C1.out.mono ?_; rintro e w1 ⟨rfl, n1, rfl⟩
        go_wp2_with fail
        refine (C2.out _).mono ?_; rintro e w2 ⟨rfl, b2⟩
        have B2 : Hid (Below B w w2) := (below_drewN hbl.out n1).trans (b2.mono hB1.out)
        clear b2
        go_wp2_with (go_at_call 12; refine (awake4_any _).mono ?_; rintro e w' ⟨rfl, hbb⟩)
        go_ret
        exact ⟨rfl, B2.out.trans (hbb.mono (by have := B2.out.size; have := HB.out; omega))⟩
      · rw [hlh] at e4
        clear HXS hxl
        go_wp2_with fail
        refine C1.out.mono ?_; rintro e w1 ⟨rfl, n1, rfl⟩
        go_wp2_with fail
        refine (C2.out _).mono ?_; rintro e w2 ⟨rfl, b2⟩
        have B2 : Hid (Below B w w2) := (below_drewN hbl.out n1).trans (b2.mono hB1.out)
        clear b2
        go_wp2_with (go_at_call 12; refine (awake4_any _).mono ?_; rintro e w' ⟨rfl, hbb⟩)
        go_ret
        exact ⟨rfl, B2.out.trans (hbb.mono (by have := B2.out.size; have := HB.out; omega))⟩

set_option maxHeartbeats 800000 in
set_option maxRecDepth 8000 in
theorem middle_big (a : Option Addr) (n cap : Nat) (hl : 200 < n) (w : World) :
    Calls Try.prog 7 #[.slice a n cap] w fun e w' => e = .returned (.bool true) ∧ Below w.heap.size w w' := by
  have hne : ((n : Int) == 0) = false := beq_eq_false_iff_ne.2 (by omega)
  go_enter Try.func7, Try.ntmps7
  go_wp2_with (go_at_call 12; refine (awake4_any _).mono ?_; rintro e w' ⟨rfl, hbb⟩)
  go_ret
  exact ⟨rfl, hbb⟩

set_option maxHeartbeats 800000 in
set_option maxRecDepth 8000 in
theorem middle_none (a : Option Addr) (cap : Nat) (w : World) :
    Calls Try.prog 7 #[.slice a 0 cap] w fun e w' => e = .returned (.bool true) ∧ Below w.heap.size w w' := by
  go_enter Try.func7, Try.ntmps7
  go_wp2_with (go_at_call 12; refine (awake4_any _).mono ?_; rintro e w' ⟨rfl, hbb⟩)
  go_ret
  exact ⟨rfl, hbb⟩

theorem walk_FsumMiddle (w : World) (v : Value) (l : List Int) (h : Sl encI w v l) (_ : ∀ x ∈ l, (Lit.int .i64 x).wf = true) (_ : l.length * 8 ≤ 140737488351232) :
    Calls Try.prog 7 #[v] w fun e w' => e = .returned (.bool true) ∧ Below w.heap.size w w' := by
  obtain ⟨a, cap, rfl, _, _, h⟩ := h
  rcases Nat.lt_or_ge 200 l.length with hl | hl
  · exact middle_big a _ cap hl w
  · rcases Nat.eq_zero_or_pos l.length with h0 | h0
    · rw [h0]; exact middle_none a cap w
    · exact middle_some a cap l h0 hl w h
end Go.Proofs.Ytfnchcafebomlaa
