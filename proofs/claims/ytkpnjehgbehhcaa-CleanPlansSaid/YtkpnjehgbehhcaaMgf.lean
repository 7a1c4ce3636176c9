/- The reference's way to the zone that is worth most: the first full one in the ranking of all. Plain. The reference's Next: the walk. The reference's Run: the walk. The walk of CleanPlans: the law returns true. -/
import Derived.Test.YtkpnjehgbehhcaaCep
import Derived.Test.YtkpnjehgbehhcaaRzw
import Derived.Deep.RegionHeld3
import Derived.Test.YtkpnjehgbehhcaaRnw
import Derived.Test.YtkpnjehgbehhcaaCpr
namespace Go.Proofs.Ytkpnjehgbehhcaa
open Go.RowKit Fl

def fullB (L : List (List Cp)) (size : Int) (i : Nat) : Bool := !decide (((L.getD i []).length : Int) < size)
/-- the ranking of all zones -/
def allR (V : Int → List Int) (L : List (List Cp)) (size hz now : Int) : List Nat := rankL (scS (zonesV V size hz L) now) (okB (zonesV V size hz L) now) (zonesV V size hz L).length
theorem map_getD {α : Type} (l : List α) (d : α) : (List.range l.length).map (fun j => l.getD j d) = l := by
  refine List.ext_getElem (by simp) fun i h1 h2 => ?_
  rw [List.getElem_map, List.getElem_range, List.getD_eq_getElem?_getD, List.getElem?_eq_getElem h2]
  rfl
theorem allR_full (V : Int → List Int) (L : List (List Cp)) (size hz now : Int) :
    (nextR V L size hz now).map (fun j => (fullN L size L.length).getD j 0) = (allR V L size hz now).filter (fullB L size) := by
  have h1 := nextR_is V L size hz now
  have h2 : IsRank (scS (zonesV V size hz L) now) (okB (zonesV V size hz L) now) L.length (allR V L size hz now) := by
    have h := rankL_is (scS (zonesV V size hz L) now) (okB (zonesV V size hz L) now) (zonesV V size hz L).length
    rw [zonesV_len] at h
    unfold allR
    rw [zonesV_len]
    exact h
  have hget : ∀ j, j < (fullN L size L.length).length → (zonesV V size hz L).getD ((fullN L size L.length).getD j 0) (0, 0, 0) = (fullZ V size hz L L.length).getD j (0, 0, 0) := fun j hj => by
    rw [fullZ_get hj, zonesV_get (fullN_mem hj).1]
  have hok : ∀ j, j < (fullN L size L.length).length → okB (zonesV V size hz L) now ((fullN L size L.length).getD j 0) = okB (fullZ V size hz L L.length) now j := fun j hj => by
    unfold okB; rw [hget j hj]
  have hsc : ∀ j, j < (fullN L size L.length).length → scS (zonesV V size hz L) now ((fullN L size L.length).getD j 0) = scS (fullZ V size hz L L.length) now j := fun j hj => by
    unfold scS; rw [hok j hj, hget j hj]
  have hsorted : (fullN L size L.length).Pairwise (· < ·) := List.pairwise_lt_range.filter _
  have hmono : ∀ {i j : Nat}, i ≤ j → j < (fullN L size L.length).length → (fullN L size L.length).getD i 0 ≤ (fullN L size L.length).getD j 0 := fun {i j} hij hj => by
    rcases Nat.eq_or_lt_of_le hij with e | e
    · rw [e]; exact Nat.le_refl _
    · rw [List.getD_eq_getElem?_getD, List.getElem?_eq_getElem (by omega : i < _), List.getD_eq_getElem?_getD, List.getElem?_eq_getElem hj]
      exact Nat.le_of_lt ((List.pairwise_iff_getElem.1 hsorted) i j (by omega) hj e)
  have hlt : ∀ a, a ∈ nextR V L size hz now → a < (fullN L size L.length).length := fun a ha => by
    have := List.mem_filter.1 (h1.1.mem_iff.1 ha)
    rw [← fullZ_len V size hz L L.length]
    simpa using this.1
  have A : IsRank (scS (zonesV V size hz L) now) (fun i => okB (zonesV V size hz L) now i && fullB L size i) L.length ((allR V L size hz now).filter (fullB L size)) := by
    refine ⟨?_, h2.2.filter _⟩
    have := h2.1.filter (fullB L size)
    rw [List.filter_filter] at this
    exact this.trans (List.Perm.of_eq (List.filter_congr fun i _ => Bool.and_comm _ _))
  have C : IsRank (scS (zonesV V size hz L) now) (fun i => okB (zonesV V size hz L) now i && fullB L size i) L.length ((nextR V L size hz now).map fun j => (fullN L size L.length).getD j 0) := by
    refine ⟨?_, ?_⟩
    · refine (h1.1.map _).trans (List.Perm.of_eq ?_)
      rw [fullZ_len]
      have e1 : (List.range (fullN L size L.length).length).filter (okB (fullZ V size hz L L.length) now) = (List.range (fullN L size L.length).length).filter ((okB (zonesV V size hz L) now) ∘ fun j => (fullN L size L.length).getD j 0) :=
        List.filter_congr fun j hj => (hok j (List.mem_range.1 hj)).symm
      rw [e1, ← List.filter_map, map_getD]
      show ((List.range L.length).filter (fullB L size)).filter (okB (zonesV V size hz L) now) = _
      rw [List.filter_filter]
    · rw [List.pairwise_map]
      refine h1.2.imp_of_mem ?_
      intro a b ha hb hab
      unfold rkLe at hab ⊢
      rw [hsc a (hlt a ha), hsc b (hlt b hb)]
      rcases hab with h | ⟨h, h'⟩
      · exact .inl h
      · exact .inr ⟨h, hmono h' (hlt b hb)⟩
  exact C.unique A
theorem filter_head {p : Nat → Bool} : ∀ {l : List Nat} {i : Nat}, i < l.length → p (l.getD i 0) = true → (∀ j, j < i → p (l.getD j 0) = false) → (l.filter p).headD 0 = l.getD i 0 ∧ l.filter p ≠ [] := by
  intro l
  induction l with
  | nil => intro i h; simp at h
  | cons x l ih =>
    intro i h h1 h2
    cases i with
    | zero =>
      rw [List.getD_cons_zero] at h1 ⊢
      rw [List.filter_cons_of_pos h1]
      exact ⟨rfl, by simp⟩
    | succ i =>
      have h0 := h2 0 (by omega)
      rw [List.getD_cons_zero] at h0
      rw [List.getD_cons_succ] at h1 ⊢
      rw [List.filter_cons_of_neg (by rw [h0]; decide)]
      exact ih (by simpa using h) h1 fun j hj => by
        have := h2 (j + 1) (by omega)
        rwa [List.getD_cons_succ] at this
theorem filter_none {p : Nat → Bool} {l : List Nat} (h : ∀ j, j < l.length → p (l.getD j 0) = false) : l.filter p = [] := by
  rw [List.filter_eq_nil_iff]
  intro a ha
  obtain ⟨j, hj, rfl⟩ := List.getElem_of_mem ha
  have := h j hj
  rw [List.getD_eq_getElem?_getD, List.getElem?_eq_getElem hj] at this
  simp only [Option.getD_some] at this
  rw [this]; decide
/-- found: it is the one that Next names -/
theorem ref_found {V : Int → List Int} {L : List (List Cp)} {size hz now : Int} (ha : nextA L size = true) {i : Nat} (hi : i < (allR V L size hz now).length) (h1 : fullB L size ((allR V L size hz now).getD i 0) = true) (h2 : ∀ j, j < i → fullB L size ((allR V L size hz now).getD j 0) = false) :
    nextE V L size hz now = 0 ∧ nextZ V L size hz now = (allR V L size hz now).getD i 0 := by
  obtain ⟨q1, q2⟩ := filter_head hi h1 h2
  rw [← allR_full] at q1 q2
  have hr : nextR V L size hz now ≠ [] := fun e => q2 (by rw [e]; rfl)
  have he : nextE V L size hz now = 0 := by
    unfold nextE chE
    rw [if_pos ha, if_neg hr]
  refine ⟨he, ?_⟩
  rw [(next_ok he).zone, ← q1]
  unfold chK
  cases hn : nextR V L size hz now with
  | nil => exact absurd hn hr
  | cons x r => rfl
theorem ref_none {V : Int → List Int} {L : List (List Cp)} {size hz now : Int} (ha : nextA L size = true) (h : ∀ j, j < (allR V L size hz now).length → fullB L size ((allR V L size hz now).getD j 0) = false) : nextE V L size hz now = 14 := by
  have q := filter_none h
  rw [← allR_full] at q
  have hr : nextR V L size hz now = [] := List.map_eq_nil_iff.1 q
  unfold nextE chE
  rw [if_pos ha, if_pos hr]
theorem allR_lt {V : Int → List Int} {L : List (List Cp)} {size hz now : Int} {i : Nat} (hi : i < (allR V L size hz now).length) : (allR V L size hz now).getD i 0 < L.length := by
  have h := rankL_is (scS (zonesV V size hz L) now) (okB (zonesV V size hz L) now) (zonesV V size hz L).length
  have q : (allR V L size hz now).getD i 0 < (zonesV V size hz L).length := (h.mem (j := i) hi).1
  rw [zonesV_len] at q
  exact q
end Go.Proofs.Ytkpnjehgbehhcaa
namespace Go.Proofs.Ytkpnjehgbehhcaa
open Go.RowKit Fl

theorem nextE_arg {V : Int → List Int} {L : List (List Cp)} {size hz now : Int} (h : nextA L size = false) : nextE V L size hz now = 1 := by
  unfold nextE; rw [if_neg (by rw [h]; decide)]

/-- the plan while a row is gone through -/
def RnS (A : Nat) (w0 : World) (V : Int → List Int) (hz : Int) (kz : Nat) (r : List Cp) (j : Nat) (w : World) : Prop :=
  ∃ am cm, w.heap[A]? = some (Obj.cells #[.int .i64 (kz : Int), .slice am ((r.take j).filter fun c => liveV V c hz).length cm, .int .i64 ((j : Int) - (((r.take j).filter fun c => liveV V c hz).length : Int))] 56 (0, 0)) ∧
    OwnC w A (.slice am ((r.take j).filter fun c => liveV V c hz).length cm) ((r.take j).filter fun c => liveV V c hz) ∧ Below A w0 w

set_option maxHeartbeats 3200000 in
set_option maxRecDepth 16000 in
theorem rnext_any {Bm p : Nat} {V : Int → List Int} {last : Int} {n : Nat} (hV : Vok V last) (hn : n ≤ 1000000) (v : Value) (L : List (List Cp)) (hL : L.length ≤ 1000000) (hrow : ∀ r ∈ L, r.length ≤ 1000000) (size hz now : Int) (w : World) (h : SlR w v L) (hM : Rm w Bm p (segs V 0 30) last n) :
    Calls Try.prog 20 #[.pointer (some ⟨p, 0, none⟩), v, .int .i64 size, .int .i64 hz, .int .i64 now] w fun e w' => NxR w.heap.size V L size hz now e w' ∧ Below w.heap.size w w' := by
  obtain ⟨a, cap, rfl, ha, hle, hcap⟩ := SlG.form h
  generalize hB : w.heap.size = B
  have hB0 : Hid (B ≤ w.heap.size) := Nat.le_of_eq hB.symm
  have HNO : Hid (∀ {x : Int} {w' : World}, nextE V L size hz now = x → x ≠ 0 → NxR B V L size hz now (.returned (.tuple #[.agg #[.int .i64 0, .slice none 0 0, .int .i64 0], .int .i64 x])) w') := fun q1 q2 => NxR.no q1 q2
  have HB1 : Hid (Below B w (w.alloc (.cells #[.int .i64 0, .slice none 0 0, .int .i64 0] 56))) := (Below.refl _ _).alloc hB0.out _
  have HM : Hid (∀ w', Below B w w' → Rm w' Bm p (segs V 0 30) last n) := fun w' hb => hM.below (by rw [hB]; exact hb)
  have HS : Hid (∀ w', Below B w w' → SlR w' (.slice a L.length cap) L) := fun w' hb => h.below (by rw [hB]; exact hb)
  have HRC : Hid (∀ k, k < L.length → ∃ b o x c, a = some ⟨b, o, none⟩ ∧ ∀ w', Below B w w' → w'.cell? ⟨b, o + k, none⟩ = some (.slice x (L.getD k []).length c) ∧ SlC w' (.slice x (L.getD k []).length c) (L.getD k [])) := fun k hk => by
    obtain ⟨b, o, u, h1, h2, h3, h4⟩ := h.at rfl hk
    obtain ⟨x, c, rfl, _⟩ := SlG.form h4
    exact ⟨b, o, x, c, h1, fun w' hb => ⟨cell_keep h3 (by rw [hB]; exact hb), h4.below (by rw [hB]; exact hb)⟩⟩
  have HA1 : Hid ((w.alloc (.cells #[.int .i64 0, .slice none 0 0, .int .i64 0] 56)).heap[B]? = some (Obj.cells #[.int .i64 0, .slice none 0 0, .int .i64 0] 56 (0, 0))) := by
    show _ = _
    rw [← hB, heap_alloc_new]
  have hsz : Hid ((w.alloc (.cells #[.int .i64 0, .slice none 0 0, .int .i64 0] 56)).heap.size = B + 1) := by show _ = _; simp; omega
  clear h hM
  by_cases hs : size < 1
  · have hE : Hid (nextE V L size hz now = 1) := nextE_arg (by unfold nextA; rw [decide_eq_true hs]; rfl)
    have hd : decide (size < 1) = true := decide_eq_true hs
    clear HRC HM HS
    go_enter Try.func20, Try.ntmps20
    go_wp2
    try rw [Exit.noGoto_ret]
    (try simp only [Exit.inBlock, Exit.then])
    refine bodyPost_ret (v := .tuple #[.agg #[.int .i64 0, .slice none 0 0, .int .i64 0], .int .i64 1]) ?_ rfl ⟨HNO.out hE.out (by decide), HB1.out⟩
    have x0 := cell_of (i := 0) HA1.out rfl
    have x1 := cell_of (i := 1) HA1.out rfl
    have x2 := cell_of (i := 2) HA1.out rfl
    rw [results_cell_tmp rfl]
    go_simp
  have hd : decide (size < 1) = false := decide_eq_false hs
  go_enter Try.func20, Try.ntmps20
  go_wp2
  go_loopw [12] (fun iv wr => ∃ k : Nat, k ≤ L.length ∧ iv = .int .i64 k ∧ Hid (∀ j, j < k → ((L.getD j []).length : Int) ≤ size) ∧ wr = w.alloc (.cells #[.int .i64 0, .slice none 0 0, .int .i64 0] 56)) (fun iv _ => L.length - (intOf iv).toNat)
  case atStart => exact ⟨0, Nat.zero_le _, rfl, fun j hj => absurd hj (Nat.not_lt_zero _), rfl⟩
  case round =>
    obtain ⟨k, hk, rfl, hfit, rfl⟩ := hrel
    by_cases hlt : k < L.length
    · obtain ⟨b, o, x, c, rfl, hcr⟩ := HRC.out k hlt
      obtain ⟨c0, hz1⟩ := hcr _ HB1.out
      have hlt2 : (k : Int) < (L.length : Int) := by omega
      have HFX : Hid (((L.getD k []).length : Int) ≤ size → ∀ j, j < k + 1 → ((L.getD j []).length : Int) ≤ size) := fun q j hj => by
        rcases Nat.lt_or_ge j k with h' | h'
        · exact hfit.out j h'
        · obtain rfl : j = k := by omega
          exact q
      have HBAD : Hid (size < ((L.getD k []).length : Int) → nextE V L size hz now = 1) := fun q => nextE_arg (by
        unfold nextA
        cases hf : fitN L size L.length
        · rw [Bool.and_false]
        · have := fitN_all hf k hlt; omega)
      clear HRC hcr hz1 HM HS hfit
      generalize (L.getD k []).length = nr at *
      by_cases hq : size < (nr : Int)
      · have hqd : decide (size < (nr : Int)) = true := decide_eq_true hq
        have hE := Lib.hid (HBAD.out hq)
        clear HFX HBAD hq
        go_wp2
        try rw [Exit.noGoto_ret]
        (try simp only [Exit.inBlock, Exit.then])
        refine bodyPost_ret (v := .tuple #[.agg #[.int .i64 0, .slice none 0 0, .int .i64 0], .int .i64 1]) ?_ rfl ⟨HNO.out hE.out (by decide), HB1.out⟩
        have x0 := cell_of (i := 0) HA1.out rfl
        have x1 := cell_of (i := 1) HA1.out rfl
        have x2 := cell_of (i := 2) HA1.out rfl
        rw [results_cell_tmp rfl]
        go_simp
      · have hqd : decide (size < (nr : Int)) = false := decide_eq_false hq
        have HF1 := Lib.hid (HFX.out (by omega))
        clear HFX HBAD hq
        go_wp2
        exact ⟨⟨k + 1, by omega, by go_num, HF1, trivial⟩, by simp [intOf]; omega⟩
    · obtain rfl : k = L.length := by omega
      have HA : Hid (nextA L size = true) := by
        show _ = _
        unfold nextA
        rw [hd, fitN_mk hfit.out]
        rfl
      have CZ := Lib.hid (rzones_any hV hn _ L hL hrow size hz _ (HS.out _ HB1.out) (HM.out _ HB1.out))
      have HFIT := Lib.hid hfit.out
      clear hfit HS
      go_wp2_with fail
      refine CZ.out.mono ?_
      rintro e w2 ⟨⟨v2, rfl, hz2⟩, hb2⟩
      obtain ⟨a2, c2, rfl, _⟩ := OwnZ.form hz2
      have CRK := Lib.hid (rrank_any _ (zonesV V size hz L) now (by rw [zonesV_len]; exact hL) w2 (OwnZ.slz hz2 (by rw [zonesV_len]; exact hL)))
      have HB2 : Hid (Below B w w2) := HB1.out.trans (hb2.mono (by have := hsz.out; omega))
      have HA2 := Lib.hid ((hb2.block _ (Array.getElem?_eq_some_iff.1 HA1.out).1).trans HA1.out)
      clear hz2 hb2 CZ
      go_wp2_with fail
      refine CRK.out.mono ?_
      rintro e w3 ⟨v3, r, rfl, hr, ho3, hb3⟩
      have hra : r = allR V L size hz now := hr.unique (rankL_is _ _ _)
      have HFO : Hid (∀ i, i < r.length → fullB L size (r.getD i 0) = true → (∀ j, j < i → fullB L size (r.getD j 0) = false) → nextE V L size hz now = 0 ∧ nextZ V L size hz now = r.getD i 0) := fun i q1 q2 q3 => by
        rw [hra] at q1 q2 q3 ⊢
        exact ref_found HA.out q1 q2 q3
      have HNN : Hid ((∀ j, j < r.length → fullB L size (r.getD j 0) = false) → nextE V L size hz now = 14) := fun q => by
        rw [hra] at q
        exact ref_none HA.out q
      have HLT : Hid (∀ i, i < r.length → r.getD i 0 < L.length) := fun i q => by
        rw [hra] at q ⊢
        exact allR_lt q
      have hrn : r.length ≤ 1000000 := by have h5 := hr.len; rw [zonesV_len] at h5; omega
      obtain ⟨a3, c3, rfl⟩ := ho3.form
      have HN3 : Hid (∀ i, i < r.length → ∃ g, a3 = some ⟨g, 0, none⟩ ∧ w3.cell? ⟨g, i, none⟩ = some (.int .i64 (r.getD i 0 : Nat))) := fun i hi => by
        obtain ⟨g, c, he, _, _⟩ := ho3.at0 (by omega)
        simp only [Value.slice.injEq] at he
        obtain ⟨rfl, _, rfl⟩ := he
        exact ⟨g, rfl, (ho3.cellOf i hi).1⟩
      have HB3 : Hid (Below B w w3) := HB2.out.trans (hb3.mono (Nat.le_trans hB0.out HB2.out.size))
      have HA3 := Lib.hid ((hb3.block _ (Array.getElem?_eq_some_iff.1 HA2.out).1).trans HA2.out)
      have hS3 : Hid (B < w3.heap.size) := (Array.getElem?_eq_some_iff.1 HA3.out).1
      clear hra hr ho3 hb3 CRK HA2 HB2 HB1 HA1 hsz
      go_wp2
      go_loopw [15] (fun iv wr => ∃ i : Nat, i ≤ r.length ∧ iv = .int .i64 i ∧ Hid (∀ j, j < i → fullB L size (r.getD j 0) = false) ∧ wr = w3) (fun iv _ => r.length - (intOf iv).toNat)
      case atStart => exact ⟨0, Nat.zero_le _, rfl, fun j hj => absurd hj (Nat.not_lt_zero _), rfl⟩
      case round =>
        obtain ⟨i, hi, rfl, hnf, rfl⟩ := hrel
        by_cases hir : i < r.length
        · obtain ⟨g, rfl, ci⟩ := HN3.out i hir
          have hzl := HLT.out i hir
          have hir2 : (i : Int) < (r.length : Int) := by omega
          have HFO1 := Lib.hid (fun q => HFO.out i hir q hnf.out)
          have HNX : Hid (fullB L size (r.getD i 0) = false → ∀ j, j < i + 1 → fullB L size (r.getD j 0) = false) := fun q j hj => by
            rcases Nat.lt_or_ge j i with h' | h'
            · exact hnf.out j h'
            · obtain rfl : j = i := by omega
              exact q
          obtain ⟨b, o, x, c, rfl, hcr⟩ := HRC.out _ hzl
          have HFT := Lib.hid (HFIT.out _ hzl)
          have hrl9 : (L.getD (r.getD i 0) []).length ≤ 1000000 := hrow _ (by rw [List.getD_eq_getElem?_getD, List.getElem?_eq_getElem hzl]; exact List.getElem_mem hzl)
          have c0 := (hcr _ HB3.out).1
          have hfd : fullB L size (r.getD i 0) = !decide (((L.getD (r.getD i 0) []).length : Int) < size) := rfl
          have HFD := Lib.hid hfd
          clear HN3 HLT HFO hnf hfd HRC
          generalize r.getD i 0 = kz at *
          have hzl2 : (kz : Int) < (L.length : Int) := by omega
          by_cases hq : ((L.getD kz []).length : Int) = size
          · have hqd : (((L.getD kz []).length : Int) != size) = false := by rw [hq]; simp
            obtain ⟨he, hze⟩ := HFO1.out (by rw [HFD.out, decide_eq_false (by omega)]; rfl)
            have ok := next_ok he
            have HEND : Hid (∀ am cm w', OwnC w' B (.slice am (movesV V hz (L.getD kz [])).length cm) (movesV V hz (L.getD kz [])) → NxR B V L size hz now (.returned (.tuple #[.agg #[.int .i64 (kz : Int), .slice am (movesV V hz (L.getD kz [])).length cm, .int .i64 (((L.getD kz []).length : Int) - ((movesV V hz (L.getD kz [])).length : Int))], .int .i64 0])) w') := fun am cm w' ho => by
              refine ⟨.slice am (movesV V hz (L.getD kz [])).length cm, ?_, ?_⟩
              · rw [hze, he, ok.drops, ok.moves, hze, hq]
              · rw [ok.moves, hze]
                exact ho
            have HRD : Hid (∀ j, j < (L.getD kz []).length → ∃ b2 o2, x = some ⟨b2, o2, none⟩ ∧ ∀ w', Below B w w' → w'.cell? ⟨b2, o2 + j * 2, none⟩ = some (.int .i64 ((L.getD kz []).getD j (0, 0)).1) ∧ w'.cell? ⟨b2, o2 + j * 2 + 1, none⟩ = some (.int .i64 ((L.getD kz []).getD j (0, 0)).2)) := fun j hj => by
              obtain ⟨b2, o2, h1, h2⟩ := (hcr w (Below.refl _ _)).2.rd (B := w.heap.size) rfl j hj
              exact ⟨b2, o2, h1, fun w' h' => h2 w' (by rw [hB]; exact h')⟩
            have HCE : Hid (∀ w', Below B w w' → w'.cell? ⟨b, o + kz, none⟩ = some (.slice x (L.getD kz []).length c)) := fun w' h' => (hcr w' h').1
            clear ok he hze HFO1 HNX HNN HFT hcr HFD HNO HFIT hq
            generalize L.getD kz [] = rz at *
            have HLV : Hid (∀ (cc : Cp) w', Below B w w' → Calls Try.prog 19 #[.pointer (some ⟨p, 0, none⟩), .agg #[.int .i64 cc.1, .int .i64 cc.2], .int .i64 hz] w' fun e w'' => e = .returned (.bool (liveV V cc hz)) ∧ Below w'.heap.size w' w'') := fun cc w' h' => rlive_any hV cc hz w' (HM.out w' h') hn
            have HBW : Hid (∀ w', Below wr.heap.size wr w' → Below B w w') := fun w' h' => HB3.out.trans (h'.mono (Nat.le_of_lt hS3.out))
            have HAB : Hid (∀ w', Below wr.heap.size wr w' → w'.heap[B]? = some (Obj.cells #[.int .i64 0, .slice none 0 0, .int .i64 0] 56 (0, 0))) := fun w' h' => (h'.block B hS3.out).trans HA3.out
            have HR0 : Hid (RnS wr.heap.size wr V hz kz rz 0 (wr.alloc (.cells #[.int .i64 (kz : Int), .slice none 0 0, .int .i64 0] 56))) := ⟨none, 0, heap_alloc_new _ _, World.ownsRow_nil _ _ _ 2, (Below.refl _ _).alloc (Nat.le_refl _) _⟩
            clear HM
            go_wp2
            generalize wr.alloc (.cells #[.int .i64 (kz : Int), .slice none 0 0, .int .i64 0] 56) = w4 at *
            generalize hAA : wr.heap.size = A at *
            have HAE := Lib.hid hAA
            clear hAA
            generalize wr = wo at *
            go_loopw [18] (fun iv wx => ∃ j : Nat, j ≤ rz.length ∧ iv = .int .i64 j ∧ Hid (RnS A wo V hz kz rz j wx)) (fun iv _ => rz.length - (intOf iv).toNat)
            case atStart => exact ⟨0, Nat.zero_le _, rfl, HR0⟩
            case round =>
              clear HR0
              obtain ⟨j, hj, rfl, hs⟩ := hrel
              obtain ⟨am, cm, hp1, ho1, hb1⟩ := hs.out
              have q0 := HCE.out wr (HBW.out wr hb1)
              by_cases hjl : j < rz.length
              · obtain ⟨b2, o2, rfl, hcj⟩ := HRD.out j hjl
                have hjl2 : (j : Int) < (rz.length : Int) := by omega
                obtain ⟨q1, q2⟩ := hcj wr (HBW.out wr hb1)
                have CL := Lib.hid (HLV.out (rz.getD j (0, 0)) wr (HBW.out wr hb1))
                have HFT := Lib.hid (take_filter (f := fun c => liveV V c hz) hjl)
                have hcn : ((rz.take j).filter fun c => liveV V c hz).length ≤ 1000000 := by
                  have h1 := List.length_filter_le (fun c => liveV V c hz) (rz.take j)
                  rw [List.length_take] at h1
                  omega
                have HFR : Hid (∀ w', Below A wo w' → w'.cell? ⟨b, o + kz, none⟩ = some (.slice (some ⟨b2, o2, none⟩) rz.length c) ∧ w'.cell? ⟨b2, o2 + j * 2, none⟩ = some (.int .i64 (rz.getD j (0, 0)).1) ∧ w'.cell? ⟨b2, o2 + j * 2 + 1, none⟩ = some (.int .i64 (rz.getD j (0, 0)).2)) := fun w' h' => ⟨HCE.out w' (HBW.out w' h'), (hcj w' (HBW.out w' h')).1, (hcj w' (HBW.out w' h')).2⟩
                have HAL : Hid (A < wr.heap.size) := (Array.getElem?_eq_some_iff.1 hp1).1
                have P1 := Lib.hid hp1
                have O1 := Lib.hid ho1
                have BB1 := Lib.hid hb1
                clear hs hp1 ho1 hb1 hcj HRD HCE HLV HEND HAB HBW
                generalize rz.getD j (0, 0) = cj at *
                obtain ⟨c0', c1'⟩ := cj
                have hwr : IntKind.i64.wrap ((j : Int) - (((rz.take j).filter fun c => liveV V c hz).length : Int) + 1) = (j : Int) - (((rz.take j).filter fun c => liveV V c hz).length : Int) + 1 := IntWalk.i64_in _ (by omega)
                go_wp2_with fail
                refine CL.out.mono ?_
                rintro e w5 ⟨rfl, hb5⟩
                have P2 := Lib.hid ((hb5.block A HAL.out).trans P1.out)
                have O2 := Lib.hid (ownsRow_after O1.out hb5)
                have BB2 : Hid (Below A wo w5) := BB1.out.trans (hb5.mono (Nat.le_of_lt HAL.out))
                clear hb5 CL q0 q1 q2 P1 BB1 O1 HAL
                cases hlv : liveV V (c0', c1') hz with
                | true =>
                  rw [hlv] at HFT
                  have HFE : Hid ((rz.take (j + 1)).filter (fun c => liveV V c hz) = ((rz.take j).filter fun c => liveV V c hz) ++ [(c0', c1')]) := by
                    have h5 := HFT.out
                    rw [if_pos rfl] at h5
                    exact h5
                  obtain ⟨r0, r1, r2⟩ := HFR.out w5 BB2.out
                  clear HFT hlv HFR hwr
                  generalize (rz.take j).filter (fun c => liveV V c hz) = fl at *
                  have e1 : w5.cell? ⟨A, 1, none⟩ = some (.slice am fl.length cm) := cell_of P2.out rfl
                  have f1 : w5.frozen? ⟨A, 1, none⟩ = false := frz_of P2.out
                  have hA5 : Hid (A < w5.heap.size) := (Array.getElem?_eq_some_iff.1 P2.out).1
                  have n1 := World.new_ne w5 ⟨A, 1, none⟩ e1
                  have m1 : (w5.alloc (.cells #[.int .i64 c0', .int .i64 c1'] 33)).cell? ⟨A, 1, none⟩ = some (.slice am fl.length cm) := cell_keep e1 ((Below.refl _ _).alloc (Nat.le_refl _) _)
                  have n2 := World.new_ne w5 ⟨b, o + kz, none⟩ r0
                  have n3 := World.new_ne w5 ⟨b2, o2 + j * 2, none⟩ r1
                  have n4 := World.new_ne w5 ⟨b2, o2 + j * 2 + 1, none⟩ r2
                  go_wp2
                  go_region_law (first
                    | (refine step_appG rfl (.tmp 83) (.tmp 91) A 31 33 (.agg #[.int .i64 0, .int .i64 0]) 2 16 rfl Try.underlying31 infoC rfl (by decide) (.slice am fl.length cm) fl.length (flatC fl) (by simp [Act.eval]) (ownsRow_after O2.out (by first | exact ((Below.refl _ _).alloc (Nat.le_refl _) _).drew | exact ((Below.refl _ _).drew.alloc (Nat.le_refl _) _) | exact ((Below.refl _ _).alloc (Nat.le_refl _) _))) _ 1 [.int .i64 c0', .int .i64 c1'] (by simp [Act.eval])
                         (Src.new w5 [.int .i64 c0', .int .i64 c1'] 33 1) rfl (by intro u hu; simp at hu; rcases hu with rfl | rfl <;> rfl) (by omega) (by unfold maxLen; omega) (by have := hA5.out; simp; omega) ?_
                       intro v7 w7 ho7 hg7' hat7
                       have hg7 : (w5.alloc (.cells #[.int .i64 c0', .int .i64 c1'] 33)).grownBy w7 (Value.ownBlock (.slice am fl.length cm)) := ⟨hg7'.os, hg7'.tape, hg7'.output, hg7'.size, hg7'.block⟩
                       obtain ⟨a7, c7, rfl⟩ := row_form ho7
                       have P7 : w7.heap[A]? = some (Obj.cells #[.int .i64 (kz : Int), .slice am fl.length cm, .int .i64 ((j : Int) - (fl.length : Int))] 56 (0, 0)) := by
                         rw [hg7.block A (by have := hA5.out; simp; omega) (fun e => by
                           obtain ⟨_, cur, h8⟩ := ownsRow_block O2.out e.symm
                           rw [P2.out] at h8
                           simp at h8)]
                         rw [heap_alloc_old _ _ hA5.out]
                         exact P2.out
                       have e7 : w7.cell? ⟨A, 1, none⟩ = some (.slice am fl.length cm) := cell_of P7 rfl
                       have f7 : w7.frozen? ⟨A, 1, none⟩ = false := frz_of P7
                       have hb7 : Below A wo w7 := below_own (ownsRow_after O2.out ((Below.refl _ _).alloc (Nat.le_refl _) (.cells #[.int .i64 c0', .int .i64 c1'] 33))) hg7 (BB2.out.alloc (Nat.le_of_lt hA5.out) _) (Nat.le_refl _) (by have := hA5.out; simp; omega)
                       have ho8 : OwnC w7 A (.slice a7 (fl.length + 1) c7) (fl ++ [(c0', c1')]) := by
                         show w7.ownsRow _ _ _ _ _ _
                         rw [flatC_app, List.length_append]
                         exact ho7
                       have HEN : Hid (RnS A wo V hz kz rz (j + 1) (w7.setCell ⟨A, 1, none⟩ (.slice a7 (fl.length + 1) c7))) := by
                         refine ⟨a7, c7, ?_, ?_, hb7.setCell (Nat.le_refl A) _⟩
                         · rw [HFE.out, List.length_append, List.length_singleton]
                           have h6 := (setA (x := .slice a7 (fl.length + 1) c7) P7).2.1
                           rw [show (((j + 1 : Nat) : Int) - ((fl.length + 1 : Nat) : Int)) = (j : Int) - (fl.length : Int) by omega]
                           exact h6
                         · rw [HFE.out, List.length_append, List.length_singleton]
                           refine ownsRow_set ?_ _ _ (fun g hg e => by
                             obtain ⟨_, cur, h8⟩ := ownsRow_block ho8 hg
                             rw [show g = A from e, P7] at h8
                             simp at h8)
                           exact ho8
                       clear ho7 hg7 hg7' hat7 P7 hb7 ho8))
                  all_goals
                    go_wp2
                    exact ⟨⟨j + 1, by omega, by go_num, HEN⟩, by simp [intOf]; omega⟩
                | false =>
                  rw [hlv] at HFT
                  have HFE : Hid ((rz.take (j + 1)).filter (fun c => liveV V c hz) = (rz.take j).filter fun c => liveV V c hz) := by
                    have h5 := HFT.out
                    rw [if_neg (by decide), List.append_nil] at h5
                    exact h5
                  clear HFT hlv HFR
                  generalize (rz.take j).filter (fun c => liveV V c hz) = fl at *
                  have e0 : w5.cell? ⟨A, 2, none⟩ = some (.int .i64 ((j : Int) - (fl.length : Int))) := cell_of P2.out rfl
                  have f0 : w5.frozen? ⟨A, 2, none⟩ = false := frz_of P2.out
                  have HEN : Hid (RnS A wo V hz kz rz (j + 1) (w5.setCell ⟨A, 2, none⟩ (.int .i64 ((j : Int) - (fl.length : Int) + 1)))) := by
                    refine ⟨am, cm, ?_, ?_, BB2.out.setCell (Nat.le_refl A) _⟩
                    · rw [HFE.out]
                      have h6 := (setA (x := .int .i64 ((j : Int) - (fl.length : Int) + 1)) P2.out).2.2
                      rw [show (((j + 1 : Nat) : Int) - (fl.length : Int)) = (j : Int) - (fl.length : Int) + 1 by omega]
                      exact h6
                    · rw [HFE.out]
                      exact ownsRow_set O2.out _ _ (fun g hg e => by
                        obtain ⟨_, cur, h7⟩ := ownsRow_block O2.out hg
                        rw [show g = A from e, P2.out] at h7
                        simp at h7)
                  go_wp2
                  exact ⟨⟨j + 1, by omega, by go_num, HEN⟩, by simp [intOf]; omega⟩
              · obtain rfl : j = rz.length := by omega
                rw [List.take_length] at hp1 ho1
                have P1 := Lib.hid hp1
                have O1 : Hid (OwnC wr A (.slice am (movesV V hz rz).length cm) (movesV V hz rz)) := ho1
                have HPB := Lib.hid (HAB.out wr hb1)
                have HBX := Lib.hid (HBW.out wr hb1)
                have HEN := Lib.hid HEND.out
                have P2 : Hid (wr.heap[A]? = some (Obj.cells #[.int .i64 (kz : Int), .slice am (movesV V hz rz).length cm, .int .i64 ((rz.length : Int) - ((movesV V hz rz).length : Int))] 56 (0, 0))) := hp1
                have HBA : Hid (B < A) := hS3.out
                clear hs hp1 ho1 hb1 HRD HCE HLV HEND HAB HBW P1
                generalize movesV V hz rz = ml at *
                have x0 : wr.cell? ⟨A, 0, none⟩ = some (.int .i64 (kz : Int)) := cell_of P2.out rfl
                have x1 : wr.cell? ⟨A, 1, none⟩ = some (.slice am ml.length cm) := cell_of P2.out rfl
                have x2 : wr.cell? ⟨A, 2, none⟩ = some (.int .i64 ((rz.length : Int) - (ml.length : Int))) := cell_of P2.out rfl
                have p7 := HPB.out
                have f0 := frz_of (i := 0) p7
                have f1 := frz_of (i := 1) (set3 (a' := .int .i64 kz) (b' := .slice am ml.length cm) (c' := .int .i64 ((rz.length : Int) - (ml.length : Int))) p7).1
                have f2 := frz_of (i := 2) (set3 (a' := .int .i64 kz) (b' := .slice am ml.length cm) (c' := .int .i64 ((rz.length : Int) - (ml.length : Int))) p7).2.1
                have e0 := cell_of (i := 0) p7 rfl
                have e1 := cell_of (i := 1) (set3 (a' := .int .i64 kz) (b' := .slice am ml.length cm) (c' := .int .i64 ((rz.length : Int) - (ml.length : Int))) p7).1 rfl
                have e2 := cell_of (i := 2) (set3 (a' := .int .i64 kz) (b' := .slice am ml.length cm) (c' := .int .i64 ((rz.length : Int) - (ml.length : Int))) p7).2.1 rfl
                clear p7
                go_wp2
                clear x0 x1 x2
                have t3 := (set3 (a' := .int .i64 kz) (b' := .slice am ml.length cm) (c' := .int .i64 ((rz.length : Int) - (ml.length : Int))) HPB.out).2.2
                have x0 := cell_of (i := 0) t3 rfl
                have x1 := cell_of (i := 1) t3 rfl
                have x2 := cell_of (i := 2) t3 rfl
                have HBF := ((HBX.out.setCell (p := ⟨B, 0, none⟩) (Nat.le_refl B) (.int .i64 kz)).setCell (p := ⟨B, 1, none⟩) (Nat.le_refl B) (.slice am ml.length cm)).setCell (p := ⟨B, 2, none⟩) (Nat.le_refl B) (.int .i64 ((rz.length : Int) - (ml.length : Int)))
                have HNE : ∀ g, Value.ownBlock (.slice am ml.length cm) = some g → g ≠ B := fun g hg => by
                  have h1 := (ownsRow_block O1.out hg).1
                  have h2 := HBA.out
                  omega
                have HOF : OwnC (((wr.setCell ⟨B, 0, none⟩ (.int .i64 kz)).setCell ⟨B, 1, none⟩ (.slice am ml.length cm)).setCell ⟨B, 2, none⟩ (.int .i64 ((rz.length : Int) - (ml.length : Int)))) B (.slice am ml.length cm) ml :=
                  ownsRow_mono (ownsRow_set (ownsRow_set (ownsRow_set O1.out _ _ HNE) _ _ HNE) _ _ HNE) (Nat.le_of_lt HBA.out)
                try rw [Exit.noGoto_ret]
                (try simp only [Exit.inBlock, Exit.then])
                refine bodyPost_ret (v := .tuple #[.agg #[.int .i64 kz, .slice am ml.length cm, .int .i64 ((rz.length : Int) - (ml.length : Int))], .int .i64 0]) ?_ rfl ⟨HEN.out am cm _ HOF, HBF⟩
                rw [results_cell_tmp rfl]
                go_simp
          · have hqd : (((L.getD kz []).length : Int) != size) = true := bne_iff_ne.2 hq
            have HN := Lib.hid (HNX.out (by rw [HFD.out, decide_eq_true (by have := HFT.out; omega)]; rfl))
            clear HFO1 HNX HNN HFT hcr HFD HNO HFIT hq HM
            generalize (L.getD kz []).length = nr at *
            go_wp2
            exact ⟨⟨i + 1, by omega, by go_num, HN, trivial⟩, by simp [intOf]; omega⟩
        · obtain rfl : i = r.length := by omega
          have hE := Lib.hid (HNN.out hnf.out)
          have p7 := HA3.out
          have f0 := frz_of (i := 0) p7
          have f1 := frz_of (i := 1) (set3 (a' := .int .i64 0) (b' := .slice none 0 0) (c' := .int .i64 0) p7).1
          have f2 := frz_of (i := 2) (set3 (a' := .int .i64 0) (b' := .slice none 0 0) (c' := .int .i64 0) p7).2.1
          have e0 := cell_of (i := 0) p7 rfl
          have e1 := cell_of (i := 1) (set3 (a' := .int .i64 0) (b' := .slice none 0 0) (c' := .int .i64 0) p7).1 rfl
          have e2 := cell_of (i := 2) (set3 (a' := .int .i64 0) (b' := .slice none 0 0) (c' := .int .i64 0) p7).2.1 rfl
          clear p7 HN3 HLT HFO HNN HRC HM hnf HFIT
          go_wp2
          have t3 := (set3 (a' := .int .i64 0) (b' := .slice none 0 0) (c' := .int .i64 0) HA3.out).2.2
          have x0 := cell_of (i := 0) t3 rfl
          have x1 := cell_of (i := 1) t3 rfl
          have x2 := cell_of (i := 2) t3 rfl
          have HBF := ((HB3.out.setCell (p := ⟨B, 0, none⟩) (Nat.le_refl B) (.int .i64 0)).setCell (p := ⟨B, 1, none⟩) (Nat.le_refl B) (.slice none 0 0)).setCell (p := ⟨B, 2, none⟩) (Nat.le_refl B) (.int .i64 0)
          try rw [Exit.noGoto_ret]
          (try simp only [Exit.inBlock, Exit.then])
          refine bodyPost_ret (v := .tuple #[.agg #[.int .i64 0, .slice none 0 0, .int .i64 0], .int .i64 14]) ?_ rfl ⟨HNO.out hE.out (by decide), HBF⟩
          rw [results_cell_tmp rfl]
          go_simp
end Go.Proofs.Ytkpnjehgbehhcaa
namespace Go.Proofs.Ytkpnjehgbehhcaa
open Go.RowKit Fl

/-- t is the least number from jj on, below n, of a row into which m copies may move; -1: there is none -/
def ToS (L : List (List Cp)) (size : Int) (z m n jj : Nat) (t : Int) : Prop :=
  (t = -1 ∧ ∀ j, jj ≤ j → j < n → fits L size z m j = false) ∨ ∃ q : Nat, t = q ∧ jj ≤ q ∧ q < n ∧ fits L size z m q = true ∧ ∀ j, jj ≤ j → j < q → fits L size z m j = false
theorem ToS.no {L : List (List Cp)} {size : Int} {z m n jj : Nat} {t : Int} (h : ToS L size z m n (jj + 1) t) (hf : fits L size z m jj = false) : ToS L size z m n jj t := by
  have hx : ∀ {P : Nat → Prop} {b : Nat}, (∀ j, jj + 1 ≤ j → j < b → P j) → P jj → ∀ j, jj ≤ j → j < b → P j := fun h1 h2 j h3 h4 => by
    rcases Nat.eq_or_lt_of_le h3 with e | e
    · rw [← e]; exact h2
    · exact h1 j e h4
  rcases h with ⟨h1, h2⟩ | ⟨q, h1, h2, h3, h4, h5⟩
  · exact .inl ⟨h1, hx h2 hf⟩
  · exact .inr ⟨q, h1, by omega, h3, h4, hx h5 hf⟩
theorem ToS.yes {L : List (List Cp)} {size : Int} {z m n jj : Nat} (hj : jj < n) (hf : fits L size z m jj = true) : ToS L size z m n jj (jj : Int) := .inr ⟨jj, rfl, Nat.le_refl _, hj, hf, fun j h1 h2 => by omega⟩

theorem nextM_len {V : Int → List Int} {L : List (List Cp)} {size hz now : Int} (h : ∀ r ∈ L, r.length ≤ 1000) : (nextM V L size hz now).length ≤ 1000 := by
  unfold nextM
  split
  · refine Nat.le_trans (List.length_filter_le _ _) ?_
    generalize nextK V L size hz now = k
    rcases Nat.lt_or_ge k L.length with hk | hk
    · exact h _ (by rw [List.getD_eq_getElem?_getD, List.getElem?_eq_getElem hk]; exact List.getElem_mem hk)
    · rw [List.getD_eq_getElem?_getD, List.getElem?_eq_none hk]; simp
  · simp
set_option maxHeartbeats 1600000 in
set_option maxRecDepth 16000 in
theorem rrun_any {Bm p : Nat} {V : Int → List Int} {last : Int} {n : Nat} (hV : Vok V last) (hn : n ≤ 1000000) (v : Value) (L : List (List Cp)) (hL : L.length ≤ 1000) (hrow : ∀ r ∈ L, r.length ≤ 1000) (size hz now steps : Int) (hsz : size ≤ 1000) (w : World) (h : SlR w v L) (hM : Rm w Bm p (segs V 0 30) last n) :
    Calls Try.prog 22 #[.pointer (some ⟨p, 0, none⟩), v, .int .i64 size, .int .i64 hz, .int .i64 now, .int .i64 steps] w fun e w' =>
      (∃ v', e = .returned v' ∧ OwnG w' w.heap.size v' (runV V size hz now (stepsN steps) L)) ∧ Below w.heap.size w w' := by
  obtain ⟨a, cap, rfl, ha, hle, hcap⟩ := SlG.form h
  generalize hB : w.heap.size = B
  have hB0 : Hid (B ≤ w.heap.size) := Nat.le_of_eq hB.symm
  have HM : Hid (∀ w', Below B w w' → Rm w' Bm p (segs V 0 30) last n) := fun w' hb => hM.below (by rw [hB]; exact hb)
  have HC : Hid (∀ k, k < L.length → ∃ b o x c, a = some ⟨b, o, none⟩ ∧ ∀ w', Below B w w' → w'.cell? ⟨b, o + k, none⟩ = some (.slice x (L.getD k []).length c) ∧ SlC w' (.slice x (L.getD k []).length c) (L.getD k [])) := fun k hk => by
    obtain ⟨b, o, u, h1, h2, h3, h4⟩ := h.at rfl hk
    obtain ⟨x, c, rfl, _⟩ := SlG.form h4
    exact ⟨b, o, x, c, h1, fun w' hb => ⟨cell_keep h3 (by rw [hB]; exact hb), h4.below (by rw [hB]; exact hb)⟩⟩
  have HRL : Hid (∀ k, k < L.length → (L.getD k []).length ≤ 1000) := fun k hk => hrow _ (by rw [List.getD_eq_getElem?_getD, List.getElem?_eq_getElem hk]; exact List.getElem_mem hk)
  have HROW := Lib.hid hrow
  have HTK : Hid (∀ k, k < L.length → L.take (k + 1) = L.take k ++ [L.getD k []]) := fun k hk => by
    rw [List.take_add_one, List.getElem?_eq_getElem hk, List.getD_eq_getElem?_getD, List.getElem?_eq_getElem hk]
    rfl
  have HTA : Hid (L.take L.length = L) := List.take_length
  have hN : (stepsN steps : Int) = min (max steps 0) 1000 := by unfold stepsN; omega
  have hN2 : stepsN steps ≤ 1000 := by unfold stepsN; omega
  generalize stepsN steps = N at *
  have HSTP : Hid (∀ k, (k < N → (k : Int) < steps) ∧ (k = N → (steps ≤ (k : Int) ∨ k = 1000))) := fun k => ⟨fun q => by omega, fun q => by omega⟩
  clear h hM hB hrow hN
  go_enter Try.func22, Try.ntmps22
  go_wp2
  go_loopw [13, 14] (fun ov iv wr => ∃ (k : Nat) (v1 : Value), k ≤ L.length ∧ ov = v1 ∧ iv = .int .i64 k ∧ Hid (OwnG wr B v1 (L.take k)) ∧ Hid (Below B w wr)) (fun _ iv _ => L.length - (intOf iv).toNat)
  case atStart => exact ⟨0, _, Nat.zero_le _, rfl, rfl, ⟨[], OwnGu.nil _ _⟩, Below.refl _ _⟩
  case round =>
    obtain ⟨k, v1, hk, rfl, rfl, ho, hb⟩ := hrel
    by_cases hlt : k < L.length
    · obtain ⟨b, o, x, c, rfl, hcell⟩ := HC.out k hlt
      obtain ⟨c1, hsc⟩ := hcell wr hb.out
      have hlt2 : (k : Int) < (L.length : Int) := by omega
      have HTK1 := Lib.hid (HTK.out k hlt)
      have hrl := HRL.out k hlt
      have hS : Hid (B ≤ wr.heap.size) := Nat.le_trans hB0.out hb.out.size
      have HSC := Lib.hid hsc.src
      have HE0 : Hid ((wr.alloc (.cells #[] 33)).ownsRow wr.heap.size 33 2 (.slice (some ⟨wr.heap.size, 0, none⟩) 0 0) 0 []) := ownsRow_empty (heap_alloc_new wr _) (Nat.le_refl _)
      have HAL0 : Hid (Below wr.heap.size wr (wr.alloc (.cells #[] 33))) := (Below.refl _ _).alloc (Nat.le_refl _) _
      have c2 := cell_keep c1 HAL0.out
      obtain ⟨us, hg⟩ := ho.out
      have hHG := Lib.hid hg
      have hlen : (L.take k).length = k := by rw [List.length_take]; omega
      have HLN := Lib.hid hlen
      clear HTK HRL HC hcell hsc HTA HROW HM HSTP ho hg hlen
      generalize L.getD k [] = r at *
      go_wp2_with (first
        | (at_builtin; refine wpList_appG rfl _ _ wr.heap.size 31 33 (.agg #[.int .i64 0, .int .i64 0]) 2 16 rfl Try.underlying31 infoC rfl (by decide) (.slice (some ⟨wr.heap.size, 0, none⟩) 0 0) 0 [] rfl HE0.out (.slice x r.length c) r.length (flatC r) rfl (HSC.out.below HAL0.out) (flatC_len r) flatC_one (by omega) (by unfold maxLen; omega) HAL0.out.size ?_
           intro u1 w1 hu1 hg1 hat1
           rw [Nat.zero_add, List.nil_append] at hu1
           obtain ⟨au, cu, rfl⟩ := row_form hu1
           have HU : Hid (OwnC w1 wr.heap.size (.slice au r.length cu) r) := hu1
           have HB1 : Hid (Below wr.heap.size wr w1) := HAL0.out.grown hg1 HAL0.out.size (fun q hq => by have : wr.heap.size = q := Option.some.inj hq; omega)
           have HBw : Hid (Below B w w1) := hb.out.trans (HB1.out.mono hS.out)
           have HS1 : Hid (B ≤ w1.heap.size) := Nat.le_trans hS.out HB1.out.size
           clear hu1 hg1 hat1)
        | (at_builtin; refine wpList_appG rfl _ _ B 23 31 (.slice none 0 0) 1 24 rfl Try.underlying23 infoS rfl (by decide) u13 _ us rfl
             (ownsRow_after hHG.out.2.1 (HB1.out.alloc HB1.out.size _)) _ 1 [.slice au r.length cu] rfl (Src.new' _ _ _ 1 _ rfl) rfl (by intro u hu; simp at hu; rcases hu with rfl; rfl) (by have := HLN.out; omega) (by have := HLN.out; unfold maxLen; omega) (Nat.le_trans HS1.out ((Below.refl _ _).alloc (Nat.le_refl _) _).size) ?_
           intro v2 w2 ho2 hg2 hat2
           have HB2 : Hid (Below B w w2) := below_own (ownsRow_after hHG.out.2.1 (HB1.out.alloc HB1.out.size _)) hg2 (HBw.out.alloc HS1.out _) (Nat.le_refl _) (Nat.le_trans HS1.out ((Below.refl _ _).alloc (Nat.le_refl _) _).size)
           have HO2 : Hid (OwnG w2 B v2 (L.take (k + 1))) := by
             rw [HTK1.out]
             exact ⟨_, hHG.out.snoc (HB1.out.alloc HB1.out.size _) hS.out (ownsRow_after HU.out ((Below.refl _ _).alloc (Nat.le_refl _) _)) ho2 hg2⟩
           clear ho2 hg2 hat2)
        | fail)
      exact ⟨⟨k + 1, _, by omega, rfl, by go_num, HO2, HB2⟩, by simp [intOf]; omega⟩
    · obtain rfl : k = L.length := by omega
      clear HTK HRL HC hlt hk
      rw [HTA.out] at ho
      have hform : ∃ a13 c13, u13 = .slice a13 L.length c13 := by
        obtain ⟨us, hg⟩ := ho.out
        exact row_form hg.2.1
      obtain ⟨a13, c13, rfl⟩ := hform
      have HR0 : Hid (RunS B w V size hz now N 0 (runV V size hz now N L) L.length (.slice a13 L.length c13) wr) := by
        obtain ⟨us, hg⟩ := ho.out
        exact ⟨us, L, hg, rfl, rfl, HROW.out, hb.out⟩
      clear ho hb HROW HTA
      go_wp2
      generalize hRV : runV V size hz now N L = RV at *
      have HRVE := Lib.hid hRV
      clear hRV
      go_loopw [15] (fun iv wr => ∃ (k : Nat), k ≤ N ∧ iv = .int .i64 k ∧ Hid (RunS B w V size hz now N k RV L.length (.slice a13 L.length c13) wr)) (fun iv _ => N - (intOf iv).toNat)
      case atStart => exact ⟨0, Nat.zero_le _, rfl, HR0⟩
      case round =>
        clear HR0
        obtain ⟨k, hk, rfl, hrs⟩ := hrel
        obtain ⟨us, L', hgu, hrun, hlen, hlong, hbw⟩ := hrs.out
        by_cases hlt : k < N
        · have hst1 : (k : Int) < steps := (HSTP.out k).1 hlt
          have hst2 : (k : Int) < 1000 := by omega
          have CN : Hid (Calls Try.prog 20 #[.pointer (some ⟨p, 0, none⟩), .slice a13 L.length c13, .int .i64 size, .int .i64 hz, .int .i64 now] wr fun e w' =>
              (∃ mv, e = .returned (.tuple #[.agg #[.int .i64 (nextZ V L' size hz now : Nat), mv, .int .i64 (nextD V L' size hz now)], .int .i64 (nextE V L' size hz now)]) ∧ OwnC w' wr.heap.size mv (nextM V L' size hz now)) ∧ Below wr.heap.size wr w') :=
            rnext_any hV hn (.slice a13 L.length c13) L' (by omega) (fun r hr => by have := hlong r hr; omega) size hz now wr (OwnG.slr ⟨us, hgu⟩) (HM.out wr hbw)
          have HGU := Lib.hid hgu
          have HLEN := Lib.hid hlen
          have HLONG := Lib.hid hlong
          have HBW := Lib.hid hbw
          have HSr : Hid (B ≤ wr.heap.size) := Nat.le_trans hB0.out hbw.size
          have HST : Hid (∀ n', N - k = n' + 1 → (stepV V size hz now L' = none → L' = RV) ∧ ∀ L2, stepV V size hz now L' = some L2 → runV V size hz now n' L2 = RV) := fun n' hn' => by
            rw [hn'] at hrun
            exact ⟨fun q => by rw [← hrun, runV_none q], fun L2 q => by rw [← hrun, runV_some q]⟩
          have HZL : Hid (nextE V L' size hz now = 0 → nextZ V L' size hz now < L.length ∧ 1 ≤ size) := fun q => by rw [← hlen]; exact nextZ_lt q
          have HSV : Hid (stepV V size hz now L' = if nextE V L' size hz now = 0 then (findI L' size (nextZ V L' size hz now) (nextM V L' size hz now).length).map fun i => (L'.set i (L'.getD i [] ++ nextM V L' size hz now)).set (nextZ V L' size hz now) [] else none) := rfl
          have hlong9 := hlong
          clear hgu hrun hlen hlong hbw hrs
          have hms9 := nextM_len (V := V) (size := size) (hz := hz) (now := now) hlong9
          generalize nextZ V L' size hz now = z at *
          generalize nextM V L' size hz now = ms at *
          generalize nextE V L' size hz now = er at *
          generalize nextD V L' size hz now = dr at *
          clear hlong9
          go_wp2_with fail
          refine CN.out.mono ?_
          rintro e w3 ⟨⟨mv, rfl, hmv⟩, hb3⟩
          obtain ⟨am, cm, rfl⟩ := hmv.form
          have HMV := Lib.hid hmv
          have HB3 := Lib.hid hb3
          have HB4 : Hid (Below wr.heap.size wr (w3.alloc (.cells #[.int .i64 z, .slice am ms.length cm, .int .i64 dr] 56))) := HB3.out.alloc HB3.out.size _
          have HBX : Hid (Below B w (w3.alloc (.cells #[.int .i64 z, .slice am ms.length cm, .int .i64 dr] 56))) := HBW.out.trans (HB4.out.mono HSr.out)
          have HA : Hid ((w3.alloc (.cells #[.int .i64 z, .slice am ms.length cm, .int .i64 dr] 56)).heap[w3.heap.size]? = some (Obj.cells #[.int .i64 z, .slice am ms.length cm, .int .i64 dr] 56 (0, 0))) := heap_alloc_new _ _
          clear hmv hb3 CN HM
          by_cases he : er = 0
          · subst he
            obtain ⟨hzL, hs1⟩ := HZL.out rfl
            have HMV5 : Hid (OwnC (w3.alloc (.cells #[.int .i64 z, .slice am ms.length cm, .int .i64 dr] 56)) wr.heap.size (.slice am ms.length cm) ms) := ownsRow_after HMV.out ((Below.refl _ _).alloc (Nat.le_refl _) _)
            have HGU5 : Hid (OwnGu (w3.alloc (.cells #[.int .i64 z, .slice am ms.length cm, .int .i64 dr] 56)) B (.slice a13 L.length c13) us L') := HGU.out.after HB4.out
            have hA3 : Hid (wr.heap.size ≤ w3.heap.size) := HB3.out.size
            have hwl : IntKind.i64.wrap ((L.length : Int) - 1) = (L.length : Int) - 1 := IntWalk.i64_in _ (by omega)
            go_wp2
            clear HMV HB3 HB4 HGU
            generalize w3.alloc (.cells #[.int .i64 z, .slice am ms.length cm, .int .i64 dr] 56) = w5 at *
            generalize w3.heap.size = A at *
            clear hwl
            go_loopw [18, 19] (fun tv iv wx => ∃ (jj : Nat) (t : Int), jj ≤ L.length ∧ tv = .int .i64 t ∧ iv = .int .i64 ((jj : Int) - 1) ∧ -1 ≤ t ∧ t ≤ 1000 ∧ Hid (ToS L' size z ms.length L.length jj t) ∧ Hid (Below w5.heap.size w5 wx)) (fun _ iv _ => (intOf iv + 1).toNat)
            case atStart => exact ⟨L.length, -1, Nat.le_refl _, rfl, rfl, by omega, by omega, .inl ⟨rfl, fun j h1 h2 => by omega⟩, Below.refl _ _⟩
            case round =>
              obtain ⟨jj, t, hjj, rfl, rfl, ht1, ht2, hto, hb⟩ := hrel
              have hx := (hb.out.block _ (Array.getElem?_eq_some_iff.1 HA.out).1).trans HA.out
              have k0 : wr.cell? ⟨A, 0, none⟩ = some (.int .i64 (z : Int)) := cell_of hx rfl
              have k1 : wr.cell? ⟨A, 1, none⟩ = some (.slice am ms.length cm) := cell_of hx rfl
              clear hx
              cases jj with
              | succ j =>
                have hil : j < L.length := by omega
                have hqz : (((j + 1 : Nat) : Int) - 1) = (j : Int) := by omega
                obtain ⟨g, c, x, kk, hv, hgB, hglt, hus, hcell, hfz⟩ := (HGU5.out.after hb.out).form (i := j) (by rw [HLEN.out]; exact hil)
                rw [HLEN.out] at hv
                simp only [Value.slice.injEq] at hv
                obtain ⟨rfl, hz9, rfl⟩ := hv
                have hil2 : (j : Int) < (L.length : Int) := by omega
                have hrl : (L'.getD j []).length ≤ 1000 := HLONG.out _ (by rw [List.getD_eq_getElem?_getD, List.getElem?_eq_getElem (by rw [HLEN.out]; exact hil)]; exact List.getElem_mem _)
                have HFI : Hid (fits L' size z ms.length j = (decide (j ≠ z) && decide ((ms.length : Int) ≤ size - ((L'.getD j []).length : Int)))) := rfl
                have HTO := Lib.hid hto.out
                clear hgB hus hglt hfz hz9 hto HST HSV HZL
                rw [hqz]
                clear hqz
                generalize L'.getD j [] = r at *
                have hwr : IntKind.i64.wrap ((r.length : Int) + (ms.length : Int)) = (r.length : Int) + (ms.length : Int) := IntWalk.i64_in _ (by omega)
                by_cases hzi : j = z
                · have ht : ((j : Int) != (z : Int)) = false := by rw [hzi]; simp
                  have HNX := Lib.hid (HTO.out.no (by rw [HFI.out, decide_eq_false (fun h => h hzi)]; rfl))
                  clear HTO HFI hzi
                  go_wp2
                  go_quiet (fail)
                  go_wp2
                  exact ⟨⟨j, t, by omega, rfl, by go_num, ht1, ht2, HNX, below_drewN hb.out _⟩, by simp [intOf]⟩
                · have ht : ((j : Int) != (z : Int)) = true := bne_iff_ne.2 (by omega)
                  by_cases hft : (r.length : Int) + (ms.length : Int) ≤ size
                  · have htd : decide ((r.length : Int) + (ms.length : Int) ≤ size) = true := decide_eq_true hft
                    have HNX : Hid (ToS L' size z ms.length L.length j (j : Int)) := ToS.yes hil (by rw [HFI.out, decide_eq_true hzi, decide_eq_true (by omega)]; rfl)
                    clear HTO HFI hft hzi
                    go_wp2
                    go_quiet (fail)
                    go_wp2
                    exact ⟨⟨j, (j : Int), by omega, rfl, by go_num, by omega, by omega, HNX, below_drewN hb.out _⟩, by simp [intOf]⟩
                  · have htd : decide ((r.length : Int) + (ms.length : Int) ≤ size) = false := decide_eq_false hft
                    have HNX := Lib.hid (HTO.out.no (by rw [HFI.out, decide_eq_false (by omega : ¬ (ms.length : Int) ≤ size - (r.length : Int)), Bool.and_false]))
                    clear HTO HFI hft hzi
                    go_wp2
                    go_quiet (fail)
                    go_wp2
                    exact ⟨⟨j, t, by omega, rfl, by go_num, ht1, ht2, HNX, below_drewN hb.out _⟩, by simp [intOf]⟩
              | zero =>
                have hqz : (((0 : Nat) : Int) - 1) = -1 := rfl
                rw [hqz]
                clear hqz
                rcases hto.out with ⟨rfl, hno⟩ | ⟨i, rfl, _, hil, hfi, hno⟩
                · have HRV : Hid (L' = RV) := by
                    refine (HST.out (N - k - 1) (by omega)).1 ?_
                    rw [HSV.out]
                    simp only [if_true]
                    rw [findI_none (fun j hj => hno j (Nat.zero_le _) (by rw [HLEN.out] at hj; exact hj))]
                    rfl
                  have HBF : Hid (Below B w wr) := HBX.out.trans (hb.out.mono (by have h1 := HBX.out.size; have h2 := hB0.out; omega))
                  clear HST HZL HSV HLONG hto hno
                  go_wp2
                  go_ret
                  exact ⟨⟨.slice a13 L.length c13, rfl, us, by have h5 := HGU5.out.after hb.out; rw [HRV.out, ← HRVE.out] at h5; exact h5⟩, HBF.out⟩
                have HFT : Hid (findI L' size z ms.length = some i) := findI_some (by rw [HLEN.out]; exact hil) hfi (fun j hj => hno j (Nat.zero_le _) hj)
                have hsp := findI_spec HFT.out
                obtain ⟨g, c, x, kk, hv, hgB, hglt, hus, hcell, hfz⟩ := (HGU5.out.after hb.out).form (i := i) (by rw [HLEN.out]; exact hil)
                rw [HLEN.out] at hv
                simp only [Value.slice.injEq] at hv
                obtain ⟨rfl, hz9, rfl⟩ := hv
                have hil2 : (i : Int) < (L.length : Int) := by omega
                have hrl : (L'.getD i []).length ≤ 1000 := HLONG.out _ (by rw [List.getD_eq_getElem?_getD, List.getElem?_eq_getElem (by rw [HLEN.out]; exact hil)]; exact List.getElem_mem _)
                have HGB := Lib.hid hgB
                have HUS := Lib.hid hus
                have hHF := hsp.2.2
                clear hgB hus hglt hz9 hto hno hfi hsp
                generalize hri : L'.getD i [] = r at *
                have HRI := Lib.hid hri
                clear hri
                have HHF : Hid ((ms.length : Int) ≤ size - (r.length : Int)) := by show _ ≤ _; omega
                clear hHF
                have HB0 := Lib.hid hb.out
                have z0 := k0
                have z1 := k1
                have z2 := hcell
                have z3 := hfz
                clear k0 k1 hcell hfz hb
                go_wp2
                generalize wr = w0 at *
                have HG0 := Lib.hid (HGU5.out.after HB0.out)
                have HM0 := Lib.hid (ownsRow_after HMV5.out HB0.out)
                have HO0 : Hid (OwnC w0 B (.slice x r.length kk) r) := by
                  have h5 := HG0.out.2.2.1 i (by rw [HLEN.out]; exact hil)
                  rw [HUS.out, HRI.out] at h5
                  exact h5
                have HS0 : Hid (B ≤ w0.heap.size) := by have h1 := HB0.out.size; have h2 := HBX.out.size; have h3 := hB0.out; show _ ≤ _; omega
                have HX0 := Lib.hid ((HB0.out.block _ (Array.getElem?_eq_some_iff.1 HA.out).1).trans HA.out)
                have hms : ms.length ≤ 1000 := by have := HHF.out; omega
                clear HMV5 HGU5
                go_region_law (first
                  | (refine step_appG rfl (.tmp 87) (.tmp 89) B 31 33 (.agg #[.int .i64 0, .int .i64 0]) 2 16 rfl Try.underlying31 infoC rfl (by decide) (.slice x r.length kk) r.length (flatC r) (by simp [Act.eval]) HO0.out (.slice am ms.length cm) ms.length (flatC ms) (by simp [Act.eval])
                       (OwnC.src HM0.out) (flatC_len ms) flatC_one (by omega) (by unfold maxLen; omega) HS0.out ?_
                     intro v6 w6 ho6 hg6' hat6
                     have hg6 : w0.grownBy w6 (Value.ownBlock (.slice x r.length kk)) := ⟨hg6'.os, hg6'.tape, hg6'.output, hg6'.size, hg6'.block⟩
                     obtain ⟨a6, c6, rfl⟩ := row_form ho6
                     have ho6' : OwnC w6 B (.slice a6 (r.length + ms.length) c6) (r ++ ms) := by
                       show w6.ownsRow _ _ _ _ _ _
                       rw [flatC_app, List.length_append]
                       exact ho6
                     have hfar : ∀ (q : Nat) (o : Obj), w0.heap[q]? = some o → (∀ cur, o ≠ Obj.cells cur 33 (0, 0)) → w6.heap[q]? = some o := fun q o hq hne => by
                       rw [hg6.block q (Array.getElem?_eq_some_iff.1 hq).1 (fun e => by
                         obtain ⟨_, cur, h7⟩ := ownsRow_block HO0.out e.symm
                         rw [hq] at h7
                         exact hne cur (Option.some.inj h7))]
                       exact hq
                     have hgo : ∃ cur, w0.heap[g]? = some (Obj.cells cur 31 (0, 0)) := (ownsRow_block HG0.out.2.1 rfl).2
                     have hgs : w6.heap[g]? = w0.heap[g]? := by
                       obtain ⟨cur, h7⟩ := hgo
                       rw [h7]
                       exact hfar g _ h7 (by intro c' e; simp at e)
                     have p0 : w6.cell? ⟨g, i, none⟩ = some (.slice x r.length kk) := by
                       have h7 := z2
                       unfold World.cell? at h7 ⊢
                       rw [hgs]
                       exact h7
                     have p1 : w6.frozen? ⟨g, i, none⟩ = false := by
                       have h7 := z3
                       unfold World.frozen? at h7 ⊢
                       rw [hgs]
                       exact h7
                     have HGM0 : OwnGu (w6.setCell ⟨g, i, none⟩ (.slice a6 (r.length + ms.length) c6)) B (.slice (some ⟨g, 0, none⟩) L'.length c13) (us.set i (.slice a6 (r.length + ms.length) c6)) (L'.set i (r ++ ms)) :=
                       OwnGu.move (by rw [HLEN.out]; exact HG0.out) (Below.refl _ _) (by rw [HLEN.out]; exact hil) (by rw [HUS.out]; exact hg6) ho6' (by rw [HUS.out]; exact hat6)
                     have HGM := Lib.hid HGM0
                     have hXA := hfar A _ HX0.out (by intro c' e; simp at e)
                     have HXA : Hid ((w6.setCell ⟨g, i, none⟩ (.slice a6 (r.length + ms.length) c6)).heap[A]? = some (Obj.cells #[.int .i64 z, .slice am ms.length cm, .int .i64 dr] 56 (0, 0))) := by
                       show _ = _
                       rw [heap_setCell_other w6 ⟨g, i, none⟩ A _ (fun e => by
                         obtain ⟨cur, h7⟩ := hgo
                         rw [show g = A from e.symm, HX0.out] at h7
                         simp at h7)]
                       exact hXA
                     have HB6 : Hid (Below B w (w6.setCell ⟨g, i, none⟩ (.slice a6 (r.length + ms.length) c6))) := (below_own HO0.out hg6 (HBX.out.trans (HB0.out.mono (by have h1 := HBX.out.size; have h2 := hB0.out; omega))) (Nat.le_refl _) HS0.out).setCell HGB.out _
                     clear ho6 ho6' hg6 hg6' hat6 hfar hgo hgs HGM0 hXA)
                  | fail)
                all_goals
                  have hzl2 : z < (L'.set i (r ++ ms)).length := by rw [List.length_set, HLEN.out]; exact hzL
                  have hlen2 : (L'.set i (r ++ ms)).length = L.length := by rw [List.length_set, HLEN.out]
                  obtain ⟨g2, c2, x2, k2, hv2, _, _, _, q0, q1⟩ := HGM.out.form hzl2
                  rw [hlen2, HLEN.out] at hv2
                  simp only [Value.slice.injEq, Option.some.injEq, Addr.mk.injEq, and_true, true_and] at hv2
                  obtain ⟨rfl, rfl⟩ := hv2
                  have y0 := cell_of (i := 0) HXA.out rfl
                  have hzi2 : (z : Int) < (L.length : Int) := by omega
                  have HCL : Hid (OwnGu ((w6.setCell ⟨g, i, none⟩ (.slice a6 (r.length + ms.length) c6)).setCell ⟨g, z, none⟩ nilS) B (.slice (some ⟨g, 0, none⟩) L.length c13) ((us.set i (.slice a6 (r.length + ms.length) c6)).set z nilS) ((L'.set i (r ++ ms)).set z [])) := by
                    have h5 := HGM.out
                    have hl9 : L'.length = (L'.set i (r ++ ms)).length := by rw [List.length_set]
                    rw [hl9] at h5
                    have h6 := h5.clear hzl2
                    rw [hlen2] at h6
                    exact h6
                  have HBC : Hid (Below B w ((w6.setCell ⟨g, i, none⟩ (.slice a6 (r.length + ms.length) c6)).setCell ⟨g, z, none⟩ nilS)) := HB6.out.setCell HGB.out _
                  have HRN : Hid (RunS B w V size hz now N (k + 1) RV L.length (.slice (some ⟨g, 0, none⟩) L.length c13) ((w6.setCell ⟨g, i, none⟩ (.slice a6 (r.length + ms.length) c6)).setCell ⟨g, z, none⟩ nilS)) := by
                    refine ⟨_, _, HCL.out, (HST.out (N - (k + 1)) (by omega)).2 _ ?_, by rw [List.length_set]; exact hlen2, fun r' hr' => ?_, HBC.out⟩
                    · rw [HSV.out]
                      simp only [if_true]
                      rw [HFT.out, ← HRI.out]
                      rfl
                    · rcases List.mem_or_eq_of_mem_set hr' with hr' | rfl
                      · rcases List.mem_or_eq_of_mem_set hr' with hr' | rfl
                        · exact HLONG.out r' hr'
                        · rw [List.length_append]
                          have := HHF.out
                          omega
                      · simp
                  clear HCL HBC HGM HXA HB6 HST HSV HFT HLONG HG0 HM0 HO0 HX0 z0 z1 z2 z3 hzl2 hlen2
                  go_wp2
                  trace_state
                  exact ⟨⟨k + 1, by omega, by go_num, HRN⟩, by simp [intOf]; omega⟩
          · have hee : (er != 0) = true := bne_iff_ne.2 he
            have HRV : Hid (L' = RV) := by
              refine (HST.out (N - k - 1) (by omega)).1 ?_
              rw [HSV.out, if_neg he]
            clear HST HZL HSV HLONG he
            go_wp2
            try rw [Exit.noGoto_ret]
            go_ret
            exact ⟨⟨.slice a13 L.length c13, rfl, us, by have h5 := HGU.out.after HB4.out; rw [HRV.out, ← HRVE.out] at h5; exact h5⟩, HBX.out⟩
        · have HRV : Hid (L' = RV) := by rw [show N - k = 0 by omega] at hrun; exact hrun
          have HGU := Lib.hid hgu
          have HBW := Lib.hid hbw
          have hkN : k = N := by omega
          have hend : decide ((k : Int) < steps) = false ∨ (decide ((k : Int) < steps) = true ∧ decide ((k : Int) < 1000) = false) := by
            by_cases q : (k : Int) < steps
            · right
              refine ⟨decide_eq_true q, decide_eq_false ?_⟩
              rcases (HSTP.out k).2 hkN with h | h <;> omega
            · exact .inl (decide_eq_false q)
          clear hrs hgu hrun hlen hlong hbw HSTP hlt hkN hk
          rcases hend with q1 | ⟨q1, q2⟩
          all_goals
            go_wp2
            try rw [Exit.noGoto_ret]
            go_ret
            exact ⟨⟨.slice a13 L.length c13, rfl, us, by have h5 := HGU.out; rw [HRV.out, ← HRVE.out] at h5; exact h5⟩, HBW.out⟩
end Go.Proofs.Ytkpnjehgbehhcaa
namespace Go.Proofs.Ytkpnjehgbehhcaa
open Go.RowKit Fl

theorem neqZ (w : World) (a b c : Int) : (binOp .neq 53 (.agg #[.int .i64 a, .int .i64 b, .int .i64 c]) (.agg #[.int .i64 a, .int .i64 b, .int .i64 c])).run Try.prog w = .ok (.bool false) w := by
  rw [run_neq_struct, show (10000 : Nat) = 9998 + 1 + 1 from rfl, run_equalIn_agg w (9998 + 1) 53 _ _ (by kernel_rfl) (by kernel_rfl)]
  have hu := Try.underlying53
  have h1 : ∀ w x, (Op.equalIn (9998 + 1) 3 (.int .i64 x) (.int .i64 x)).run Try.prog w = .ok true w := fun w x => by
    rw [run_equalIn_int w 9998 3 .i64 .i64 x x Try.underlying3]
    simp
  simp only [Program.fieldsOf, hu]
  go_simp
theorem egZ : Try.prog.eqGuardType Try.prog.depth 53 = false := by kernel_rfl

set_option maxHeartbeats 1600000 in
set_option maxRecDepth 16000 in
theorem walk_CleanPlans (w : World) (v : Value) (T : List Tx) (h : SlT w v T) (u : Value) (L : List (List Cp)) (g : SlR w u L) (size : Int) (_ : (Lit.int .i64 size).wf = true) (hz : Int) (_ : (Lit.int .i64 hz).wf = true) (now : Int) (_ : (Lit.int .i64 now).wf = true) (steps : Int) (_ : (Lit.int .i64 steps).wf = true) :
    Calls Try.prog 7 #[v, u, .int .i64 size, .int .i64 hz, .int .i64 now, .int .i64 steps] w fun e w' => e = .returned (.bool true) ∧ Below w.heap.size w w' := by
  obtain ⟨a, cap, rfl, ha, hle, hcap⟩ := SlG.form h
  obtain ⟨a2, cap2, rfl, ha2, hle2, hcap2⟩ := SlG.form g
  have CS := Lib.hid (small_any _ _ T L w h g)
  generalize hB : w.heap.size = B at *
  have hB0 : Hid (B ≤ w.heap.size) := Nat.le_of_eq hB.symm
  have HT : Hid (∀ w', Below B w w' → SlT w' (.slice a T.length cap) T) := fun w' hb => h.below (by rw [hB]; exact hb)
  have HG : Hid (∀ w', Below B w w' → SlR w' (.slice a2 L.length cap2) L) := fun w' hb => g.below (by rw [hB]; exact hb)
  have HC : Hid (∀ k, k < L.length → ∃ b o x c, a2 = some ⟨b, o, none⟩ ∧ ∀ w', Below B w w' → w'.cell? ⟨b, o + k, none⟩ = some (.slice x (L.getD k []).length c) ∧ SlC w' (.slice x (L.getD k []).length c) (L.getD k [])) := fun k hk => by
    obtain ⟨b, o, u, h1, h2, h3, h4⟩ := g.at rfl hk
    obtain ⟨x, c, rfl, _⟩ := SlG.form h4
    exact ⟨b, o, x, c, h1, fun w' hb => ⟨cell_keep h3 (by rw [hB]; exact hb), h4.below (by rw [hB]; exact hb)⟩⟩
  rename_i q1 q2 q3 q4
  clear h g hB q1 q2 q3 q4
  go_enter Try.func7, Try.ntmps7
  go_wp2_with fail
  refine CS.out.mono ?_
  rintro e w1 ⟨⟨r, rfl, hr⟩, hb1⟩
  have HB1 : Hid (Below B w w1) := hb1
  clear hb1 CS
  cases r with
  | false =>
    clear hr HC HT HG
    go_wp2_with fail
    refine (awake20_any _).mono ?_
    rintro e wz ⟨rfl, hbz⟩
    have HBZ : Hid (Below B w wz) := HB1.out.trans (hbz.mono (Nat.le_trans hB0.out HB1.out.size))
    clear hbz
    go_wp2
    go_ret
    exact ⟨rfl, HBZ.out⟩
  | true =>
    obtain ⟨htot, hTl⟩ := hr rfl
    clear hr
    by_cases h1 : 1000 < size
    · have hd2 : decide (1000 < size) = true := decide_eq_true h1
      clear HC HT HG
      go_wp2_with fail
      refine (awake20_any _).mono ?_
      rintro e wz ⟨rfl, hbz⟩
      have HBZ : Hid (Below B w wz) := HB1.out.trans (hbz.mono (Nat.le_trans hB0.out HB1.out.size))
      clear hbz
      go_wp2
      go_ret
      exact ⟨rfl, HBZ.out⟩
    have hd2 : decide (1000 < size) = false := decide_eq_false h1
    have hflat := tot_flat L
    have hLlen : L.length ≤ 1000 := by omega
    have hLrow : ∀ r ∈ L, r.length ≤ 1000 := fun r hr => by have := row_tot hr; omega
    have hLrow2 : ∀ r ∈ L, r.length ≤ 1000000 := fun r hr => by have := hLrow r hr; omega
    have CM := Lib.hid (made_any _ T hTl w1 (HT.out w1 HB1.out))
    go_wp2_with fail
    refine CM.out.mono ?_
    rintro e w2 ⟨⟨m, x, rfl, hm, hx⟩, hb2⟩
    have HB2 : Hid (Below B w w2) := HB1.out.trans (hb2.mono (Nat.le_trans hB0.out HB1.out.size))
    have HM : Hid (∀ w', Below w2.heap.size w2 w' → Mp w' w1.heap.size m (stV T T.length).1 (stV T T.length).2 (30 * T.length)) := fun w' hb => hm.below hb
    have HX : Hid (∀ w', Below w2.heap.size w2 w' → Rm w' w1.heap.size x (segs (stV T T.length).1 0 30) (stV T T.length).2 (30 * T.length)) := fun w' hb => hx.below hb
    have hS2 : Hid (B ≤ w2.heap.size) := Nat.le_trans hB0.out HB2.out.size
    have hV := stV_ok T T.length
    have hn30 : 30 * T.length ≤ 1000000 := by omega
    clear hm hx hb2 CM HT htot hflat
    generalize (stV T T.length).1 = V at *
    generalize (stV T T.length).2 = last at *
    have HG2 : Hid (∀ w', Below w2.heap.size w2 w' → SlR w' (.slice a2 L.length cap2) L) := fun w' hb => HG.out w' (HB2.out.trans (hb.mono hS2.out))
    have CZ := Lib.hid (zones_any _ L (by omega) hLrow2 size hz w2 (HG2.out _ (Below.refl _ _)) (HM.out _ (Below.refl _ _)))
    have CZ2 : Hid (∀ w', Below w2.heap.size w2 w' → Calls Try.prog 18 #[.pointer (some ⟨x, 0, none⟩), .slice a2 L.length cap2, .int .i64 size, .int .i64 hz] w' fun e w'' => (∃ v', e = .returned v' ∧ OwnZ w'' w'.heap.size v' (zonesV V size hz L)) ∧ Below w'.heap.size w' w'') := fun w' hb =>
      rzones_any hV hn30 _ L (by omega) hLrow2 size hz w' (HG2.out w' hb) (HX.out w' hb)
    have CL1 : Hid (∀ (cc : Cp) w', Below w2.heap.size w2 w' → Calls Try.prog 12 #[.pointer (some ⟨m, 0, none⟩), .agg #[.int .i64 cc.1, .int .i64 cc.2], .int .i64 hz] w' fun e w'' => e = .returned (.bool (liveV V cc hz)) ∧ Below w'.heap.size w' w'') := fun cc w' hb => live_any cc hz w' (HM.out w' hb)
    have CL2 : Hid (∀ (cc : Cp) w', Below w2.heap.size w2 w' → Calls Try.prog 19 #[.pointer (some ⟨x, 0, none⟩), .agg #[.int .i64 cc.1, .int .i64 cc.2], .int .i64 hz] w' fun e w'' => e = .returned (.bool (liveV V cc hz)) ∧ Below w'.heap.size w' w'') := fun cc w' hb => rlive_any hV cc hz w' (HX.out w' hb) hn30
    have CN1 : Hid (∀ w', Below w2.heap.size w2 w' → Calls Try.prog 13 #[.pointer (some ⟨m, 0, none⟩), .slice a2 L.length cap2, .int .i64 size, .int .i64 hz, .int .i64 now] w' fun e w'' =>
        (∃ mv, e = .returned (.tuple #[.agg #[.int .i64 (nextZ V L size hz now : Nat), mv, .int .i64 (nextD V L size hz now)], .int .i64 (nextE V L size hz now)]) ∧ OwnC w'' w'.heap.size mv (nextM V L size hz now)) ∧ Below w'.heap.size w' w'') := fun w' hb => next_any _ L (by omega) hLrow2 size hz now w' (HG2.out w' hb) (HM.out w' hb)
    have CN2 : Hid (∀ w', Below w2.heap.size w2 w' → Calls Try.prog 20 #[.pointer (some ⟨x, 0, none⟩), .slice a2 L.length cap2, .int .i64 size, .int .i64 hz, .int .i64 now] w' fun e w'' =>
        (∃ mv, e = .returned (.tuple #[.agg #[.int .i64 (nextZ V L size hz now : Nat), mv, .int .i64 (nextD V L size hz now)], .int .i64 (nextE V L size hz now)]) ∧ OwnC w'' w'.heap.size mv (nextM V L size hz now)) ∧ Below w'.heap.size w' w'') := fun w' hb => rnext_any hV hn30 _ L (by omega) hLrow2 size hz now w' (HG2.out w' hb) (HX.out w' hb)
    have CR1 : Hid (∀ w', Below w2.heap.size w2 w' → Calls Try.prog 11 #[.pointer (some ⟨m, 0, none⟩), .slice a2 L.length cap2, .int .i64 size, .int .i64 hz, .int .i64 now, .int .i64 steps] w' fun e w'' => (∃ v', e = .returned v' ∧ OwnG w'' w'.heap.size v' (runV V size hz now (stepsN steps) L)) ∧ Below w'.heap.size w' w'') := fun w' hb => run_any _ L hLlen hLrow size hz now steps (by omega) w' (HG2.out w' hb) (HM.out w' hb)
    have CR2 : Hid (∀ w', Below w2.heap.size w2 w' → Calls Try.prog 22 #[.pointer (some ⟨x, 0, none⟩), .slice a2 L.length cap2, .int .i64 size, .int .i64 hz, .int .i64 now, .int .i64 steps] w' fun e w'' => (∃ v', e = .returned v' ∧ OwnG w'' w'.heap.size v' (runV V size hz now (stepsN steps) L)) ∧ Below w'.heap.size w' w'') := fun w' hb => rrun_any hV hn30 _ L hLlen hLrow size hz now steps (by omega) w' (HG2.out w' hb) (HX.out w' hb)
    have HLR := Lib.hid hLrow
    clear HM HX HG HG2 hV hn30 hLrow hLrow2
    generalize runV V size hz now (stepsN steps) L = RV at *
    go_wp2_with fail
    refine CZ.out.mono ?_
    rintro e w3 ⟨⟨v15, rfl, hz15⟩, hb3⟩
    obtain ⟨a15, c15, rfl, _⟩ := OwnZ.form hz15
    rw [zonesV_len]
    have HB3 : Hid (Below w2.heap.size w2 w3) := hb3
    have HZ15 := Lib.hid hz15
    clear hb3 CZ hz15
    go_wp2_with fail
    refine (CZ2.out _ HB3.out).mono ?_
    rintro e w4 ⟨⟨v16, rfl, hz16⟩, hb4⟩
    have hz15 := ownsRow_after HZ15.out hb4
    obtain ⟨a15', c15', he15, hzc15⟩ := OwnZ.form (show OwnZ w4 _ _ _ from hz15)
    rw [zonesV_len] at he15
    simp only [Value.slice.injEq] at he15
    obtain ⟨rfl, he9, rfl⟩ := he15
    obtain ⟨a16, c16, rfl, hzc16⟩ := OwnZ.form hz16
    rw [zonesV_len] at hzc15 hzc16 ⊢
    have HB4 : Hid (Below w2.heap.size w2 w4) := HB3.out.trans (hb4.mono HB3.out.size)
    have HZC : Hid (∀ k, k < L.length → ∃ g g2, a15 = some ⟨g, 0, none⟩ ∧ a16 = some ⟨g2, 0, none⟩ ∧ ∀ w', Below w4.heap.size w4 w' →
        (w'.cell? ⟨g, k * 3, none⟩ = some (.int .i64 (zoneOf V size hz (L.getD k [])).1) ∧ w'.cell? ⟨g, k * 3 + 1, none⟩ = some (.int .i64 (zoneOf V size hz (L.getD k [])).2.1) ∧ w'.cell? ⟨g, k * 3 + 2, none⟩ = some (.int .i64 (zoneOf V size hz (L.getD k [])).2.2)) ∧
        (w'.cell? ⟨g2, k * 3, none⟩ = some (.int .i64 (zoneOf V size hz (L.getD k [])).1) ∧ w'.cell? ⟨g2, k * 3 + 1, none⟩ = some (.int .i64 (zoneOf V size hz (L.getD k [])).2.1) ∧ w'.cell? ⟨g2, k * 3 + 2, none⟩ = some (.int .i64 (zoneOf V size hz (L.getD k [])).2.2))) := fun k hk => by
      obtain ⟨g, q1, q2, q3, q4, q5⟩ := hzc15 k hk
      obtain ⟨g2, p1, p2, p3, p4, p5⟩ := hzc16 k hk
      rw [zonesV_get hk] at q3 q4 q5 p3 p4 p5
      exact ⟨g, g2, q1, p1, fun w' hb => ⟨⟨cell_keep q3 hb, cell_keep q4 hb, cell_keep q5 hb⟩, ⟨cell_keep p3 hb, cell_keep p4 hb, cell_keep p5 hb⟩⟩⟩
    have HW2 : Hid (∀ w', Below w4.heap.size w4 w' → Below w2.heap.size w2 w') := fun w' hb => HB4.out.trans (hb.mono HB4.out.size)
    have HWB : Hid (∀ w', Below w4.heap.size w4 w' → Below B w w') := fun w' hb => HB2.out.trans ((HW2.out w' hb).mono hS2.out)
    clear hz15 hz16 hzc15 hzc16 hb4 HZ15 HB3 CZ2 he9
    go_wp2
    go_loopw [17] (fun iv wx => ∃ i : Nat, i ≤ L.length ∧ iv = .int .i64 i ∧ Hid (Below w4.heap.size w4 wx)) (fun iv _ => L.length - (intOf iv).toNat)
    case atStart => exact ⟨0, Nat.zero_le _, rfl, Below.refl _ _⟩
    case round =>
      obtain ⟨i, hi, rfl, hb⟩ := hrel
      by_cases hil : i < L.length
      · obtain ⟨g, g2, rfl, rfl, hzc⟩ := HZC.out i hil
        obtain ⟨⟨y0, y1, y2⟩, ⟨z0, z1, z2⟩⟩ := hzc wr hb.out
        obtain ⟨b, o, xr, cr, rfl, hcr⟩ := HC.out i hil
        have hil2 : (i : Int) < (L.length : Int) := by omega
        have HCE : Hid (∀ w', Below w4.heap.size w4 w' → w'.cell? ⟨b, o + i, none⟩ = some (.slice xr (L.getD i []).length cr)) := fun w' h' => (hcr w' (HWB.out w' h')).1
        have HRD : Hid (∀ j, j < (L.getD i []).length → ∃ b2 o2, xr = some ⟨b2, o2, none⟩ ∧ ∀ w', Below w4.heap.size w4 w' → w'.cell? ⟨b2, o2 + j * 2, none⟩ = some (.int .i64 ((L.getD i []).getD j (0, 0)).1) ∧ w'.cell? ⟨b2, o2 + j * 2 + 1, none⟩ = some (.int .i64 ((L.getD i []).getD j (0, 0)).2)) := fun j hj => by
          obtain ⟨b2, o2, h1, h2⟩ := (hcr w4 (HWB.out w4 (Below.refl _ _))).2.rd (B := w4.heap.size) rfl j hj
          exact ⟨b2, o2, h1, fun w' h' => h2 w' h'⟩
        have hri9 : (L.getD i []).length ≤ 1000 := HLR.out _ (by rw [List.getD_eq_getElem?_getD, List.getElem?_eq_getElem hil]; exact List.getElem_mem hil)
        clear HZC HC hzc hcr CN1 CN2 CR1 CR2
        generalize L.getD i [] = ri at *
        generalize (zoneOf V size hz ri).1 = p0 at *
        generalize (zoneOf V size hz ri).2.1 = p1 at *
        generalize (zoneOf V size hz ri).2.2 = p2 at *
        have hgg := egZ
        have hqq := fun w => neqZ w p0 p1 p2
        go_wp2
        go_quiet (fail)
        have HB0 : Hid (Below w4.heap.size w4 (wr.drewN nq)) := below_drewN hb.out _
        clear y0 y1 y2 z0 z1 z2 hb hqq hgg
        go_wp2
        go_loopw [18] (fun kv wx => ∃ k : Nat, k ≤ ri.length ∧ kv = .int .i64 k ∧ Hid (Below w4.heap.size w4 wx)) (fun kv _ => ri.length - (intOf kv).toNat)
        case atStart => exact ⟨0, Nat.zero_le _, rfl, HB0⟩
        case round =>
          clear HB0
          obtain ⟨k, hk, rfl, hb⟩ := hrel
          have c0 := HCE.out wr hb.out
          by_cases hkl : k < ri.length
          · obtain ⟨b2, o2, rfl, hcj⟩ := HRD.out k hkl
            have hkl2 : (k : Int) < (ri.length : Int) := by omega
            have CLa := Lib.hid (CL1.out (ri.getD k (0, 0)))
            have CLb := Lib.hid (CL2.out (ri.getD k (0, 0)))
            have HCC : Hid (∀ w', Below w4.heap.size w4 w' → w'.cell? ⟨b, o + i, none⟩ = some (.slice (some ⟨b2, o2, none⟩) ri.length cr) ∧ w'.cell? ⟨b2, o2 + k * 2, none⟩ = some (.int .i64 (ri.getD k (0, 0)).1) ∧ w'.cell? ⟨b2, o2 + k * 2 + 1, none⟩ = some (.int .i64 (ri.getD k (0, 0)).2)) := fun w' h' => ⟨HCE.out w' h', (hcj w' h').1, (hcj w' h').2⟩
            have HB0 := Lib.hid hb.out
            clear HCE HRD hcj CL1 CL2 hb
            generalize ri.getD k (0, 0) = cj at *
            obtain ⟨c0', c1'⟩ := cj
            simp only at CLa CLb HCC
            generalize liveV V (c0', c1') hz = lv at *
            go_wp2
            clear c0
            cases lv
            all_goals
              go_region_held3 (fun w' => w'.cell? ⟨b, o + i, none⟩ = some (.slice (some ⟨b2, o2, none⟩) ri.length cr) ∧ w'.cell? ⟨b2, o2 + k * 2, none⟩ = some (.int .i64 c0') ∧ w'.cell? ⟨b2, o2 + k * 2 + 1, none⟩ = some (.int .i64 c1'))
                (first
                  | exact HCC.out _ HB0.out
                  | exact HCC.out _ HB0.out.drew
                  | exact HCC.out _ HBa.out
                  | exact HCC.out _ HBb.out
                  | fail)
                (first
                  | (go_at_call 12; refine (CLa.out _ (HW2.out _ (by first | exact HBb.out | exact HB0.out.drew | exact HB0.out))).mono ?_; rintro e w7 ⟨rfl, hb7⟩
                     have HBa : Hid (Below w4.heap.size w4 w7) := (by first | exact HBb.out.trans (hb7.mono HBb.out.size) | exact HB0.out.drew.trans (hb7.mono HB0.out.drew.size) | exact HB0.out.trans (hb7.mono HB0.out.size))
                     clear hb7)
                  | (go_at_call 19; refine (CLb.out _ (HW2.out _ (by first | exact HBa.out | exact HB0.out.drew | exact HB0.out))).mono ?_; rintro e w8 ⟨rfl, hb8⟩
                     have HBb : Hid (Below w4.heap.size w4 w8) := (by first | exact HBa.out.trans (hb8.mono HBa.out.size) | exact HB0.out.drew.trans (hb8.mono HB0.out.drew.size) | exact HB0.out.trans (hb8.mono HB0.out.size))
                     clear hb8)
                  | fail)
            all_goals
              go_wp2
              exact ⟨⟨k + 1, by omega, by go_num, by first | exact HBb | exact HBa⟩, by simp [intOf]; omega⟩
          · go_wp2
            exact ⟨⟨i + 1, by omega, by go_num, hb⟩, by simp [intOf]; omega⟩
      · clear HZC HC CL1 CL2
        have HB5 := Lib.hid hb.out
        clear hb
        generalize nextZ V L size hz now = z at *
        generalize nextM V L size hz now = ms at *
        generalize nextE V L size hz now = er at *
        generalize nextD V L size hz now = dr at *
        go_wp2_with fail
        refine (CN1.out _ (HW2.out _ HB5.out)).mono ?_
        rintro e w5 ⟨⟨mv, rfl, hmv⟩, hb5⟩
        obtain ⟨am, cm, rfl⟩ := hmv.form
        have HB6 : Hid (Below w4.heap.size w4 (w5.alloc (.cells #[.int .i64 z, .slice am ms.length cm, .int .i64 dr] 37))) := (HB5.out.trans (hb5.mono HB5.out.size)).alloc (Nat.le_trans HB5.out.size hb5.size) _
        have HA6 : Hid ((w5.alloc (.cells #[.int .i64 z, .slice am ms.length cm, .int .i64 dr] 37)).heap[w5.heap.size]? = some (Obj.cells #[.int .i64 z, .slice am ms.length cm, .int .i64 dr] 37 (0, 0))) := heap_alloc_new _ _
        have HO6 := Lib.hid (ownsRow_after hmv ((Below.refl _ _).alloc (Nat.le_refl _) (.cells #[.int .i64 z, .slice am ms.length cm, .int .i64 dr] 37)))
        clear hmv hb5 CN1
        go_wp2_with fail
        refine (CN2.out _ (HW2.out _ HB6.out)).mono ?_
        rintro e w6 ⟨⟨mv2, rfl, hmv2⟩, hb6⟩
        obtain ⟨am2, cm2, rfl⟩ := hmv2.form
        have HB7 : Hid (Below w4.heap.size w4 (w6.alloc (.cells #[.int .i64 z, .slice am2 ms.length cm2, .int .i64 dr] 56))) := (HB6.out.trans (hb6.mono HB6.out.size)).alloc (Nat.le_trans HB6.out.size hb6.size) _
        have hAl : Below w6.heap.size w6 (w6.alloc (.cells #[.int .i64 z, .slice am2 ms.length cm2, .int .i64 dr] 56)) := (Below.refl _ _).alloc (Nat.le_refl _) _
        have hA7 := (hb6.block _ (Array.getElem?_eq_some_iff.1 HA6.out).1).trans HA6.out
        have hA8 := (hAl.block _ (Array.getElem?_eq_some_iff.1 hA7).1).trans hA7
        have hA9 : (w6.alloc (.cells #[.int .i64 z, .slice am2 ms.length cm2, .int .i64 dr] 56)).heap[w6.heap.size]? = some (Obj.cells #[.int .i64 z, .slice am2 ms.length cm2, .int .i64 dr] 56 (0, 0)) := heap_alloc_new _ _
        have k0 : (w6.alloc (.cells #[.int .i64 z, .slice am2 ms.length cm2, .int .i64 dr] 56)).cell? ⟨w5.heap.size, 0, none⟩ = some (.int .i64 (z : Int)) := cell_of hA8 rfl
        have k1 : (w6.alloc (.cells #[.int .i64 z, .slice am2 ms.length cm2, .int .i64 dr] 56)).cell? ⟨w5.heap.size, 1, none⟩ = some (.slice am ms.length cm) := cell_of hA8 rfl
        have k2 : (w6.alloc (.cells #[.int .i64 z, .slice am2 ms.length cm2, .int .i64 dr] 56)).cell? ⟨w5.heap.size, 2, none⟩ = some (.int .i64 dr) := cell_of hA8 rfl
        have k3 : (w6.alloc (.cells #[.int .i64 z, .slice am2 ms.length cm2, .int .i64 dr] 56)).cell? ⟨w6.heap.size, 0, none⟩ = some (.int .i64 (z : Int)) := cell_of hA9 rfl
        have k4 : (w6.alloc (.cells #[.int .i64 z, .slice am2 ms.length cm2, .int .i64 dr] 56)).cell? ⟨w6.heap.size, 1, none⟩ = some (.slice am2 ms.length cm2) := cell_of hA9 rfl
        have k5 : (w6.alloc (.cells #[.int .i64 z, .slice am2 ms.length cm2, .int .i64 dr] 56)).cell? ⟨w6.heap.size, 2, none⟩ = some (.int .i64 dr) := cell_of hA9 rfl
        have CRW := Lib.hid (rows_any _ _ ms ms _ (OwnC.slc (ownsRow_after (ownsRow_after HO6.out hb6) hAl)) (OwnC.slc (ownsRow_after hmv2 hAl)))
        have htt : decide (ms = ms) = true := decide_eq_true rfl
        rw [htt] at CRW
        clear hmv2 hb6 hAl hA7 hA8 hA9 HA6 HO6 CN2 htt
        go_wp2_with fail
        refine CRW.out.mono ?_
        rintro e w8 ⟨rfl, hb8⟩
        have HB8 := Lib.hid (HB7.out.trans (hb8.mono HB7.out.size))
        clear hb8 CRW k0 k1 k2 k3 k4 k5
        go_wp2_with fail
        refine (CR1.out _ (HW2.out _ HB8.out)).mono ?_
        rintro e w9 ⟨⟨v9, rfl, hg9⟩, hb9⟩
        obtain ⟨us9, hgu9⟩ := hg9
        obtain ⟨a9, c9, rfl⟩ := row_form hgu9.2.1
        have HB9 := Lib.hid (HB8.out.trans (hb9.mono HB8.out.size))
        have HGU9 := Lib.hid hgu9
        clear hgu9 hb9 CR1
        go_wp2_with fail
        refine (CR2.out _ (HW2.out _ HB9.out)).mono ?_
        rintro e w10 ⟨⟨v10, rfl, hg10⟩, hb10⟩
        obtain ⟨us10, hgu10⟩ := hg10
        obtain ⟨a10, c10, rfl⟩ := row_form hgu10.2.1
        have HB10 := Lib.hid (HB9.out.trans (hb10.mono HB9.out.size))
        have CC := Lib.hid (copies_any _ _ RV RV w10 (OwnG.slr ⟨us9, HGU9.out.after hb10⟩) (OwnG.slr ⟨us10, hgu10⟩))
        have htt : decide (RV = RV) = true := decide_eq_true rfl
        rw [htt] at CC
        clear hgu10 hb10 CR2 htt HGU9
        go_wp2_with fail
        refine CC.out.mono ?_
        rintro e w11 ⟨rfl, hb11⟩
        have HBY : Hid (Below B w w11) := HWB.out _ (HB10.out.trans (hb11.mono HB10.out.size))
        clear hb11 CC
        go_wp2_with fail
        refine (awake20_any _).mono ?_
        rintro e wz ⟨rfl, hbz⟩
        have HBZ : Hid (Below B w wz) := HBY.out.trans (hbz.mono (Nat.le_trans hB0.out HBY.out.size))
        clear hbz
        go_wp2
        go_ret
        exact ⟨rfl, HBZ.out⟩
end Go.Proofs.Ytkpnjehgbehhcaa
