/- The ends of what is sorted are the least and the greatest: the plain part, and the walks of Min and Max. -/
import Derived.Test.YticpfopjffbgbaaMst
namespace Go.Proofs.Yticpfopjffbgbaa
open Go.RowKit Fl

theorem ck_toCW {x : Nat} (h : x < 2^64) : (toCW x).key = ck x := by unfold CW.key ck; rw [toCW_val h]
theorem ck_cw (c : CW) : ck c.1 = c.key := by unfold CW.key ck; rw [c.2.2]

theorem sortF_mem {l : List Nat} (hb : ∀ x ∈ l, x < 2^64) (j : Nat) (hj : j < (sortF l).length) : ∃ x ∈ l, (sortF l)[j] = canon x := by
  have h : (sortF l)[j] ∈ sortF l := List.getElem_mem hj
  unfold sortF at h
  obtain ⟨c, hc, he⟩ := List.mem_map.1 h
  have hm := (sortC_perm (l.map toCW)).mem_iff.1 hc
  obtain ⟨x, hx, rfl⟩ := List.mem_map.1 hm
  refine ⟨x, hx, ?_⟩
  rw [← toCW_val (hb x hx), he]; rfl
theorem sortF_at {l : List Nat} {x : Nat} (hb : ∀ x ∈ l, x < 2^64) (hx : x ∈ l) : ∃ j, ∃ hj : j < (sortF l).length, (sortF l)[j] = canon x := by
  have h1 : toCW x ∈ sortC (l.map toCW) := (sortC_perm _).mem_iff.2 (List.mem_map.2 ⟨x, hx, rfl⟩)
  have h2 : canon x ∈ sortF l := List.mem_map.2 ⟨_, h1, toCW_val (hb x hx)⟩
  obtain ⟨j, hj, e⟩ := List.getElem_of_mem h2
  exact ⟨j, hj, e⟩
theorem sortF_le {l : List Nat} (i j : Nat) (hi : i < (sortF l).length) (hj : j < (sortF l).length) (h : i ≤ j) : ck (sortF l)[i] ≤ ck (sortF l)[j] := by
  have hp := sortC_pair (l.map toCW)
  rw [List.pairwise_iff_getElem] at hp
  have e : ∀ k (hk : k < (sortF l).length), ck (sortF l)[k] = ((sortC (l.map toCW))[k]'(by unfold sortF at hk; simpa using hk)).key := fun k hk => by
    rw [← ck_cw]; congr 1
    exact List.getElem_map ..
  rw [e, e]
  rcases Nat.eq_or_lt_of_le h with rfl | h
  · exact Nat.le_refl _
  · exact hp i j _ _ h
theorem ck_canon' (x : Nat) : ck (canon x) = ck x := by unfold ck; rw [canon_canon]

theorem fold_end (mx : Bool) : ∀ (l : List Nat) (z : Nat), (l.foldl (mstep mx) z ∈ z :: l) ∧ ∀ x ∈ z :: l, if mx then ck x ≤ ck (l.foldl (mstep mx) z) else ck (l.foldl (mstep mx) z) ≤ ck x
  | [], z => ⟨by simp, fun x hx => by
      have : x = z := by simpa using hx
      subst this; cases mx <;> simp⟩
  | y :: l, z => by
    obtain ⟨h1, h2⟩ := fold_end mx l (mstep mx z y)
    have hs : mstep mx z y = y ∨ mstep mx z y = z := by unfold mstep; split; exact .inl rfl; exact .inr rfl
    have hz : if mx then ck z ≤ ck (mstep mx z y) ∧ ck y ≤ ck (mstep mx z y) else ck (mstep mx z y) ≤ ck z ∧ ck (mstep mx z y) ≤ ck y := by
      unfold mstep better
      cases mx <;> simp <;> split <;> omega
    rw [List.foldl_cons]
    constructor
    · rcases List.mem_cons.1 h1 with h | h
      · rw [h]; rcases hs with e | e <;> rw [e] <;> simp
      · simp [h]
    · intro x hx
      have h3 := h2 (mstep mx z y) (by simp)
      have h4 : x = z ∨ x = y ∨ x ∈ l := by simpa using hx
      rcases h4 with rfl | rfl | h
      · cases mx <;> simp at hz h3 ⊢ <;> omega
      · cases mx <;> simp at hz h3 ⊢ <;> omega
      · exact h2 x (by simp [h])

theorem key_nan {x : Nat} (hx : x < 2^64) (h : isNaN x = false) : ck x < ck cN := by
  unfold ck
  rw [canon_cN, canon_of_not h, keyF_eq hx, keyF_eq (by decide : cN < 2^64), show sg cN = false from by decide]
  unfold isNaN at h
  rw [decide_eq_false_iff_not] at h
  unfold rung at h
  cases hs : sg x
  · have := (sg_false hx).1 hs
    simp only [Bool.false_eq_true, if_false]; unfold cN; omega
  · simp only [if_true, Bool.false_eq_true, if_false]
    have : ¬ x < 2^63 := fun h => by rw [(sg_false hx).2 h] at hs; cases hs
    unfold cN; omega

/-- Min and Max against the ends -/
theorem ends_end {l : List Nat} (hb : ∀ x ∈ l, x < 2^64) (h0 : 0 < l.length) (hs : 0 < (sortF l).length) :
    (isNaN (sortF l)[(sortF l).length - 1] = true → mostV false l = cN ∧ mostV true l = cN) ∧
    (isNaN (sortF l)[(sortF l).length - 1] = false → (canon (mostV false l) == canon (sortF l)[0]) = true ∧ (canon (mostV true l) == canon (sortF l)[(sortF l).length - 1]) = true) := by
  constructor
  · intro h
    obtain ⟨x, hx, e⟩ := sortF_mem hb ((sortF l).length - 1) (by omega)
    rw [e, isNaN_canon] at h
    have ha : l.any isNaN = true := List.any_eq_true.2 ⟨x, hx, h⟩
    unfold mostV
    rw [ha]; exact ⟨rfl, rfl⟩
  · intro h
    have ha : l.any isNaN = false := by
      rw [List.any_eq_false]
      intro x hx hn
      obtain ⟨j, hj, e⟩ := sortF_at hb hx
      have h1 := sortF_le j ((sortF l).length - 1) hj (by omega) (by omega)
      obtain ⟨y, hy, e2⟩ := sortF_mem hb ((sortF l).length - 1) (by omega)
      rw [e2, isNaN_canon] at h
      rw [e, e2, ck_canon', ck_canon'] at h1
      have h2 := key_nan (hb y hy) h
      have h3 : ck x = ck cN := by unfold ck; rw [canon_of_nan hn, canon_cN]
      omega
    have hm : ∀ mx, mostV mx l ∈ l ∧ ∀ x ∈ l, if mx then ck x ≤ ck (mostV mx l) else ck (mostV mx l) ≤ ck x := fun mx => by
      unfold mostV
      rw [ha]
      obtain ⟨h1, h2⟩ := fold_end mx l (l.headD 0)
      have hh : l.headD 0 ∈ l := by cases l with
        | nil => simp at h0
        | cons y l => simp
      refine ⟨?_, fun x hx => h2 x (by simp [hx])⟩
      rcases List.mem_cons.1 h1 with e | e
      · rw [if_neg (by simp), e]; exact hh
      · rw [if_neg (by simp)]; exact e
    have same : ∀ j (hj : j < (sortF l).length) mx, ck (mostV mx l) = ck (sortF l)[j] → (canon (mostV mx l) == canon (sortF l)[j]) = true := fun j hj mx e => by
      obtain ⟨x, hx, ex⟩ := sortF_mem hb j hj
      rw [ck_same (hb _ (hm mx).1) (by rw [ex]; exact canon_lt' (hb x hx)), e]; simp
    obtain ⟨x0, hx0, e0⟩ := sortF_mem hb 0 hs
    obtain ⟨x1, hx1, e1⟩ := sortF_mem hb ((sortF l).length - 1) (by omega)
    refine ⟨same 0 hs false ?_, same _ (by omega) true ?_⟩
    · have a := (hm false).2 x0 hx0
      obtain ⟨j, hj, e⟩ := sortF_at hb (hm false).1
      have b := sortF_le 0 j hs hj (by omega)
      rw [e, ck_canon'] at b
      rw [e0, ck_canon'] at b ⊢
      simp at a; omega
    · have a := (hm true).2 x1 hx1
      obtain ⟨j, hj, e⟩ := sortF_at hb (hm true).1
      have b := sortF_le j ((sortF l).length - 1) hj (by omega) (by omega)
      rw [e, ck_canon'] at b
      rw [e1, ck_canon'] at b ⊢
      simp at a; omega

set_option maxHeartbeats 400000 in
theorem min_any (v : Value) (l : List Nat) (hl : l.length * 8 ≤ 140737488351232) (w : World) (h : Sl encF w v l) :
    Calls Try.prog 18 #[v] w fun e w' => e = .returned (.tuple #[.float .f64 (mostR false l), .int .i64 (mostE l)]) ∧ w = w' := by
  obtain ⟨a, cap, rfl, _, _, hA⟩ := h
  by_cases h0 : l = []
  · subst h0
    exact min_nil a cap w
  · have H := Lib.hid (most_some false a cap l (List.length_pos_iff.2 h0) hl w hA)
    rw [show mostR false l = mostV false l from if_neg h0, show mostE l = 0 from if_neg h0]
    clear hA h0
    go_enter Try.func18, Try.ntmps18
    go_wp2_with (go_at_call 34; refine (H.out).mono ?_; rintro e w' ⟨rfl, rfl⟩)
    go_ret2
    exact ⟨rfl, rfl⟩

set_option maxHeartbeats 400000 in
theorem max_any (v : Value) (l : List Nat) (hl : l.length * 8 ≤ 140737488351232) (w : World) (h : Sl encF w v l) :
    Calls Try.prog 20 #[v] w fun e w' => e = .returned (.tuple #[.float .f64 (mostR true l), .int .i64 (mostE l)]) ∧ w = w' := by
  obtain ⟨a, cap, rfl, _, _, hA⟩ := h
  by_cases h0 : l = []
  · subst h0
    have H := Lib.hid (most_nil a cap 1 w)
    clear hA
    go_enter Try.func20, Try.ntmps20
    go_wp2_with (go_at_call 34; refine (H.out).mono ?_; rintro e w' ⟨rfl, rfl⟩)
    go_ret2
    exact ⟨rfl, rfl⟩
  · have H := Lib.hid (most_some true a cap l (List.length_pos_iff.2 h0) hl w hA)
    rw [show mostR true l = mostV true l from if_neg h0, show mostE l = 0 from if_neg h0]
    clear hA h0
    go_enter Try.func20, Try.ntmps20
    go_wp2_with (go_at_call 34; refine (H.out).mono ?_; rintro e w' ⟨rfl, rfl⟩)
    go_ret2
    exact ⟨rfl, rfl⟩
end Go.Proofs.Yticpfopjffbgbaa
