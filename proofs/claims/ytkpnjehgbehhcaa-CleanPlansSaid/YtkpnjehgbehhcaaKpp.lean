/- What cleaning keeps: plain. -/
import Derived.Test.YtkpnjehgbehhcaaRnp
namespace Go.Proofs.Ytkpnjehgbehhcaa
open Go.RowKit Fl

/-- a sum over the rows -/
def sumR (f : List Cp → Nat) (L : List (List Cp)) : Nat := (L.map f).sum
theorem sumR_set (f : List Cp → Nat) : ∀ (L : List (List Cp)) (i : Nat) (x : List Cp), i < L.length → sumR f (L.set i x) + f (L.getD i []) = sumR f L + f x := by
  intro L
  induction L with
  | nil => intro i x h; simp at h
  | cons r L ih =>
    intro i x h
    cases i with
    | zero => simp only [List.set_cons_zero, sumR, List.map_cons, List.sum_cons, List.getD_cons_zero]; omega
    | succ i =>
      have := ih i x (by simpa using h)
      simp only [List.set_cons_succ, sumR, List.map_cons, List.sum_cons, List.getD_cons_succ] at this ⊢
      omega
theorem sumR_flat (L : List (List Cp)) : sumR List.length L = L.flatten.length := by
  unfold sumR; rw [List.length_flatten]
theorem sumR_count (c : Cp) (L : List (List Cp)) : sumR (List.count c) L = L.flatten.count c := by
  unfold sumR; rw [List.count_flatten]

/-- a step that is made -/
theorem stepV_spec {V : Int → List Int} {size hz now : Int} {L L' : List (List Cp)} (h : stepV V size hz now L = some L') :
    ∃ i z, nextE V L size hz now = 0 ∧ z = nextZ V L size hz now ∧ i < L.length ∧ z < L.length ∧ i ≠ z ∧ nextM V L size hz now = movesV V hz (L.getD z []) ∧ ((nextM V L size hz now).length : Int) + ((L.getD i []).length : Int) ≤ size ∧
      L' = (L.set i (L.getD i [] ++ movesV V hz (L.getD z []))).set z [] := by
  unfold stepV at h
  split at h
  · rename_i he
    cases hf : findI L size (nextZ V L size hz now) (nextM V L size hz now).length with
    | none => rw [hf] at h; cases h
    | some i =>
      rw [hf] at h
      obtain ⟨h1, h2, h3⟩ := findI_spec hf
      have hz' := he
      unfold nextE at hz'
      split at hz'
      · have hr : nextR V L size hz now ≠ [] := fun e => by
          unfold chE at hz'
          rw [if_pos e] at hz'
          cases hz'
        have hzl := (fullN_mem (nextK_place hr)).1
        have e1 : nextZ V L size hz now = nextK V L size hz now := by unfold nextZ; rw [if_pos he]
        have e2 : nextM V L size hz now = movesV V hz (L.getD (nextK V L size hz now) []) := by unfold nextM; rw [if_pos he]
        refine ⟨i, _, he, rfl, h1, by rw [e1]; exact hzl, h2, by rw [e2, e1], h3, ?_⟩
        rw [← Option.some.inj h, e2, e1]
      · cases hz'
  · cases h

theorem step_sum {V : Int → List Int} {size hz now : Int} {L L' : List (List Cp)} (h : stepV V size hz now L = some L') (f : List Cp → Nat) (ha : ∀ a b, f (a ++ b) = f a + f b) (h0 : f [] = 0) :
    ∃ z, z < L.length ∧ sumR f L' + f (L.getD z []) = sumR f L + f (movesV V hz (L.getD z [])) := by
  obtain ⟨i, z, _, _, hi, hzl, hne, _, _, rfl⟩ := stepV_spec h
  refine ⟨z, hzl, ?_⟩
  have h1 := sumR_set f L i (L.getD i [] ++ movesV V hz (L.getD z [])) hi
  have h2 := sumR_set f (L.set i (L.getD i [] ++ movesV V hz (L.getD z []))) z [] (by rw [List.length_set]; exact hzl)
  rw [getD_set L i z _ [] hi, if_neg hne, h0] at h2
  rw [ha] at h1
  omega
theorem count_moves (V : Int → List Int) (hz : Int) (c : Cp) (r : List Cp) : (movesV V hz r).count c = if liveV V c hz = true then r.count c else 0 := by
  unfold movesV
  split
  · rename_i hl
    exact List.count_filter hl
  · rename_i hl
    exact List.count_eq_zero.2 fun hm => hl (List.mem_filter.1 hm).2
/-- what cleaning keeps -/
structure Keep (V : Int → List Int) (size hz : Int) (L R : List (List Cp)) : Prop where
  len : R.length = L.length
  rows : ∀ i, i < L.length → ((L.getD i []).length : Int) ≤ size → ((R.getD i []).length : Int) ≤ size
  live : ∀ c, liveV V c hz = true → R.flatten.count c = L.flatten.count c
  less : ∀ c, R.flatten.count c ≤ L.flatten.count c
  all : R.flatten.length ≤ L.flatten.length
theorem Keep.refl (V : Int → List Int) (size hz : Int) (L : List (List Cp)) : Keep V size hz L L := ⟨rfl, fun _ _ h => h, fun _ _ => rfl, fun _ => Nat.le_refl _, Nat.le_refl _⟩
theorem Keep.trans {V : Int → List Int} {size hz : Int} {L M R : List (List Cp)} (h : Keep V size hz L M) (g : Keep V size hz M R) : Keep V size hz L R :=
  ⟨g.len.trans h.len, fun i hi hl => g.rows i (by rw [h.len]; exact hi) (h.rows i hi hl), fun c hc => (g.live c hc).trans (h.live c hc), fun c => Nat.le_trans (g.less c) (h.less c), Nat.le_trans g.all h.all⟩
theorem step_keep {V : Int → List Int} {size hz now : Int} {L L' : List (List Cp)} (h : stepV V size hz now L = some L') : Keep V size hz L L' := by
  have hc : ∀ c, ∃ z, z < L.length ∧ L'.flatten.count c + (L.getD z []).count c = L.flatten.count c + (movesV V hz (L.getD z [])).count c := fun c => by
    obtain ⟨z, h1, h2⟩ := step_sum h (List.count c) (fun a b => List.count_append ..) List.count_nil
    rw [sumR_count, sumR_count] at h2
    exact ⟨z, h1, h2⟩
  refine ⟨?_, fun j hj hjl => ?_, fun c hl => ?_, fun c => ?_, ?_⟩
  · obtain ⟨i, z, _, _, _, _, _, _, _, rfl⟩ := stepV_spec h
    rw [List.length_set, List.length_set]
  · obtain ⟨i, z, he, _, hi, hzl, _, hm, hfit, rfl⟩ := stepV_spec h
    rw [getD_set _ z j [] [] (by rw [List.length_set]; exact hzl), getD_set L i j _ [] hi]
    split
    · simp
      unfold nextE at he
      split at he
      · rename_i hna
        unfold nextA at hna
        simp only [Bool.and_eq_true, Bool.not_eq_true', decide_eq_false_iff_not] at hna
        omega
      · cases he
    · split
      · rw [hm] at hfit
        rw [List.length_append]
        omega
      · exact hjl
  · obtain ⟨z, _, h2⟩ := hc c
    rw [count_moves, if_pos hl] at h2
    omega
  · obtain ⟨z, _, h2⟩ := hc c
    rw [count_moves] at h2
    split at h2 <;> omega
  · obtain ⟨z, _, h2⟩ := step_sum h List.length (fun a b => List.length_append) rfl
    rw [sumR_flat, sumR_flat] at h2
    have : (movesV V hz (L.getD z [])).length ≤ (L.getD z []).length := List.length_filter_le _ _
    omega
theorem run_keep {V : Int → List Int} {size hz now : Int} : ∀ (n : Nat) (L : List (List Cp)), Keep V size hz L (runV V size hz now n L) := by
  intro n
  induction n with
  | zero => intro L; exact Keep.refl _ _ _ _
  | succ n ih =>
    intro L
    cases hs : stepV V size hz now L with
    | none => rw [runV_none hs]; exact Keep.refl _ _ _ _
    | some L' => rw [runV_some hs]; exact (step_keep hs).trans (ih L')
end Go.Proofs.Ytkpnjehgbehhcaa
