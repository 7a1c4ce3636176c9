/- What Next tells of the zone that it names; a step drops copies. Plain. -/
import Derived.Test.YtkpnjehgbehhcaaKpp
import Derived.Test.YtkpnjehgbehhcaaSeg
namespace Go.Proofs.Ytkpnjehgbehhcaa
open Go.RowKit Fl

theorem fullZ_get {V : Int → List Int} {size hz : Int} {L : List (List Cp)} {n j : Nat} (hj : j < (fullN L size n).length) : (fullZ V size hz L n).getD j (0, 0, 0) = zoneOf V size hz (L.getD ((fullN L size n).getD j 0) []) := by
  unfold fullZ
  rw [List.getD_eq_getElem?_getD, List.getElem?_map, List.getElem?_eq_getElem hj, List.getD_eq_getElem?_getD, List.getD_eq_getElem?_getD, List.getElem?_eq_getElem hj]
  rfl
theorem fitN_all {L : List (List Cp)} {size : Int} : ∀ {k : Nat}, fitN L size k = true → ∀ j, j < k → ((L.getD j []).length : Int) ≤ size := by
  intro k
  induction k with
  | zero => intro _ j h; omega
  | succ k ih =>
    intro h j hj
    unfold fitN at h
    simp only [Bool.and_eq_true, Bool.not_eq_true', decide_eq_false_iff_not] at h
    rcases Nat.lt_or_ge j k with h' | h'
    · exact ih h.1 j h'
    · obtain rfl : j = k := by omega
      omega
theorem fitN_mk {L : List (List Cp)} {size : Int} : ∀ {k : Nat}, (∀ j, j < k → ((L.getD j []).length : Int) ≤ size) → fitN L size k = true := by
  intro k
  induction k with
  | zero => intro _; rfl
  | succ k ih =>
    intro h
    unfold fitN
    rw [ih (fun j hj => h j (by omega)), decide_eq_false (by have := h k (by omega); omega)]
    rfl
/-- what Next tells -/
structure NextOk (V : Int → List Int) (L : List (List Cp)) (size hz now : Int) : Prop where
  one : 1 ≤ size
  fit : ∀ j, j < L.length → ((L.getD j []).length : Int) ≤ size
  lt : nextZ V L size hz now < L.length
  full : ((L.getD (nextZ V L size hz now) []).length : Int) = size
  moves : nextM V L size hz now = movesV V hz (L.getD (nextZ V L size hz now) [])
  drops : nextD V L size hz now = size - ((nextM V L size hz now).length : Int)
  less : ((nextM V L size hz now).length : Int) < size
  rank : nextR V L size hz now ≠ []
  zone : nextZ V L size hz now = (fullN L size L.length).getD (chK (nextR V L size hz now)) 0
theorem next_ok {V : Int → List Int} {L : List (List Cp)} {size hz now : Int} (h : nextE V L size hz now = 0) : NextOk V L size hz now := by
  have h0 := h
  unfold nextE at h
  split at h
  · rename_i ha
    have hr : nextR V L size hz now ≠ [] := fun e => by
      unfold chE at h
      rw [if_pos e] at h
      cases h
    unfold nextA at ha
    simp only [Bool.and_eq_true, Bool.not_eq_true', decide_eq_false_iff_not] at ha
    have hp := nextK_place hr
    obtain ⟨hl, hf⟩ := fullN_mem hp
    have e1 : nextZ V L size hz now = (fullN L size L.length).getD (chK (nextR V L size hz now)) 0 := by unfold nextZ nextK; rw [if_pos h0]
    have e2 : nextM V L size hz now = movesV V hz (L.getD (nextZ V L size hz now) []) := by rw [e1]; unfold nextM nextK; rw [if_pos h0]
    have hfit := fitN_all ha.2
    have hfl : ((L.getD (nextZ V L size hz now) []).length : Int) = size := by
      rw [e1]
      have := hfit _ hl
      omega
    have hok := (nextR_is V L size hz now).mem (j := 0) (List.length_pos_iff.2 hr)
    have hck : (nextR V L size hz now).getD 0 0 = chK (nextR V L size hz now) := by
      unfold chK
      cases nextR V L size hz now <;> rfl
    rw [hck] at hok
    have hfacts := okB_facts hok.2
    rw [fullZ_get hp, ← e1] at hfacts
    unfold zoneOf at hfacts
    rw [if_pos (by omega)] at hfacts
    refine ⟨by omega, hfit, by rw [e1]; exact hl, hfl, e2, ?_, ?_, hr, e1⟩
    · have : nextD V L size hz now = ((L.getD (nextZ V L size hz now) []).length : Int) - ((movesV V hz (L.getD (nextZ V L size hz now) [])).length : Int) := by
        rw [e1]; unfold nextD nextK; rw [if_pos h0]
      rw [this, e2, hfl]
    · rw [e2]
      exact hfacts.2.2.1
  · cases h

theorem run_one (V : Int → List Int) (size hz now : Int) (L : List (List Cp)) : runV V size hz now 1 L = (stepV V size hz now L).getD L := by
  show runV V size hz now 1 L = _
  rw [runV]
  cases stepV V size hz now L <;> rfl
/-- a step that is made -/
theorem step_drops {V : Int → List Int} {size hz now : Int} {L L' : List (List Cp)} (h : stepV V size hz now L = some L') :
    nextE V L size hz now = 0 ∧ 1 ≤ nextD V L size hz now ∧ (L'.flatten.length : Int) = (L.flatten.length : Int) - nextD V L size hz now ∧ ((nextM V L size hz now).length : Int) + nextD V L size hz now = size ∧ L' ≠ L ∧ L'.length = L.length ∧ (∀ j, j < L'.length → ((L'.getD j []).length : Int) ≤ size) := by
  obtain ⟨i, z, he, hz', hi, hzl, hne, hm, hfit, hL⟩ := stepV_spec h
  have ok := next_ok he
  have hkeep := step_keep h
  have h1 := sumR_set List.length L i (L.getD i [] ++ movesV V hz (L.getD z [])) hi
  have h2 := sumR_set List.length (L.set i (L.getD i [] ++ movesV V hz (L.getD z []))) z [] (by rw [List.length_set]; exact hzl)
  rw [getD_set L i z _ [] hi, if_neg hne, ← hL] at h2
  rw [List.length_append] at h1
  simp only [sumR_flat, List.length_nil] at h1 h2
  have hf := ok.full
  have hd := ok.drops
  have hl := ok.less
  rw [← hz'] at hf
  rw [hm] at hd hl ⊢
  refine ⟨he, by omega, by omega, by omega, fun e => ?_, by have := hkeep.len; exact this, fun j hj => ?_⟩
  · have hg : L'.getD z [] = [] := by rw [hL, getD_set _ z z [] [] (by rw [List.length_set]; exact hzl), if_pos rfl]
    rw [e] at hg
    rw [hg, List.length_nil] at hf
    have := ok.one
    omega
  · rw [hkeep.len] at hj
    exact hkeep.rows j hj (ok.fit j hj)
end Go.Proofs.Ytkpnjehgbehhcaa
