/- Keys as an order; insertion by exchanges: plain facts. -/
import Derived.Test.YtkpnjehgbehhcaaCw
namespace Fl
open Go Go.Proofs Go.Proofs.Ytkpnjehgbehhcaa

def ckf (x : Nat) : Nat := keyF (canon x)
theorem cmpF_ltf {x y : Nat} (h : ckf x < ckf y) : cmpF x y = -1 ∧ cmpF y x = 1 := by
  unfold ckf at h; unfold cmpF cmpN
  exact ⟨if_pos h, by rw [if_neg (by omega), if_pos h]⟩
theorem cmpF_eqf {x y : Nat} (h : ckf x = ckf y) : cmpF x y = 0 := by
  unfold ckf at h; unfold cmpF cmpN
  rw [if_neg (by omega), if_neg (by omega)]
theorem cmpF_neg (x y : Nat) : decide (cmpF x y < 0) = decide (ckf x < ckf y) := by
  rcases Nat.lt_trichotomy (ckf x) (ckf y) with h | h | h
  · rw [(cmpF_ltf h).1]; simp [h]
  · rw [cmpF_eqf h]; simp [h]
  · rw [(cmpF_ltf h).2]; simp; omega
theorem cmpF_pos (x y : Nat) : decide (0 < cmpF x y) = decide (ckf y < ckf x) := by
  rcases Nat.lt_trichotomy (ckf x) (ckf y) with h | h | h
  · rw [(cmpF_ltf h).1]; simp; omega
  · rw [cmpF_eqf h]; simp [h]
  · rw [(cmpF_ltf h).2]; simp [h]
theorem cmpF_zero (x y : Nat) : decide (cmpF x y = 0) = decide (ckf x = ckf y) := by
  rcases Nat.lt_trichotomy (ckf x) (ckf y) with h | h | h
  · rw [(cmpF_ltf h).1]; simp; omega
  · rw [cmpF_eqf h]; simp [h]
  · rw [(cmpF_ltf h).2]; simp; omega
theorem cmpF_rng (x y : Nat) : cmpF x y = -1 ∨ cmpF x y = 0 ∨ cmpF x y = 1 := by
  unfold cmpF cmpN
  split
  · exact .inl rfl
  · split
    · exact .inr (.inr rfl)
    · exact .inr (.inl rfl)
theorem ckf_canon {x y : Nat} (hx : x < 2^64) (hy : y < 2^64) : ckf x = ckf y ↔ canon x = canon y := by
  constructor
  · intro h; exact keyF_inj (canon_lt' hx) (canon_lt' hy) h
  · intro h; unfold ckf; rw [h]
theorem ckf_same {x y : Nat} (hx : x < 2^64) (hy : y < 2^64) : (canon x == canon y) = decide (ckf x = ckf y) := by
  rw [Bool.eq_iff_iff, beq_iff_eq, decide_eq_true_eq]; exact (ckf_canon hx hy).symm
theorem ckf_toCW {x : Nat} (h : x < 2^64) : (toCW x).key = ckf x := by unfold CW.key ckf; rw [toCW_val h]
theorem ckf_cw (c : CW) : ckf c.1 = c.key := by unfold CW.key ckf; rw [c.2.2]
theorem ckf_can (x : Nat) : ckf (canon x) = ckf x := by unfold ckf; rw [canon_canon]

/-- the exchange of two neighbours -/
def swapL (xs : List Nat) (j : Nat) : List Nat := (xs.set (j + 1) (xs.getD j 0)).set j (xs.getD (j + 1) 0)
theorem swapL_len (xs : List Nat) (j : Nat) : (swapL xs j).length = xs.length := by unfold swapL; simp
theorem swapL_get {xs : List Nat} {j : Nat} (h : j + 1 < xs.length) (p : Nat) : (swapL xs j).getD p 0 = if p = j then xs.getD (j + 1) 0 else if p = j + 1 then xs.getD j 0 else xs.getD p 0 := by
  unfold swapL
  rw [List.getD_eq_getElem?_getD, List.getElem?_set]
  by_cases h1 : p = j
  · subst h1
    rw [if_pos rfl, if_pos rfl, if_pos (by simp; omega)]; rfl
  · rw [if_neg (fun h => h1 h.symm), if_neg h1, List.getElem?_set]
    by_cases h2 : p = j + 1
    · subst h2
      rw [if_pos rfl, if_pos h, if_pos rfl]; rfl
    · rw [if_neg (fun h => h2 h.symm), if_neg h2, List.getD_eq_getElem?_getD]
theorem swapL_perm {xs : List Nat} {j : Nat} (h : j + 1 < xs.length) : (swapL xs j).Perm xs := by
  unfold swapL
  have e1 : xs.getD j 0 = xs[j]'(by omega) := by rw [List.getD_eq_getElem?_getD, List.getElem?_eq_getElem (by omega)]; rfl
  have e2 : xs.getD (j + 1) 0 = xs[j + 1]'h := by rw [List.getD_eq_getElem?_getD, List.getElem?_eq_getElem h]; rfl
  rw [e1, e2]
  exact List.set_set_perm (by omega) (by omega)

/-- up to place i in order, but for the number at place k -/
def InsInv (xs : List Nat) (i k : Nat) : Prop := ∀ p q, p < q → q ≤ i → q ≠ k → ckf (xs.getD p 0) ≤ ckf (xs.getD q 0)
theorem InsInv.step {xs : List Nat} {i j : Nat} (h : InsInv xs i (j + 1)) (hi : i < xs.length) (hj : j + 1 ≤ i) (hlt : ckf (xs.getD (j + 1) 0) < ckf (xs.getD j 0)) : InsInv (swapL xs j) i j := by
  intro p q hpq hq hne
  rw [swapL_get (by omega), swapL_get (by omega)]
  rw [if_neg hne]
  by_cases hq1 : q = j + 1
  · subst hq1
    rw [if_pos rfl]
    by_cases hp : p = j
    · rw [if_pos hp]; omega
    · rw [if_neg hp, if_neg (by omega)]
      exact h p j (by omega) (by omega) (by omega)
  · rw [if_neg hq1]
    by_cases hp : p = j
    · rw [if_pos hp]; exact h (j + 1) q (by omega) hq hq1
    · rw [if_neg hp]
      by_cases hp1 : p = j + 1
      · rw [if_pos hp1]; exact h j q (by omega) hq hq1
      · rw [if_neg hp1]; exact h p q hpq hq hq1
theorem InsInv.done {xs : List Nat} {i k : Nat} (h : InsInv xs i k) (hk : k ≤ i) (he : k = 0 ∨ ∃ j, k = j + 1 ∧ ckf (xs.getD j 0) ≤ ckf (xs.getD (j + 1) 0)) : InsInv xs (i + 1) (i + 1) := by
  intro p q hpq hq hne
  by_cases hqk : q = k
  · subst hqk
    rcases he with h0 | ⟨j, rfl, hj⟩
    · omega
    · by_cases hp : p = j
      · rw [hp]; exact hj
      · exact Nat.le_trans (h p j (by omega) (by omega) (by omega)) hj
  · exact h p q hpq (by omega) hqk
theorem InsInv.first (xs : List Nat) : InsInv xs 1 1 := by intro p q hpq hq hne; omega

/-- the same numbers in order -/
def RSL (l m : List Nat) : Prop := m.Perm l ∧ m.Pairwise fun x y => ckf x ≤ ckf y
theorem RSL.of {l m : List Nat} {i : Nat} (hp : m.Perm l) (h : InsInv m i i) (hi : m.length ≤ i) : RSL l m := by
  refine ⟨hp, ?_⟩
  rw [List.pairwise_iff_getElem]
  intro p q h1 h2 hpq
  have := h p q hpq (by omega) (by omega)
  rw [List.getD_eq_getElem?_getD, List.getD_eq_getElem?_getD, List.getElem?_eq_getElem h1, List.getElem?_eq_getElem h2] at this
  exact this
theorem RSL.map {l m : List Nat} (h : RSL l m) (hb : ∀ x ∈ l, x < 2^64) : m.map toCW = sortC (l.map toCW) := by
  refine sortC_unique (h.1.map _) ?_
  rw [List.pairwise_map]
  refine List.Pairwise.imp_of_mem ?_ h.2
  intro a b ha hb' hab
  rw [ckf_toCW (hb a (h.1.mem_iff.1 ha)), ckf_toCW (hb b (h.1.mem_iff.1 hb'))]
  exact hab
theorem RSL.len {l m : List Nat} (h : RSL l m) : m.length = l.length := h.1.length_eq
theorem RSL.bd {l m : List Nat} (h : RSL l m) (hb : ∀ x ∈ l, x < 2^64) : ∀ x ∈ m, x < 2^64 := fun x hx => hb x (h.1.mem_iff.1 hx)
end Fl
