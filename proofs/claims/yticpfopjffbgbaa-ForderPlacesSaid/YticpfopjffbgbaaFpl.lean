/- Where a number stands in what is sorted: plain. -/
import Derived.Test.YticpfopjffbgbaaFnp
namespace Fl
open Go Go.Proofs Go.Proofs.Yticpfopjffbgbaa

theorem split_at (l : List Nat) (x : Nat) : ∀ n, n ≤ l.length → (∀ t, t < n → ckf (l.getD t 0) < ckf x) ∨ ∃ k, k < n ∧ (∀ t, t < k → ckf (l.getD t 0) < ckf x) ∧ ckf x ≤ ckf (l.getD k 0)
  | 0, _ => .inl fun t ht => by omega
  | n + 1, hn => by
    rcases split_at l x n (by omega) with h | ⟨k, hk, h1, h2⟩
    · by_cases hl : ckf (l.getD n 0) < ckf x
      · exact .inl fun t ht => by
          rcases Nat.lt_or_ge t n with h' | h'
          · exact h t h'
          · obtain rfl : t = n := by omega
            exact hl
      · exact .inr ⟨n, by omega, h, by omega⟩
    · exact .inr ⟨k, by omega, h1, h2⟩
theorem find_place {l : List Nat} (hs : sortedB l = true) (x : Nat) : findK l x ≤ l.length ∧ (∀ t, t < findK l x → ckf (l.getD t 0) < ckf x) ∧ (∀ t, findK l x ≤ t → t < l.length → ckf x ≤ ckf (l.getD t 0)) := by
  rcases split_at l x l.length (Nat.le_refl _) with h | ⟨k, hk, h1, h2⟩
  · have e := find_at hs (Nat.le_refl _) h (fun h => absurd h (Nat.lt_irrefl _))
    rw [e]
    exact ⟨Nat.le_refl _, h, fun t h3 h4 => by omega⟩
  · have e := find_at hs (Nat.le_of_lt hk) h1 (fun _ => h2)
    rw [e]
    exact ⟨Nat.le_of_lt hk, h1, fun t h3 h4 => Nat.le_trans h2 (sortedB_mono hs h3 h4)⟩
theorem any_perm {p : Nat → Bool} {l m : List Nat} (h : m.Perm l) : m.any p = l.any p := by
  rw [Bool.eq_iff_iff, List.any_eq_true, List.any_eq_true]
  constructor
  · rintro ⟨x, hx, hp⟩; exact ⟨x, h.mem_iff.1 hx, hp⟩
  · rintro ⟨x, hx, hp⟩; exact ⟨x, h.mem_iff.2 hx, hp⟩
theorem find_met {l m : List Nat} (hr : RSL l m) (hb : ∀ y ∈ l, y < 2^64) {x : Nat} (hx : x < 2^64) : findB m x = l.any (fun y => canon y == canon x) := by
  rw [← any_perm hr.1]
  have hs := hr.sorted
  have hbm := hr.bd hb
  obtain ⟨h1, h2, h3⟩ := find_place hs x
  rw [Bool.eq_iff_iff, List.any_eq_true]
  constructor
  · intro hf
    rcases Nat.lt_or_eq_of_le h1 with hlt | he
    · rw [findB_in hs hlt rfl hx (hbm _ (getD_mem hlt))] at hf
      exact ⟨_, getD_mem hlt, hf⟩
    · rw [findB_out he] at hf; cases hf
  · rintro ⟨y, hy, he⟩
    obtain ⟨t, ht, rfl⟩ := List.getElem_of_mem hy
    rw [← getD_eq ht] at he
    have he' : ckf (m.getD t 0) = ckf x := by unfold ckf; rw [beq_iff_eq.1 he]
    have hlt : findK m x ≤ t := by
      rcases Nat.lt_or_ge t (findK m x) with h | h
      · have := h2 t h; omega
      · exact h
    have hk : findK m x < m.length := by omega
    rw [findB_in hs hk rfl hx (hbm _ (getD_mem hk)), ckf_same (hbm _ (getD_mem hk)) hx, decide_eq_true_eq]
    have a := h3 _ (Nat.le_refl _) hk
    have b := sortedB_mono hs hlt ht
    omega
theorem any_take {p : Nat → Bool} {l : List Nat} {k : Nat} (h : k < l.length) : (l.take (k + 1)).any p = ((l.take k).any p || p (l.getD k 0)) := by
  rw [List.take_succ_eq_append_getElem h, List.any_append, getD_eq h]; simp
end Fl
