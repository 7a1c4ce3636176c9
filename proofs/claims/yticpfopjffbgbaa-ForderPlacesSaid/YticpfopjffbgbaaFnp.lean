/- Finding a number in numbers: plain. -/
import Derived.Test.YticpfopjffbgbaaCkf
import Derived.Shelf.SlCmpFuncs.IsSortedFunc
import Derived.Shelf.SlCmpFuncs.BinarySearchFunc
namespace Fl
open Go Go.Proofs Go.Proofs.Yticpfopjffbgbaa Go.Sort Go.Lib Go.Shelf

def sortedB (l : List Nat) : Bool := Lib.downOK (ltOf cmpF) l.toArray (l.toArray.size - 1)
def findK (l : List Nat) (x : Nat) : Nat := if sortedB l then l.countP (fun y => decide (cmpF y x < 0)) else 0
def findB (l : List Nat) (x : Nat) : Bool := sortedB l && (decide (findK l x < l.length) && decide (cmpF (l.getD (findK l x) 0) x = 0))

theorem arr_get (l : List Nat) (i : Nat) : l.toArray[i]! = l.getD i 0 := by
  rw [List.getElem!_toArray, List.getD_eq_getElem?_getD, List.getElem!_eq_getElem?_getD]; rfl
theorem sortedB_iff (l : List Nat) : sortedB l = true ↔ ∀ i, i + 1 < l.length → ckf (l.getD i 0) ≤ ckf (l.getD (i + 1) 0) := by
  unfold sortedB
  rw [downOK_iff]
  constructor
  · intro h i hi
    have := h i (by rw [List.size_toArray]; omega)
    unfold ltOf at this
    rw [arr_get, arr_get, cmpF_neg, decide_eq_false_iff_not] at this
    omega
  · intro h i hi
    rw [List.size_toArray] at hi
    have := h i (by omega)
    unfold ltOf
    rw [arr_get, arr_get, cmpF_neg, decide_eq_false_iff_not]
    omega
theorem sortedB_no {l : List Nat} {i : Nat} (hi : i + 1 < l.length) (h : ckf (l.getD (i + 1) 0) < ckf (l.getD i 0)) : sortedB l = false := by
  rw [Bool.eq_false_iff]
  intro hs
  have := (sortedB_iff l).1 hs i hi
  omega
theorem sortedB_le {l : List Nat} (h : sortedB l = true) : ∀ (d p : Nat), p + d < l.length → ckf (l.getD p 0) ≤ ckf (l.getD (p + d) 0)
  | 0, p, _ => Nat.le_refl _
  | d + 1, p, hp => Nat.le_trans (sortedB_le h d p (by omega)) ((sortedB_iff l).1 h (p + d) (by omega))
theorem sortedB_mono {l : List Nat} (h : sortedB l = true) {p q : Nat} (hpq : p ≤ q) (hq : q < l.length) : ckf (l.getD p 0) ≤ ckf (l.getD q 0) := by
  have := sortedB_le h (q - p) p (by omega)
  rwa [show p + (q - p) = q by omega] at this
theorem RSL.sorted {l m : List Nat} (h : RSL l m) : sortedB m = true := by
  rw [sortedB_iff]
  intro i hi
  have := h.2
  rw [List.pairwise_iff_getElem] at this
  have := this i (i + 1) (by omega) hi (by omega)
  rw [List.getD_eq_getElem?_getD, List.getD_eq_getElem?_getD, List.getElem?_eq_getElem (by omega), List.getElem?_eq_getElem hi]
  exact this
theorem countP_at (p : Nat → Bool) (l : List Nat) (k : Nat) (hk : k ≤ l.length) (h1 : ∀ t, t < k → p (l.getD t 0) = true) (h2 : ∀ t, k ≤ t → t < l.length → p (l.getD t 0) = false) : l.countP p = k := by
  refine countP_boundary p l k hk (fun t ht => ?_) (fun t ht hl => ?_)
  · have := h1 t ht; rw [← arr_get, List.getElem!_toArray] at this; exact this
  · have := h2 t ht hl; rw [← arr_get, List.getElem!_toArray] at this; exact this
theorem find_at {l : List Nat} {x k : Nat} (hs : sortedB l = true) (hk : k ≤ l.length) (h1 : ∀ t, t < k → ckf (l.getD t 0) < ckf x) (h2 : k < l.length → ckf x ≤ ckf (l.getD k 0)) : findK l x = k := by
  unfold findK
  rw [if_pos hs]
  refine countP_at _ l k hk (fun t ht => ?_) (fun t ht hl => ?_)
  · rw [cmpF_neg]; exact decide_eq_true (h1 t ht)
  · rw [cmpF_neg, decide_eq_false_iff_not]
    have := sortedB_mono hs ht hl
    have := h2 (by omega)
    omega
theorem findB_in {l : List Nat} {x k : Nat} (hs : sortedB l = true) (hk : k < l.length) (hf : findK l x = k) (hx : x < 2^64) (hb : l.getD k 0 < 2^64) : findB l x = (canon (l.getD k 0) == canon x) := by
  unfold findB
  rw [hs, hf, decide_eq_true hk, ckf_same hb hx, cmpF_zero]; rfl
theorem findB_out {l : List Nat} {x : Nat} (hf : findK l x = l.length) : findB l x = false := by
  unfold findB
  rw [hf, decide_eq_false (Nat.lt_irrefl _)]; simp
theorem find_no {l : List Nat} (x : Nat) (hs : sortedB l = false) : findK l x = 0 ∧ findB l x = false := by
  unfold findB findK
  rw [hs]; exact ⟨rfl, rfl⟩
theorem getD_mem {l : List Nat} {k : Nat} (h : k < l.length) : l.getD k 0 ∈ l := by
  rw [List.getD_eq_getElem?_getD, List.getElem?_eq_getElem h]; exact List.getElem_mem h
theorem getD_eq {l : List Nat} {k : Nat} (h : k < l.length) : l.getD k 0 = l[k] := by
  rw [List.getD_eq_getElem?_getD, List.getElem?_eq_getElem h]; rfl
end Fl
