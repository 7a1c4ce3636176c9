/- A ranking: the best first, of alike ones the lesser number: plain. -/
import Derived.Test.YtkpnjehgbehhcaaCkf
import Derived.Test.YtkpnjehgbehhcaaRk1
import Derived.Shelf.SlSortCmp.NoneTotal
namespace Fl
open Go Go.Proofs Go.Proofs.Ytkpnjehgbehhcaa Go.Sort Go.Lib Go.Shelf

def rkLe (S : Nat → Nat) (a b : Nat) : Prop := ckf (S b) < ckf (S a) ∨ (ckf (S a) = ckf (S b) ∧ a ≤ b)
theorem rkLe_anti {S : Nat → Nat} {a b : Nat} (h1 : rkLe S a b) (h2 : rkLe S b a) : a = b := by unfold rkLe at h1 h2; omega
theorem rkLe_trans {S : Nat → Nat} {a b c : Nat} (h1 : rkLe S a b) (h2 : rkLe S b c) : rkLe S a c := by unfold rkLe at *; omega
theorem rkLe_total (S : Nat → Nat) (a b : Nat) : rkLe S a b ∨ rkLe S b a := by unfold rkLe; omega
/-- the numbers below n that are worth it, in order -/
def IsRank (S : Nat → Nat) (ok : Nat → Bool) (n : Nat) (r : List Nat) : Prop := r.Perm ((List.range n).filter ok) ∧ r.Pairwise (rkLe S)
theorem IsRank.unique {S : Nat → Nat} {ok : Nat → Bool} {n : Nat} {r r' : List Nat} (h : IsRank S ok n r) (h' : IsRank S ok n r') : r = r' :=
  List.Perm.eq_of_pairwise (le := rkLe S) (fun _ _ _ _ h1 h2 => rkLe_anti h1 h2) h.2 h'.2 (h.1.trans h'.1.symm)

/-- the comparison, as one number -/
def rkCf (S : Nat → Nat) (a b : Nat) : Int := orI (cmpF (S b) (S a)) (cmpN a b)
theorem cmpN_neg (a b : Nat) : cmpN a b < 0 ↔ a < b := by unfold cmpN; split <;> (try split) <;> omega
theorem rkCf_neg (S : Nat → Nat) (a b : Nat) : rkCf S a b < 0 ↔ (ckf (S b) < ckf (S a) ∨ (ckf (S a) = ckf (S b) ∧ a < b)) := by
  unfold rkCf orI
  rcases Nat.lt_trichotomy (ckf (S b)) (ckf (S a)) with h | h | h
  · rw [(cmpF_ltf h).1]; simp [h]
  · rw [cmpF_eqf h, if_pos rfl, cmpN_neg]; omega
  · rw [(cmpF_ltf h).2]; simp; omega
def rkF (m : Nat) (S : Nat → Nat) (a b : Fin (m + 1)) : Int := rkCf S a.val b.val
theorem ltK {m : Nat} (S : Nat → Nat) (x y : Fin (m + 1)) : ltOf (rkF m S) x y = decide (ckf (S y.val) < ckf (S x.val) ∨ (ckf (S x.val) = ckf (S y.val) ∧ x.val < y.val)) := by
  unfold ltOf rkF
  rw [decide_eq_decide]
  exact rkCf_neg S x.val y.val
theorem swoK (m : Nat) (S : Nat → Nat) : SWO (ltOf (rkF m S)) where
  irrefl x := by rw [ltK]; simp
  trans x y z h1 h2 := by rw [ltK] at *; simp at *; omega
  ntrans x y z h1 h2 := by rw [ltK] at *; simp at *; omega
theorem totK {m : Nat} (S : Nat → Nat) (x y : Fin (m + 1)) (h1 : ltOf (rkF m S) x y = false) (h2 : ltOf (rkF m S) y x = false) : x = y := by
  rw [ltK] at *; simp at *; exact Fin.ext (by omega)
def leK (m : Nat) (S : Nat → Nat) (x y : Fin (m + 1)) : Bool := !ltOf (rkF m S) y x
theorem leK_iff {m : Nat} (S : Nat → Nat) (x y : Fin (m + 1)) : leK m S x y = true ↔ rkLe S x.val y.val := by
  unfold leK rkLe
  rw [ltK]; simp; omega
def sortK (m : Nat) (S : Nat → Nat) (l : List (Fin (m + 1))) : List (Fin (m + 1)) := l.mergeSort (leK m S)
theorem sortK_len (m : Nat) (S : Nat → Nat) (l : List (Fin (m + 1))) : (sortK m S l).length = l.length := (List.mergeSort_perm _ _).length_eq
theorem sortK_rank {m : Nat} {S : Nat → Nat} {ok : Nat → Bool} {l : List (Fin (m + 1))} {n : Nat} (h : l.map (·.val) = (List.range n).filter ok) : IsRank S ok n ((sortK m S l).map (·.val)) := by
  constructor
  · rw [← h]; exact (List.mergeSort_perm _ _).map _
  · rw [List.pairwise_map]
    have hp := List.pairwise_mergeSort (le := leK m S) (by intro a b c h1 h2; rw [leK_iff] at *; exact rkLe_trans h1 h2) (by intro a b; rw [Bool.or_eq_true, leK_iff, leK_iff]; exact rkLe_total S a.val b.val) l
    exact hp.imp (by intro a b h; exact (leK_iff S a b).1 h)
theorem range_filter_succ (ok : Nat → Bool) (k : Nat) : (List.range (k + 1)).filter ok = (List.range k).filter ok ++ (if ok k then [k] else []) := by
  rw [List.range_succ, List.filter_append]
  congr 1
  cases h : ok k <;> simp [List.filter, h]
theorem filter_len (ok : Nat → Bool) (k : Nat) : ((List.range k).filter ok).length ≤ k := by
  have := List.length_filter_le ok (List.range k)
  rwa [List.length_range] at this
end Fl
