/- Counting the same numbers: plain. -/
import Derived.Test.YtfnchcafebomlaaCkf
import Derived.Test.YtfnchcafebomlaaSrt
namespace Fl
open Go Go.Proofs Go.Proofs.Ytfnchcafebomlaa

def cntF (l : List Nat) (y : Nat) : Nat := l.countP fun x => canon x == canon y
theorem cntF_zero (y : Nat) : cntF [] y = 0 := rfl
theorem cntF_le (l : List Nat) (y : Nat) : cntF l y ≤ l.length := List.countP_le_length
theorem cntF_succ {l : List Nat} {k : Nat} (h : k < l.length) (y : Nat) : cntF (l.take (k + 1)) y = cntF (l.take k) y + if (canon (l.getD k 0) == canon y) = true then 1 else 0 := by
  unfold cntF
  rw [List.take_succ_eq_append_getElem h, List.countP_append, List.countP_cons, List.countP_nil, List.getD_eq_getElem?_getD, List.getElem?_eq_getElem h]
  simp
theorem cntF_map (l : List Nat) (y : Nat) : cntF l y = (l.map canon).countP fun x => x == canon y := by
  unfold cntF; rw [List.countP_map]; rfl
theorem canon_sortF2 (l : List Nat) : (sortF l).map canon = sortF l := by
  unfold sortF
  rw [List.map_map]
  exact List.map_congr_left fun c _ => c.2.2
theorem sortF_perm {l : List Nat} (h : ∀ x ∈ l, x < 2^64) : (sortF l).Perm (l.map canon) := by
  rw [← map_toCW h]
  exact (sortC_perm _).map _
theorem cntF_sort {l : List Nat} (h : ∀ x ∈ l, x < 2^64) (y : Nat) : cntF (sortF l) y = cntF l y := by
  rw [cntF_map, cntF_map, canon_sortF2]
  exact (sortF_perm h).countP_eq _
theorem sortF_eq {l m : List Nat} (h : m.Perm l) : sortF m = sortF l := by
  unfold sortF
  rw [← sortC_unique (l := l.map toCW) (m := sortC (m.map toCW)) ((sortC_perm _).trans (h.map _)) (sortC_pair _)]
theorem sortF_rot (l : List Nat) (r : Nat) : sortF (l.drop r ++ l.take r) = sortF l :=
  sortF_eq (by
    have := List.perm_append_comm (l₁ := l.drop r) (l₂ := l.take r)
    rwa [List.take_append_drop] at this)
theorem sortF_lef {l : List Nat} {i : Nat} (h : i + 1 < (sortF l).length) : ckf ((sortF l).getD i 0) ≤ ckf ((sortF l).getD (i + 1) 0) := by
  have hp := sortC_pair (l.map toCW)
  rw [List.pairwise_iff_getElem] at hp
  have e : ∀ k (hk : k < (sortF l).length), ckf ((sortF l).getD k 0) = ((sortC (l.map toCW))[k]'(by unfold sortF at hk; simpa using hk)).key := fun k hk => by
    rw [← ckf_cw, List.getD_eq_getElem?_getD, List.getElem?_eq_getElem hk]; congr 1
    exact List.getElem_map ..
  rw [e _ (by omega), e _ h]
  exact hp i (i + 1) _ _ (by omega)
end Fl
