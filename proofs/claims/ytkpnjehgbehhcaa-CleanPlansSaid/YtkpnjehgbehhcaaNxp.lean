/- What Next is: the full zones, the one that is worth most, what of it moves. Plain; rows of zones and of numbers. -/
import Derived.Test.YtkpnjehgbehhcaaCfc
import Derived.Test.YtkpnjehgbehhcaaRk6
namespace Fl
open Go Go.Proofs Go.Proofs.Ytkpnjehgbehhcaa

instance (S : Nat → Nat) (a b : Nat) : Decidable (rkLe S a b) := by unfold rkLe; infer_instance
/-- the ranking -/
def rankL (S : Nat → Nat) (ok : Nat → Bool) (n : Nat) : List Nat := ((List.range n).filter ok).mergeSort fun a b => decide (rkLe S a b)
theorem rankL_is (S : Nat → Nat) (ok : Nat → Bool) (n : Nat) : IsRank S ok n (rankL S ok n) := by
  refine ⟨List.mergeSort_perm _ _, ?_⟩
  have hp := List.pairwise_mergeSort (le := fun a b => decide (rkLe S a b)) (by intro a b c h1 h2; simp only [decide_eq_true_eq] at *; exact rkLe_trans h1 h2) (by intro a b; simp only [Bool.or_eq_true, decide_eq_true_eq]; exact rkLe_total S a b) ((List.range n).filter ok)
  exact hp.imp (by intro a b h; exact of_decide_eq_true h)
end Fl
namespace Go.Proofs.Ytkpnjehgbehhcaa
open Go.RowKit Fl

/-- the numbers of the full zones among the first k -/
def fullN (L : List (List Cp)) (size : Int) (k : Nat) : List Nat := (List.range k).filter fun i => !decide (((L.getD i []).length : Int) < size)
def fullZ (V : Int → List Int) (size hz : Int) (L : List (List Cp)) (k : Nat) : List Zn := (fullN L size k).map fun i => zoneOf V size hz (L.getD i [])
theorem fullN_succ (L : List (List Cp)) (size : Int) (k : Nat) : fullN L size (k + 1) = fullN L size k ++ (if decide (((L.getD k []).length : Int) < size) = true then [] else [k]) := by
  unfold fullN
  rw [range_filter_succ]
  congr 1
  cases decide (((L.getD k []).length : Int) < size) <;> rfl
theorem fullZ_succ (V : Int → List Int) (size hz : Int) (L : List (List Cp)) (k : Nat) : fullZ V size hz L (k + 1) = fullZ V size hz L k ++ (if decide (((L.getD k []).length : Int) < size) = true then [] else [zoneOf V size hz (L.getD k [])]) := by
  unfold fullZ
  rw [fullN_succ, List.map_append]
  congr 1
  cases decide (((L.getD k []).length : Int) < size) <;> rfl
theorem fullN_len (L : List (List Cp)) (size : Int) (k : Nat) : (fullN L size k).length ≤ k := filter_len _ k
theorem fullZ_len (V : Int → List Int) (size hz : Int) (L : List (List Cp)) (k : Nat) : (fullZ V size hz L k).length = (fullN L size k).length := by unfold fullZ; rw [List.length_map]
/-- the full zones that are worth it, the best first: places in fullN -/
def nextR (V : Int → List Int) (L : List (List Cp)) (size hz now : Int) : List Nat := rankL (scS (fullZ V size hz L L.length) now) (okB (fullZ V size hz L L.length) now) (fullZ V size hz L L.length).length
def nextK (V : Int → List Int) (L : List (List Cp)) (size hz now : Int) : Nat := (fullN L size L.length).getD (chK (nextR V L size hz now)) 0
/-- may it be asked? -/
def nextA (L : List (List Cp)) (size : Int) : Bool := !decide (size < 1) && fitN L size L.length
def movesV (V : Int → List Int) (hz : Int) (r : List Cp) : List Cp := r.filter fun c => liveV V c hz
/-- Next's error, zone, moves, drops -/
def nextE (V : Int → List Int) (L : List (List Cp)) (size hz now : Int) : Int := if nextA L size = true then chE (nextR V L size hz now) else 1
def nextZ (V : Int → List Int) (L : List (List Cp)) (size hz now : Int) : Nat := if nextE V L size hz now = 0 then nextK V L size hz now else 0
def nextM (V : Int → List Int) (L : List (List Cp)) (size hz now : Int) : List Cp := if nextE V L size hz now = 0 then movesV V hz (L.getD (nextK V L size hz now) []) else []
def nextD (V : Int → List Int) (L : List (List Cp)) (size hz now : Int) : Int := if nextE V L size hz now = 0 then ((L.getD (nextK V L size hz now) []).length : Int) - ((movesV V hz (L.getD (nextK V L size hz now) [])).length : Int) else 0

theorem fullN_mem {L : List (List Cp)} {size : Int} {j : Nat} (hj : j < (fullN L size L.length).length) : (fullN L size L.length).getD j 0 < L.length ∧ size ≤ ((L.getD ((fullN L size L.length).getD j 0) []).length : Int) := by
  have hm : (fullN L size L.length).getD j 0 ∈ fullN L size L.length := by rw [List.getD_eq_getElem?_getD, List.getElem?_eq_getElem hj]; exact List.getElem_mem hj
  have := List.mem_filter.1 hm
  simp only [List.mem_range, Bool.not_eq_true', decide_eq_false_iff_not] at this
  exact ⟨this.1, by omega⟩
theorem nextR_is (V : Int → List Int) (L : List (List Cp)) (size hz now : Int) : IsRank (scS (fullZ V size hz L L.length) now) (okB (fullZ V size hz L L.length) now) (fullZ V size hz L L.length).length (nextR V L size hz now) := rankL_is _ _ _
theorem nextK_place {V : Int → List Int} {L : List (List Cp)} {size hz now : Int} (h : nextR V L size hz now ≠ []) : chK (nextR V L size hz now) < (fullN L size L.length).length := by
  have hr := nextR_is V L size hz now
  have hp : 0 < (nextR V L size hz now).length := List.length_pos_iff.2 h
  have hm := List.mem_filter.1 (hr.1.mem_iff.1 (List.getElem_mem hp))
  have e : chK (nextR V L size hz now) = (nextR V L size hz now)[0] := by
    unfold chK
    generalize nextR V L size hz now = r at hp ⊢
    cases r with
    | nil => cases hp
    | cons x r => rfl
  rw [e, ← fullZ_len V size hz L L.length]
  simpa using hm.1

/-- a row of another type is as it was -/
theorem ownsRow_far {w w' : World} {B n k B' n' k' : Nat} {e e' : TypeId} {v u : Value} {xs ys : List Value} (h : w.ownsRow B e k v n xs) (hu : w.ownsRow B' e' k' u n' ys) (he : e ≠ e') (hg : w.grownBy w' v.ownBlock) : w'.ownsRow B' e' k' u n' ys :=
  ownsRow_keep hu fun g hgu => by
    obtain ⟨_, cur, h1⟩ := ownsRow_block hu hgu
    refine hg.block g (Array.getElem?_eq_some_iff.1 h1).1 fun e1 => ?_
    obtain ⟨_, cur', h2⟩ := ownsRow_block h e1.symm
    rw [h1] at h2
    simp at h2
    exact he h2.2.symm
theorem flatZ_len (zs : List Zn) : (flatZ zs).length = zs.length * 3 := by
  induction zs with
  | nil => rfl
  | cons z zs ih =>
    have e : flatZ (z :: zs) = [.int .i64 z.1, .int .i64 z.2.1, .int .i64 z.2.2] ++ flatZ zs := rfl
    rw [e, List.length_append, ih, List.length_cons]; simp; omega
theorem flatZ_get (zs : List Zn) : ∀ i, i < zs.length → (flatZ zs)[i * 3]? = some (.int .i64 (zs.getD i (0, 0, 0)).1) ∧ (flatZ zs)[i * 3 + 1]? = some (.int .i64 (zs.getD i (0, 0, 0)).2.1) ∧ (flatZ zs)[i * 3 + 2]? = some (.int .i64 (zs.getD i (0, 0, 0)).2.2) := by
  induction zs with
  | nil => intro i hi; simp at hi
  | cons z zs ih =>
    intro i hi
    have e : flatZ (z :: zs) = [.int .i64 z.1, .int .i64 z.2.1, .int .i64 z.2.2] ++ flatZ zs := rfl
    rw [e]
    cases i with
    | zero => exact ⟨rfl, rfl, rfl⟩
    | succ i =>
      obtain ⟨a, b, c⟩ := ih i (by simpa using hi)
      refine ⟨?_, ?_, ?_⟩
      · rw [List.getElem?_append_right (by simp; omega)]
        simpa [show (i + 1) * 3 - 3 = i * 3 by omega] using a
      · rw [List.getElem?_append_right (by simp; omega)]
        simpa [show (i + 1) * 3 + 1 - 3 = i * 3 + 1 by omega] using b
      · rw [List.getElem?_append_right (by simp; omega)]
        simpa [show (i + 1) * 3 + 2 - 3 = i * 3 + 2 by omega] using c
theorem OwnZ.slz {w : World} {base : Nat} {v : Value} {zs : List Zn} (h : OwnZ w base v zs) (hn : zs.length ≤ 1000000) : SlZ w v zs := by
  have h' := h
  obtain ⟨h1, ⟨rfl, h0⟩ | ⟨g, cap, cur, rfl, hb, hg, hle, hrest⟩⟩ := h
  · have : zs = [] := List.eq_nil_of_length_eq_zero h0
    subst this
    exact ⟨none, 0, rfl, fun _ => rfl, by simp, by simp, fun i hi => by simp at hi⟩
  · refine ⟨some ⟨g, 0, none⟩, cap, rfl, (fun h => by cases h), hle, by omega, fun i hi => ?_⟩
    obtain ⟨f0, f1, f2⟩ := flatZ_get zs i hi
    have hl := ownsRow_lt h' rfl
    refine ⟨g, 0, rfl, hl, ?_, ?_, ?_⟩
    · rw [Nat.zero_add, World.ownsRow.cellAt h' (i * 3) (by omega)]; exact f0
    · rw [Nat.zero_add, World.ownsRow.cellAt h' (i * 3 + 1) (by omega)]; exact f1
    · rw [Nat.zero_add, World.ownsRow.cellAt h' (i * 3 + 2) (by omega)]; exact f2
theorem OwnZ.form {w : World} {B : Nat} {v : Value} {zs : List Zn} (h : OwnZ w B v zs) : ∃ a c, v = .slice a zs.length c ∧ ∀ i, i < zs.length → ∃ g, a = some ⟨g, 0, none⟩ ∧ g < w.heap.size ∧
    w.cell? ⟨g, i * 3, none⟩ = some (.int .i64 (zs.getD i (0, 0, 0)).1) ∧ w.cell? ⟨g, i * 3 + 1, none⟩ = some (.int .i64 (zs.getD i (0, 0, 0)).2.1) ∧ w.cell? ⟨g, i * 3 + 2, none⟩ = some (.int .i64 (zs.getD i (0, 0, 0)).2.2) := by
  have h' := h
  obtain ⟨h3, ⟨rfl, h4⟩ | ⟨g, cap, cur, rfl, _, h5, h6, h7, _⟩⟩ := h
  · have : zs = [] := List.eq_nil_of_length_eq_zero h4
    subst this
    exact ⟨none, 0, rfl, fun i hi => absurd hi (Nat.not_lt_zero _)⟩
  · refine ⟨some ⟨g, 0, none⟩, cap, rfl, fun i hi => ?_⟩
    obtain ⟨f0, f1, f2⟩ := flatZ_get zs i hi
    refine ⟨g, rfl, (Array.getElem?_eq_some_iff.1 h5).1, ?_, ?_, ?_⟩
    · rw [World.ownsRow.cellAt h' (i * 3) (by omega), f0]
    · rw [World.ownsRow.cellAt h' (i * 3 + 1) (by omega), f1]
    · rw [World.ownsRow.cellAt h' (i * 3 + 2) (by omega), f2]
theorem zonesV_len (V : Int → List Int) (size hz : Int) (L : List (List Cp)) : (zonesV V size hz L).length = L.length := by unfold zonesV; rw [List.length_map]
theorem zonesV_get {V : Int → List Int} {size hz : Int} {L : List (List Cp)} {k : Nat} (hk : k < L.length) : (zonesV V size hz L).getD k (0, 0, 0) = zoneOf V size hz (L.getD k []) := by
  unfold zonesV
  rw [List.getD_eq_getElem?_getD, List.getElem?_map, List.getElem?_eq_getElem hk, List.getD_eq_getElem?_getD, List.getElem?_eq_getElem hk]
  rfl
end Go.Proofs.Ytkpnjehgbehhcaa
