/- FsumEdges: the plain part: what the flags say of the sum's class. -/
import Derived.Test.YtfnchcafebomlaaSwa
import Derived.Test.YtfnchcafebomlaaSmd
namespace Fl
open Go
def hasC (c : Int) (l : List Nat) : Bool := l.any fun x => classF (canon x) == c
def allC (n : Nat) (l : List Nat) : Bool := decide (0 < n) && l.all fun x => classF (canon x) == 5
def greatB (l : List Nat) : Bool := l.any isGreat
theorem hasC_succ (c : Int) {l : List Nat} {k : Nat} (h : k < l.length) : hasC c (l.take (k + 1)) = (hasC c (l.take k) || (classF (canon l[k]) == c)) := by
  unfold hasC
  rw [List.take_succ_eq_append_getElem h, List.any_append]; simp
theorem allC_succ (n : Nat) {l : List Nat} {k : Nat} (h : k < l.length) : allC n (l.take (k + 1)) = (allC n (l.take k) && (classF (canon l[k]) == 5)) := by
  unfold allC
  rw [List.take_succ_eq_append_getElem h, List.all_append, ← Bool.and_assoc]; simp
theorem greatB_succ {l : List Nat} {k : Nat} (h : k < l.length) : greatB (l.take (k + 1)) = (greatB (l.take k) || isGreat l[k]) := by
  unfold greatB
  rw [List.take_succ_eq_append_getElem h, List.any_append]; simp

theorem class_nan (x : Nat) : classF (canon x) = 1 ↔ isNaN x = true := by
  rw [← isNaN_canon]
  generalize canon x = y
  unfold classF
  cases h1 : isNaN y
  · simp; repeat' split
    all_goals decide
  · simp
theorem class_up {x : Nat} (hx : x < 2^64) : classF (canon x) = 9 ↔ x = infW := by
  constructor
  · intro h
    cases hn : isNaN x
    · rw [canon_of_not hn] at h
      unfold classF at h
      cases h2 : isInf x <;> cases h3 : isZ x <;> cases h4 : isLow x <;> cases h5 : sg x <;> simp [hn, h2, h3, h4, h5] at h
      all_goals
        rcases isInf_cases hx h2 with rfl | rfl
        · rfl
        · revert h5; decide
    · rw [canon_of_nan hn] at h; exact absurd h (by decide)
  · rintro rfl; decide
theorem class_down {x : Nat} (hx : x < 2^64) : classF (canon x) = 2 ↔ x = ninfW := by
  constructor
  · intro h
    cases hn : isNaN x
    · rw [canon_of_not hn] at h
      unfold classF at h
      cases h2 : isInf x <;> cases h3 : isZ x <;> cases h4 : isLow x <;> cases h5 : sg x <;> simp [hn, h2, h3, h4, h5] at h
      all_goals
        rcases isInf_cases hx h2 with rfl | rfl
        · revert h5; decide
        · rfl
    · rw [canon_of_nan hn] at h; exact absurd h (by decide)
  · rintro rfl; decide
theorem hasC_true {c : Int} {l : List Nat} : hasC c l = true ↔ ∃ x ∈ l, classF (canon x) = c := by
  unfold hasC; rw [List.any_eq_true]; simp
theorem hasC_false {c : Int} {l : List Nat} : hasC c l = false ↔ ∀ x ∈ l, classF (canon x) ≠ c := by
  unfold hasC; rw [List.any_eq_false]; simp
theorem class_fin {y : Nat} (hy : y < 2^64) (h : fin y) : classF (canon y) ≠ 1 ∧ classF (canon y) ≠ 9 ∧ classF (canon y) ≠ 2 := by
  refine ⟨fun e => ?_, fun e => ?_, fun e => ?_⟩
  · have := (class_nan y).1 e
    rw [fin_not_nan h] at this; cases this
  · exact (fin_not_infW h).1 ((class_up hy).1 e)
  · exact (fin_not_infW h).2 ((class_down hy).1 e)
theorem sumF_lt {l : List Nat} : sumF l < 2^64 := by
  have h : (foldS l).1 < 2^64 := by
    rcases snoc_cases l with rfl | ⟨l', x, rfl⟩
    · decide
    · rw [foldS_snoc]; exact fadd_lt64 _ _
  unfold sumF
  split
  · decide
  · split
    · exact h
    · exact fadd_lt64 _ _

theorem edges_end {l : List Nat} (hl : l.length ≤ 300) (hb : ∀ x ∈ l, x < 2^64) :
    (hasC 1 l = true → classF (canon (sumF l)) = 1) ∧
    (hasC 1 l = false → greatB l = false →
      (hasC 9 l = true → hasC 2 l = true → classF (canon (sumF l)) = 1) ∧ (hasC 9 l = true → hasC 2 l = false → classF (canon (sumF l)) = 9) ∧
      (hasC 9 l = false → hasC 2 l = true → classF (canon (sumF l)) = 2) ∧ (hasC 9 l = false → hasC 2 l = false → allC l.length l = true → classF (canon (sumF l)) = 5) ∧
      (hasC 9 l = false → hasC 2 l = false → allC l.length l = false → (classF (canon (sumF l)) != 1) = true ∧ (classF (canon (sumF l)) != 9) = true ∧ (classF (canon (sumF l)) != 2) = true)) := by
  constructor
  · intro h
    obtain ⟨x, hx, hc⟩ := hasC_true.1 h
    rw [sum_bad l ⟨x, hx, (class_nan x).1 hc⟩]; decide
  · intro h1 hg
    have ht : ∀ x ∈ l, tame x := fun x hx => by
      refine tame_of (hb x hx) ?_ ?_
      · have := hasC_false.1 h1 x hx
        rw [Ne, class_nan] at this
        simpa using this
      · unfold greatB at hg
        rw [List.any_eq_false] at hg
        simpa using hg x hx
    obtain ⟨e1, e2, e3, e4, e5⟩ := sum_edges l hl ht
    have up : hasC 9 l = true ↔ infW ∈ l := by
      rw [hasC_true]
      exact ⟨fun ⟨x, hx, hc⟩ => by rw [← (class_up (hb x hx)).1 hc]; exact hx, fun h => ⟨_, h, by decide⟩⟩
    have dn : hasC 2 l = true ↔ ninfW ∈ l := by
      rw [hasC_true]
      exact ⟨fun ⟨x, hx, hc⟩ => by rw [← (class_down (hb x hx)).1 hc]; exact hx, fun h => ⟨_, h, by decide⟩⟩
    have mn : allC l.length l = true ↔ allNegZ l = true := by
      rw [Go.Proofs.Ytfnchcafebomlaa.allNegZ_take_succ hb]
      unfold allC
      rw [Bool.and_eq_true, decide_eq_true_eq, List.all_eq_true]
      refine and_congr_right fun _ => ⟨fun h k hk => by simpa using h _ (List.getElem_mem hk), fun h x hx => ?_⟩
      obtain ⟨k, hk, rfl⟩ := List.getElem_of_mem hx
      simpa using h k hk
    have upf : hasC 9 l = false → infW ∉ l := fun h hm => by rw [up.2 hm] at h; cases h
    have dnf : hasC 2 l = false → ninfW ∉ l := fun h hm => by rw [dn.2 hm] at h; cases h
    refine ⟨fun a b => ?_, fun a b => ?_, fun a b => ?_, fun a b c => ?_, fun a b c => ?_⟩
    · rw [e1 (up.1 a) (dn.1 b)]; decide
    · rw [e2 (up.1 a) (dnf b)]; decide
    · rw [e3 (upf a) (dn.1 b)]; decide
    · rw [e4 (upf a) (dnf b) (mn.1 c)]; decide
    · have hz : allNegZ l = false := by
        cases hz : allNegZ l
        · rfl
        · rw [mn.2 hz] at c; cases c
      obtain ⟨q1, q2, q3⟩ := class_fin sumF_lt (e5 (upf a) (dnf b) hz)
      exact ⟨by simpa using q1, by simpa using q2, by simpa using q3⟩
end Fl
