/- What the reference calls live is live. Plain. -/
import Derived.Test.YtkpnjehgbehhcaaWReads
namespace Go.Proofs.Ytkpnjehgbehhcaa
open Go.RowKit

/-- what stands behind a version -/
def Nxt1 (V : Int → List Int) (x : Int × Int) (q : Nat) (o : Option (Int × Int)) : Prop :=
  (∃ y, o = some y ∧ y.1 = x.1 ∧ q + 1 < (V x.1).length ∧ (V x.1).getD (q + 1) 0 = y.2) ∨ ((∀ y, o = some y → y.1 ≠ x.1) ∧ q + 1 = (V x.1).length)
theorem segs_idx {V : Int → List Int} : ∀ {n a i : Nat} {x : Int × Int}, (segs V a n)[i]? = some x → ((a : Int) ≤ x.1 ∧ x.1 < a + n) ∧ ∃ q, q < (V x.1).length ∧ (V x.1).getD q 0 = x.2 ∧ Nxt1 V x q (segs V a n)[i + 1]? := by
  intro n
  induction n with
  | zero => intro a i x h; simp [segs] at h
  | succ n ih =>
    intro a i x h
    rw [segs] at h ⊢
    have hXl : ((V a).map fun t => ((a : Int), t)).length = (V a).length := by simp
    rcases Nat.lt_or_ge i (V a).length with hi | hi
    · rw [List.getElem?_append_left (by rw [hXl]; exact hi), List.getElem?_map, List.getElem?_eq_getElem hi] at h
      obtain rfl := Option.some.inj h
      refine ⟨⟨Int.le_refl _, by show (a : Int) < _; omega⟩, i, hi, ?_, ?_⟩
      · show (V a).getD i 0 = (V a)[i]
        rw [List.getD_eq_getElem?_getD, List.getElem?_eq_getElem hi]; rfl
      · rcases Nat.lt_or_ge (i + 1) (V a).length with h1 | h1
        · left
          refine ⟨((a : Int), (V a)[i + 1]), ?_, rfl, h1, ?_⟩
          · rw [List.getElem?_append_left (by rw [hXl]; exact h1), List.getElem?_map, List.getElem?_eq_getElem h1]; rfl
          · show (V a).getD (i + 1) 0 = _
            rw [List.getD_eq_getElem?_getD, List.getElem?_eq_getElem h1]; rfl
        · right
          refine ⟨fun y hy => ?_, by show i + 1 = (V a).length; omega⟩
          rw [List.getElem?_append_right (by rw [hXl]; exact h1)] at hy
          have := segs_ge (List.mem_of_getElem? hy)
          show y.1 ≠ (a : Int)
          omega
    · rw [List.getElem?_append_right (by rw [hXl]; exact hi), hXl] at h
      obtain ⟨h1, q, h2, h3, h4⟩ := ih h
      refine ⟨⟨by omega, by omega⟩, q, h2, h3, ?_⟩
      rw [List.getElem?_append_right (by rw [hXl]; omega), hXl, show i + 1 - (V a).length = i - (V a).length + 1 by omega]
      exact h4
theorem segs_mem {V : Int → List Int} : ∀ {n a : Nat} {k t : Int}, (a : Int) ≤ k → k < a + n → t ∈ V k → (k, t) ∈ segs V a n := by
  intro n
  induction n with
  | zero => intro a k t h1 h2; omega
  | succ n ih =>
    intro a k t h1 h2 h3
    rw [segs, List.mem_append]
    by_cases e : k = a
    · subst e
      exact .inl (List.mem_map.2 ⟨t, h3, rfl⟩)
    · exact .inr (ih (by omega) (by omega) h3)

def later (o : Option (Int × Int)) (c : Cp) (hz : Int) : Bool :=
  match o with
  | some y => (y.1 == c.1) && decide (y.2 ≤ hz)
  | none => false
theorem sorted_get {l : List Int} (h : l.Pairwise (· < ·)) {i j : Nat} (hij : i < j) (hj : j < l.length) : l.getD i 0 < l.getD j 0 := by
  rw [List.getD_eq_getElem?_getD, List.getElem?_eq_getElem (by omega : i < l.length), List.getD_eq_getElem?_getD, List.getElem?_eq_getElem hj]
  exact (List.pairwise_iff_getElem.1 h) i j (by omega) hj hij
theorem live_found {V : Int → List Int} {last : Int} (hV : Vok V last) {c : Cp} {hz : Int} (hc : 1 ≤ c.2) {i : Nat} (h : (segs V 0 30)[i]? = some c) : liveV V c hz = !later (segs V 0 30)[i + 1]? c hz := by
  obtain ⟨h1, q, h2, h3, h4⟩ := segs_idx h
  have hs := (hV.2.2.1 c.1).1
  have hb : inB c.1 = true := by unfold inB; rw [decide_eq_true (by omega), decide_eq_true (by omega)]; rfl
  unfold liveV
  rw [decide_eq_true hc, Bool.true_and]
  rcases h4 with ⟨y, e, e1, e2, e3⟩ | ⟨e1, e2⟩
  · rw [e]
    show _ = !((y.1 == c.1) && decide (y.2 ≤ hz))
    rw [beq_iff_eq.2 e1, Bool.true_and]
    by_cases hy : y.2 ≤ hz
    · rw [decide_eq_true hy]
      refine decide_eq_false fun e4 => ?_
      obtain ⟨_, q', g1, g2, g3, g4⟩ := nv_spec e4 (by omega)
      have hq : q' = q := by
        rcases Nat.lt_trichotomy q' q with g | g | g
        · have := sorted_get hs g h2; omega
        · exact g
        · have := sorted_get hs g g1; omega
      subst hq
      have := g4 (q' + 1) (by omega) e2
      omega
    · rw [decide_eq_false hy]
      refine decide_eq_true ?_
      have := sorted_get hs (show q < q + 1 by omega) e2
      rw [nv_mk hb h2 (by omega) (fun j j1 j2 => ?_), h3]
      rcases Nat.eq_or_lt_of_le (Nat.succ_le_of_lt j1) with g | g
      · rw [← g]
        show _ < (V c.1).getD (q + 1) 0
        omega
      · have := sorted_get hs g j2
        have : (V c.1).getD (q + 1) 0 < (V c.1).getD j 0 := this
        omega
  · have hl : later (segs V 0 30)[i + 1]? c hz = false := by
      cases ho : (segs V 0 30)[i + 1]? with
      | none => rfl
      | some y =>
        show ((y.1 == c.1) && decide (y.2 ≤ hz)) = false
        rw [beq_eq_false_iff_ne.2 (e1 y ho)]
        rfl
    rw [hl]
    refine decide_eq_true ?_
    rw [nv_mk hb h2 (by omega) (fun j j1 j2 => by omega), h3]
theorem live_absent {V : Int → List Int} {last : Int} (_ : Vok V last) {c : Cp} {hz : Int} (h : ∀ i : Nat, (segs V 0 30)[i]? ≠ some c) : liveV V c hz = false := by
  cases hl : liveV V c hz
  · rfl
  · exfalso
    unfold liveV at hl
    simp only [Bool.and_eq_true, decide_eq_true_eq] at hl
    obtain ⟨hb, q, g1, g2, _⟩ := nv_spec hl.2 (by omega)
    unfold inB at hb
    simp only [Bool.and_eq_true, decide_eq_true_eq] at hb
    have hm : c.2 ∈ V c.1 := by
      rw [← g2, List.getD_eq_getElem?_getD, List.getElem?_eq_getElem g1]
      exact List.getElem_mem g1
    obtain ⟨i, hi, e⟩ := List.getElem_of_mem (segs_mem (n := 30) (a := 0) (by omega) (by omega) hm)
    exact h i (by rw [List.getElem?_eq_getElem hi, e])
end Go.Proofs.Ytkpnjehgbehhcaa
