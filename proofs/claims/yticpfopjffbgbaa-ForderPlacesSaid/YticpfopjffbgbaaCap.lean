/- More on how a slice came in: its capacity, and that none of its cells is frozen. -/
import Derived.Test.YticpfopjffbgbaaFrame
namespace Go.Proofs.Yticpfopjffbgbaa
open Go.ChangeShapes Go.WideShapes Go.ChangeAt Go.RowKit

/-- a slice's length is within its capacity -/
def Capd (v : Value) : Prop := ∀ a n cap, v = .slice a n cap → n ≤ cap
/-- none of a slice's cells is frozen -/
def Fz {α : Type} (w : World) (v : Value) (l : List α) : Prop := ∀ b o n cap, v = .slice (some ⟨b, o, none⟩) n cap → ∀ i, i < l.length → w.frozen? ⟨b, o + i, none⟩ = false

section
variable {H : Type} {enc : TypeId × Value → H} {P : Program}
theorem open_capd {W : World} {t e : TypeId} {v : Value} {d : DataW H} {ps : List MemPlace} {base : Nat} {r : Reach} (ht : P.underlying t = some (.slice e)) (hc : P.cellsOf e = 1)
    (hval : Value.okWide P W r base t v) (h : DataW.Trod enc P W 0 (fun _ => true) true t v d ps) (hfz : ∀ b off, MemPlace.cell b off ∈ ps → W.frozen? ⟨b, off, none⟩ = false) :
    Capd v ∧ ∀ {α : Type} (l : List α), (∀ a n cap, v = .slice a n cap → n = l.length) → Fz W v l := by
  obtain ⟨a0, len, cap, rfl⟩ := okWide_slice ht hval
  obtain ⟨fuel, hf⟩ := h
  rcases Deep.open_slice1 ht hc hf with ⟨hcs, hx⟩ | ⟨a, len', cap', m, n, V, D, Pl, hcs, _, hl, hm, hmm, hx, hV⟩
  · simp [Value.cells] at hcs
    obtain ⟨rfl, rfl, rfl⟩ := hcs
    exact ⟨fun a n cap h => by simp only [Value.slice.injEq] at h; omega, fun l hl b o n cap h => by simp at h⟩
  · simp [Value.cells] at hcs
    obtain ⟨rfl, rfl, rfl⟩ := hcs
    simp only [Prod.mk.injEq] at hx
    obtain ⟨hd, hp⟩ := hx
    simp only [if_true] at hmm
    subst hmm
    refine ⟨fun a n cap h => by simp only [Value.slice.injEq] at h; omega, fun l hll b o n cap h i hi => ?_⟩
    have hll2 := hll _ _ _ rfl
    simp only [Value.slice.injEq, Option.some.injEq] at h
    obtain ⟨rfl, _, _⟩ := h
    refine hfz b (o + i) ?_
    rw [hp]
    simp only [List.mem_append]
    left
    simp only [MemPlace.row, List.mem_map, List.mem_range]
    exact ⟨i, by omega, by simp⟩
end
end Go.Proofs.Yticpfopjffbgbaa
