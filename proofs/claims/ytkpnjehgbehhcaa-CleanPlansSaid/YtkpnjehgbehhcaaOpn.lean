/- How lists of transactions and grids of copies are read off a law's form. -/
import Derived.Test.YtkpnjehgbehhcaaMga
namespace Go.Proofs.Ytkpnjehgbehhcaa
open Go.ChangeShapes Go.WideShapes Go.ChangeAt Go.RowKit

set_option maxRecDepth 100000 in
theorem open_txs' {H : Type} {enc : TypeId × Value → H} {W : World} {v : Value} {d : DataW H} {ps : List MemPlace} {base : Nat} {r : Reach} (hval : Value.okWide Try.prog W r base 22 v) (h : DataW.Trod enc Try.prog W 0 (fun _ => true) true 22 v d ps) (hlt : ∀ x ∈ ps, x.block < W.heap.size) :
    ∃ l : List Tx, SlT W v l := by
  obtain ⟨a0, len, cap, rfl⟩ := okWide_slice Try.underlying22 hval
  obtain ⟨fuel, hf⟩ := h
  obtain ⟨v', l, hcs, hS⟩ := open_txs Try.underlying22 Try.underlying68 Try.underlying3 rfl (by kernel_rfl) (by kernel_rfl) Try.underlying66 Try.underlying65 Try.underlying3 rfl (by kernel_rfl) (by kernel_rfl) Try.underlying43 Try.underlying5 (by kernel_rfl) hf hlt
  simp [Value.cells] at hcs
  subst hcs
  exact ⟨l, hS⟩
set_option maxRecDepth 100000 in
theorem open_grid' {H : Type} {enc : TypeId × Value → H} {W : World} {v : Value} {d : DataW H} {ps : List MemPlace} {base : Nat} {r : Reach} (hval : Value.okWide Try.prog W r base 23 v) (h : DataW.Trod enc Try.prog W 0 (fun _ => true) true 23 v d ps) (hlt : ∀ x ∈ ps, x.block < W.heap.size) :
    ∃ L : List (List Cp), SlR W v L := by
  obtain ⟨a0, len, cap, rfl⟩ := okWide_slice Try.underlying23 hval
  obtain ⟨fuel, hf⟩ := h
  obtain ⟨v', l, hcs, hS⟩ := open_grid Try.underlying23 (by kernel_rfl) Try.underlying31 Try.underlying33 Try.underlying3 Try.underlying3 (by kernel_rfl) (by kernel_rfl) hf hlt
  simp [Value.cells] at hcs
  subst hcs
  exact ⟨l, hS⟩
end Go.Proofs.Ytkpnjehgbehhcaa
