/- How a slice of zones is read off the form. -/
import Derived.Test.YtloldagcbjkelaaFrame
import Derived.Test.YtloldagcbjkelaaZns
import Derived.Deep.Fields
namespace Go.Proofs.Ytloldagcbjkelaa
open Go.ChangeShapes Go.WideShapes Go.ChangeAt Go.RowKit Fl

section
variable {H : Type} {enc : TypeId × Value → H} {P : Program}
theorem open_zones {W : World} {t e : TypeId} {f0 f1 f2 : Field} {v : Value} {d : DataW H} {ps : List MemPlace} {base : Nat} {r : Reach} (ht : P.underlying t = some (.slice e)) (he : P.underlying e = some (.struct #[f0, f1, f2]))
    (h0 : P.underlying f0.type = some (.int .i64)) (h1 : P.underlying f1.type = some (.int .i64)) (h2 : P.underlying f2.type = some (.int .i64)) (hone : Deep.oneCellFields P #[f0, f1, f2] = true) (hc : P.cellsOf e = 3) (hby : P.bytesOf e = 24)
    (hval : Value.okWide P W r base t v) (h : DataW.Trod enc P W 0 (fun _ => true) true t v d ps) (hlt : ∀ x ∈ ps, x.block < W.heap.size)
    (hreach : ∀ xs ys, d = .slice xs ys → (xs.length + ys.length) * P.bytesOf e ≤ reachBytes) :
    ∃ l : List Zn, SlZ W v l := by
  obtain ⟨a0, len, cap, rfl⟩ := okWide_slice ht hval
  obtain ⟨fuel, hf⟩ := h
  rcases Deep.open_slice ht hf with ⟨hcs, hx⟩ | ⟨a, len', cap', m, n, D, Pl, hcs, _, hl, hm, hmm, hx, hV⟩
  · simp [Value.cells] at hcs
    obtain ⟨rfl, rfl, rfl⟩ := hcs
    exact ⟨[], none, 0, rfl, fun _ => rfl, by simp, by simp, fun i hi => by simp at hi⟩
  · simp [Value.cells] at hcs
    obtain ⟨rfl, rfl, rfl⟩ := hcs
    simp only [Prod.mk.injEq] at hx
    obtain ⟨hd, hp⟩ := hx
    simp only [if_true] at hmm
    subst hmm
    have hb := hreach _ _ hd
    simp only [List.length_map, List.length_range, hby] at hb
    have hrb : reachBytes = 140737488351232 := by decide
    rw [hrb] at hb
    have each : ∀ i, i < m → ∃ z : Zn, W.cell? (a.add (i * 3 + 0)) = some (.int .i64 z.1) ∧ W.cell? (a.add (i * 3 + 1)) = some (.int .i64 z.2.1) ∧ W.cell? (a.add (i * 3 + 2)) = some (.int .i64 z.2.2) := by
      intro i hi
      obtain ⟨cs, hcells, htr⟩ := hV i hi
      rw [hc] at hcells
      obtain ⟨_, hclen, hcat⟩ := World.cells?_some hcells
      obtain ⟨xs, n', _, _, _, hxl, hg⟩ := DataW.trod_struct he htr
      match cs, hclen with
      | [c0, c1, c2], _ =>
        obtain ⟨o0, k0⟩ := Deep.hone_of hone 0 f0 rfl
        obtain ⟨o1, k1⟩ := Deep.hone_of hone 1 f1 rfl
        obtain ⟨o2, k2⟩ := Deep.hone_of hone 2 f2 rfl
        match xs, hxl with
        | [y0, y1, y2], _ =>
          have g0 := hg 0 f0 rfl
          have g1 := hg 1 f1 rfl
          have g2 := hg 2 f2 rfl
          rw [o0, k0] at g0
          rw [o1, k1] at g1
          rw [o2, k2] at g2
          obtain ⟨v0, e0, _, _⟩ := DataW.trod_int h0 (x := y0) g0
          obtain ⟨v1, e1, _, _⟩ := DataW.trod_int h1 (x := y1) g1
          obtain ⟨v2, e2, _, _⟩ := DataW.trod_int h2 (x := y2) g2
          obtain rfl : c0 = .int .i64 v0 := by simpa using e0
          obtain rfl : c1 = .int .i64 v1 := by simpa using e1
          obtain rfl : c2 = .int .i64 v2 := by simpa using e2
          have a0' := hcat 0 (by omega)
          have a1' := hcat 1 (by omega)
          have a2' := hcat 2 (by omega)
          rw [Deep.add_add] at a0' a1' a2'
          exact ⟨(v0, v1, v2), a0', a1', a2'⟩
    obtain ⟨Z, hZ⟩ := Deep.choose_lt (n := m) (p := fun i (z : Zn) => W.cell? (a.add (i * 3 + 0)) = some (.int .i64 z.1) ∧ W.cell? (a.add (i * 3 + 1)) = some (.int .i64 z.2.1) ∧ W.cell? (a.add (i * 3 + 2)) = some (.int .i64 z.2.2)) each
    refine ⟨(List.range len).map Z, some a, m, by simp, fun h => (by cases h), by simpa using hl, by simp; omega, fun i hi => ?_⟩
    have hi' : i < len := by simpa using hi
    have hget : ((List.range len).map Z).getD i (0, 0, 0) = Z i := by
      rw [List.getD_eq_getElem?_getD, List.getElem?_map, List.getElem?_range hi']; rfl
    rw [hget]
    obtain ⟨c0, c1, c2⟩ := hZ i (by omega)
    have ha : ∃ b o, a = ⟨b, o, none⟩ := by
      have h0' := (hZ 0 (by omega)).1
      have e : a.add (0 * 3 + 0) = a := by unfold Addr.add; simp
      rw [e] at h0'
      exact addr_some h0'
    obtain ⟨b, o, rfl⟩ := ha
    rw [addr_add] at c0 c1 c2
    refine ⟨b, o, rfl, ?_, c0, by rw [Nat.add_assoc]; exact c1, by rw [Nat.add_assoc]; exact c2⟩
    have hmem : MemPlace.cell b o ∈ ps := by
      rw [hp]
      simp only [List.mem_append]
      left
      simp only [MemPlace.row, List.mem_map, List.mem_range]
      exact ⟨0, by rw [hc]; omega, by simp⟩
    exact hlt _ hmem
end
end Go.Proofs.Ytloldagcbjkelaa
