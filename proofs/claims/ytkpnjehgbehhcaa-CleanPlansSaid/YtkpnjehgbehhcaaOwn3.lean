/- Stores into an own row of float64s; a quiet call. -/
import Derived.Test.YtkpnjehgbehhcaaOwn1
import Derived.Test.YtkpnjehgbehhcaaKey
import Derived.Deep.QuietTactic
import Derived.BigQuiet
import Derived.RegionTactic
import Derived.ChangeAlike
namespace Go.Proofs.Ytkpnjehgbehhcaa
open Go.RowKit Fl

/-- a store of a float64 (the kit has this law for the other kinds) -/
@[go_sem] theorem run_store_flt {P : Program} {w : World} (a : Addr) (k : FloatKind) (b : Nat) (m : Mode) : (store a (.float k b) m).run P w = stored P w a (.float k b) m := run_store P w a _ m rfl

theorem quiet_eq {P : Program} {f : FuncId} {args : Array Value} {w : World} {n : Nat} {v : Value}
    (h : Calls P f args (w.drewN n) fun e w' => e = .returned v ∧ w.drewN n = w') : Calls P f args (w.drewN n) fun e w'' => e = .returned v ∧ ∃ m, w'' = w.drewN m :=
  h.mono fun _ _ ⟨he, hm⟩ => ⟨he, n, hm.symm⟩

theorem OwnF.put {w : World} {base : Nat} {g n cap : Nat} {xs : List Nat} (h : OwnF w base (.slice (some ⟨g, 0, none⟩) n cap) xs) (j x : Nat) :
    OwnF (w.setCell ⟨g, j, none⟩ (.float .f64 x)) base (.slice (some ⟨g, 0, none⟩) n cap) (xs.set j x) := by
  obtain rfl := h.cap.2
  have := (World.ownsRow.stored h j (.float .f64 x)).1
  unfold OwnF
  rw [List.length_set, List.map_set]; exact this

theorem OwnF.cellOf {w : World} {base : Nat} {g n cap : Nat} {xs : List Nat} (h : OwnF w base (.slice (some ⟨g, 0, none⟩) n cap) xs) (j : Nat) (hj : j < xs.length) :
    w.cell? ⟨g, j, none⟩ = some (.float .f64 (xs.getD j 0)) ∧ w.frozen? ⟨g, j, none⟩ = false := by
  obtain rfl := h.cap.2
  refine ⟨?_, World.ownsRow.frozenAt h j⟩
  rw [World.ownsRow.cellAt h j (by rw [Nat.mul_one]; exact hj), List.getElem?_map, List.getElem?_eq_getElem hj, List.getD_eq_getElem?_getD, List.getElem?_eq_getElem hj]; rfl
theorem OwnF.blkOf {w : World} {base : Nat} {g n cap : Nat} {xs : List Nat} (h : OwnF w base (.slice (some ⟨g, 0, none⟩) n cap) xs) : base ≤ g ∧ g < w.heap.size :=
  World.ownsRow.lt h g rfl
end Go.Proofs.Ytkpnjehgbehhcaa
