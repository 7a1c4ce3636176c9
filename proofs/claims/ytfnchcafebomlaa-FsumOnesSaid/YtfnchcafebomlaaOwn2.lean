/- make([]float64, n) and stores to such a row, as laws. -/
import Derived.Test.YtfnchcafebomlaaSd
namespace Go.Proofs.Ytfnchcafebomlaa
open Go.RowKit Fl

/-- a store of a float64 (the kit has this law for the other kinds) -/
@[go_sem] theorem run_store_float {P : Program} {w : World} (a : Addr) (k : FloatKind) (b : Nat) (m : Mode) : (store a (.float k b) m).run P w = stored P w a (.float k b) m := run_store P w a _ m rfl

theorem OwnF.fix {w : World} {base : Nat} {a : Option Addr} {n cap : Nat} {xs : List Nat} (h : OwnF w base (.slice a n cap) xs) : n = xs.length := h.cap.2

theorem OwnF.other {w : World} {base : Nat} {g n cap : Nat} {xs : List Nat} (h : OwnF w base (.slice (some ⟨g, 0, none⟩) n cap) xs) (p : Addr) (u : Value) (hp : p.block ≠ g) :
    OwnF (w.setCell p u) base (.slice (some ⟨g, 0, none⟩) n cap) xs :=
  h.kept (row := some p.block) ⟨rfl, rfl, rfl, by simp, fun k _ hk => heap_setCell_other w p k u (fun e => hk (by rw [e]))⟩ (.inr (by simp [Value.ownBlock]; exact fun e => hp e.symm))

theorem OwnF.store {w : World} {base : Nat} {g n cap : Nat} {xs : List Nat} (h : OwnF w base (.slice (some ⟨g, 0, none⟩) n cap) xs) (j x : Nat) :
    OwnF (w.setCell ⟨g, j, none⟩ (.float .f64 x)) base (.slice (some ⟨g, 0, none⟩) n cap) (xs.set j x) := by
  obtain rfl := h.fix
  have := (World.ownsRow.stored h j (.float .f64 x)).1
  unfold OwnF
  rw [List.length_set, List.map_set]; exact this

theorem OwnF.at {w : World} {base : Nat} {g n cap : Nat} {xs : List Nat} (h : OwnF w base (.slice (some ⟨g, 0, none⟩) n cap) xs) (j : Nat) (hj : j < xs.length) :
    w.cell? ⟨g, j, none⟩ = some (.float .f64 xs[j]) ∧ w.frozen? ⟨g, j, none⟩ = false := by
  obtain rfl := h.fix
  refine ⟨?_, World.ownsRow.frozenAt h j⟩
  rw [World.ownsRow.cellAt h j (by rw [Nat.mul_one]; exact hj), List.getElem?_map, List.getElem?_eq_getElem hj]; rfl

/-- a row that was written out just now -/
theorem OwnF.lit (w : World) {base : Nat} (xs : List Nat) (hb : base ≤ w.heap.size) (hm : xs.length ≤ maxLen) :
    OwnF (w.alloc (.cells (xs.map encF).toArray 25)) base (.slice (some ⟨w.heap.size, 0, none⟩) xs.length xs.length) xs := by
  have := World.ownsRow_lit (e := 25) (size := 1) w (xs.map encF).toArray xs.length hb hm (by simp)
  rw [List.toList_toArray] at this
  exact this

theorem OwnF.blk {w : World} {base : Nat} {g n cap : Nat} {xs : List Nat} (h : OwnF w base (.slice (some ⟨g, 0, none⟩) n cap) xs) : base ≤ g ∧ g < w.heap.size :=
  World.ownsRow.lt h g rfl

theorem wpList_makeF {w : World} {ops : Array Oper} {rest : List Oper} {o : Oper} {a : Act} {Q : Exit → Act → World → Prop} (hgd : o.guard = none) (l c : Operand)
    (hop : o.op = Op.makeSlice 24 l c) (base n : Nat) (hl : a.eval l = .int .i64 n) (hc : a.eval c = .int .i64 n) (hn : n * 8 ≤ 140737488355328) (hb : base ≤ w.heap.size)
    (h : ∀ w', OwnF w' base (.slice (some ⟨w.heap.size, 0, none⟩) n n) (List.replicate n 0) → w.grownBy w' none → wpList Try.prog ops Q rest (a.put o.dst (.slice (some ⟨w.heap.size, 0, none⟩) n n)) w') :
    wpList Try.prog ops Q (o :: rest) a w := by
  obtain ⟨i0, hi, hz0, hz1, hz2⟩ := info_parts infoF
  refine wpList_make_full w hgd l c _ hop base 25 i0 (.float .f64 0) 1 Try.underlying24 hi hz0 hz1 .i64 .i64 _ _ n hl hc rfl rfl (by rw [hz2]; omega) (by unfold maxLen; omega) hb ?_
  intro w' h1 h2
  refine h w' ?_ h2
  unfold OwnF
  have : (madeCells (Value.float .f64 0).cells (n * 1)).toList = (List.replicate n 0).map encF := by
    rw [Nat.mul_one, List.map_replicate]; exact toList_madeCells_one _ _
  rw [this] at h1
  rw [List.length_replicate]; exact h1
end Go.Proofs.Ytfnchcafebomlaa
