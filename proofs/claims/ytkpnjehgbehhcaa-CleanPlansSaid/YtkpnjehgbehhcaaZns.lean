/- How a walk knows a slice of zones; which zones are worth it. -/
import Derived.Test.YtkpnjehgbehhcaaRk2
import Derived.Test.YtkpnjehgbehhcaaSca
namespace Fl
abbrev Zn : Type := Int × Int × Int
def okZ (now : Int) (z : Zn) : Bool := (Go.Proofs.Ytkpnjehgbehhcaa.scoreE z.1 z.2.1 z.2.2 now == 0) && !isNaN (Go.Proofs.Ytkpnjehgbehhcaa.scoreV z.1 z.2.1 z.2.2 now) && !feq (Go.Proofs.Ytkpnjehgbehhcaa.scoreV z.1 z.2.1 z.2.2 now) 0
def okB (l : List Zn) (now : Int) (i : Nat) : Bool := okZ now (l.getD i (0, 0, 0))
def scS (l : List Zn) (now : Int) (i : Nat) : Nat := if okB l now i then Go.Proofs.Ytkpnjehgbehhcaa.scoreV (l.getD i (0, 0, 0)).1 (l.getD i (0, 0, 0)).2.1 (l.getD i (0, 0, 0)).2.2 now else 0
def rowS (S : Nat → Nat) (k n : Nat) : List Nat := (List.range n).map fun i => if i < k then S i else 0
theorem rowS_len (S : Nat → Nat) (k n : Nat) : (rowS S k n).length = n := by unfold rowS; simp
theorem rowS_zero (S : Nat → Nat) (n : Nat) : rowS S 0 n = List.replicate n 0 := by
  unfold rowS
  apply List.ext_getElem
  · simp
  · intro i h1 h2; simp
theorem rowS_set (S : Nat → Nat) {k n : Nat} (_ : k < n) : (rowS S k n).set k (S k) = rowS S (k + 1) n := by
  unfold rowS
  apply List.ext_getElem
  · simp
  · intro i h1 h2
    rw [List.getElem_set]
    simp only [List.getElem_map, List.getElem_range]
    by_cases e : k = i
    · subst e; simp
    · rw [if_neg e]
      by_cases h3 : i < k
      · rw [if_pos h3, if_pos (by omega)]
      · rw [if_neg h3, if_neg (by omega)]
theorem rowS_skip (S : Nat → Nat) {k n : Nat} (h : S k = 0) : rowS S k n = rowS S (k + 1) n := by
  unfold rowS
  apply List.map_congr_left
  intro i _
  by_cases h3 : i < k
  · rw [if_pos h3, if_pos (by omega)]
  · rw [if_neg h3]
    by_cases h4 : i = k
    · subst h4; rw [if_pos (by omega), h]
    · rw [if_neg (by omega)]
theorem rowS_all (S : Nat → Nat) {i n : Nat} (h : i < n) : (rowS S n n).getD i 0 = S i := by
  unfold rowS
  rw [List.getD_eq_getElem?_getD, List.getElem?_map, List.getElem?_range h]
  simp [h]
end Fl
namespace Go.Proofs.Ytkpnjehgbehhcaa
open Go.RowKit Fl

/-- A slice of zones. -/
def SlZ (w : World) (v : Value) (l : List Zn) : Prop :=
  ∃ a cap, v = .slice a l.length cap ∧ (a = none → cap = 0) ∧ l.length ≤ cap ∧ l.length * 24 ≤ 140737488355328 ∧
    ∀ i, i < l.length → ∃ b o, a = some ⟨b, o, none⟩ ∧ b < w.heap.size ∧ w.cell? ⟨b, o + i * 3, none⟩ = some (.int .i64 (l.getD i (0, 0, 0)).1) ∧
      w.cell? ⟨b, o + i * 3 + 1, none⟩ = some (.int .i64 (l.getD i (0, 0, 0)).2.1) ∧ w.cell? ⟨b, o + i * 3 + 2, none⟩ = some (.int .i64 (l.getD i (0, 0, 0)).2.2)
theorem SlZ.below {w w' : World} {v : Value} {l : List Zn} (h : SlZ w v l) {B : Nat} (hB : w.heap.size ≤ B) (hb : Below B w w') : SlZ w' v l := by
  obtain ⟨a, cap, rfl, h0, h1, h2, h⟩ := h
  refine ⟨a, cap, rfl, h0, h1, h2, fun i hi => ?_⟩
  obtain ⟨b, o, rfl, hlt, c0, c1, c2⟩ := h i hi
  refine ⟨b, o, rfl, Nat.lt_of_lt_of_le hlt hb.size, ?_, ?_, ?_⟩
  · rw [hb.cell (p := ⟨b, o + i * 3, none⟩) (Nat.lt_of_lt_of_le hlt hB)]; exact c0
  · rw [hb.cell (p := ⟨b, o + i * 3 + 1, none⟩) (Nat.lt_of_lt_of_le hlt hB)]; exact c1
  · rw [hb.cell (p := ⟨b, o + i * 3 + 2, none⟩) (Nat.lt_of_lt_of_le hlt hB)]; exact c2

theorem OwnN.base_le {w : World} {B B2 : Nat} {v : Value} {xs : List Nat} (h : OwnN w B2 v xs) (hB : B ≤ B2) : OwnN w B v xs := by
  obtain ⟨h1, h2 | ⟨g, cap, cur, h3, h4, h5⟩⟩ := h
  · exact ⟨h1, .inl h2⟩
  · exact ⟨h1, .inr ⟨g, cap, cur, h3, Nat.le_trans hB h4, h5⟩⟩
theorem OwnN.other {w : World} {base : Nat} {v : Value} {xs : List Nat} (h : OwnN w base v xs) (p : Addr) (u : Value) (hp : p.block < base) : OwnN (w.setCell p u) base v xs :=
  World.ownsRow.kept (row := some p.block) h ⟨rfl, rfl, rfl, by simp, fun k _ hk => heap_setCell_other w p k u (fun e => hk (by rw [e]))⟩ (.inr (by
    intro e
    have := (World.ownsRow.lt h p.block e).1
    omega))
end Go.Proofs.Ytkpnjehgbehhcaa
