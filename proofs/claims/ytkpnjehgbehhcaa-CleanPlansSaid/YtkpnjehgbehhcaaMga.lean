/- How a walk knows copies, rows of copies, puts and transactions in memory; how they are read off the form. scarpalike's Sum, Puts, Txs; small. The map of versions in memory: what its blocks hold; a look-up; a store behind an append. extmap's readers: gone, Blocks, block, at, Get; the library's Clone at bytes; clean's Live. append onto an own row, of elements of however many cells: a run, a walk's operation, a drawn region's step; where the new slice lies. The library's Clone at bytes; extmap's Get; clean's Live. -/
import Derived.Test.YtkpnjehgbehhcaaFrame
import Derived.Deep.Fields
import Derived.Test.YtkpnjehgbehhcaaProg
import Derived.Deep.QuietTactic
import Derived.BigQuiet
import Derived.Maps.Own
import Derived.Maps.AppendAt
import Derived.OwnWalk
import Derived.Maps.OwnOps
import Derived.WalkMore
import Derived.Deep.LoopGhost
import Derived.Laws.AppendOwnNone
import Derived.Deep.RegionHeld3
import Derived.Deep.OwnRows
namespace Go.Proofs.Ytkpnjehgbehhcaa
open Go.ChangeShapes Go.WideShapes Go.ChangeAt Go.RowKit

abbrev Cp : Type := Int × Int
abbrev Pt : Type := Int × Nat
abbrev Tx : Type := Int × List Pt

/-- A slice of n elements of k cells each, cell j of element i being what p says of it. -/
def SlG (w : World) (k : Nat) (v : Value) (n : Nat) (p : Nat → Nat → Value → Prop) : Prop :=
  ∃ a cap, v = .slice a n cap ∧ (a = none → cap = 0) ∧ n ≤ cap ∧ cap ≤ 9223372036854775807 ∧
    ∀ i, i < n → ∃ b o, a = some ⟨b, o, none⟩ ∧ b < w.heap.size ∧ ∀ j, j < k → ∃ u, w.cell? ⟨b, o + i * k + j, none⟩ = some u ∧ p i j u
theorem SlG.nil (w : World) (k : Nat) (p : Nat → Nat → Value → Prop) : SlG w k (.slice none 0 0) 0 p :=
  ⟨none, 0, rfl, fun _ => rfl, Nat.le_refl _, by decide, fun i hi => absurd hi (Nat.not_lt_zero _)⟩
theorem SlG.below {w w' : World} {k : Nat} {v : Value} {n : Nat} {p q : Nat → Nat → Value → Prop} (h : SlG w k v n p) (hb : Below w.heap.size w w') (hpq : ∀ i j u, i < n → j < k → p i j u → q i j u) : SlG w' k v n q := by
  obtain ⟨a, cap, rfl, h0, h1, h2, h⟩ := h
  refine ⟨a, cap, rfl, h0, h1, h2, fun i hi => ?_⟩
  obtain ⟨b, o, rfl, hlt, hc⟩ := h i hi
  refine ⟨b, o, rfl, Nat.lt_of_lt_of_le hlt hb.size, fun j hj => ?_⟩
  obtain ⟨u, h3, h4⟩ := hc j hj
  exact ⟨u, by rw [hb.cell (p := ⟨b, o + i * k + j, none⟩) hlt]; exact h3, hpq i j u hi hj h4⟩
theorem SlG.imp {w : World} {k : Nat} {v : Value} {n : Nat} {p q : Nat → Nat → Value → Prop} (h : SlG w k v n p) (hpq : ∀ i j u, i < n → j < k → p i j u → q i j u) : SlG w k v n q := by
  obtain ⟨a, cap, rfl, h0, h1, h2, h⟩ := h
  refine ⟨a, cap, rfl, h0, h1, h2, fun i hi => ?_⟩
  obtain ⟨b, o, rfl, hlt, hc⟩ := h i hi
  refine ⟨b, o, rfl, hlt, fun j hj => ?_⟩
  obtain ⟨u, h3, h4⟩ := hc j hj
  exact ⟨u, h3, hpq i j u hi hj h4⟩

/-- copies -/
def cpP (l : List Cp) (i j : Nat) (u : Value) : Prop := (j = 0 ∧ u = .int .i64 (l.getD i (0, 0)).1) ∨ (j = 1 ∧ u = .int .i64 (l.getD i (0, 0)).2)
def SlC (w : World) (v : Value) (l : List Cp) : Prop := SlG w 2 v l.length (cpP l)
theorem SlC.below {w w' : World} {v : Value} {l : List Cp} (h : SlC w v l) (hb : Below w.heap.size w w') : SlC w' v l := SlG.below h hb fun _ _ _ _ _ h => h
/-- rows of copies -/
def SlR (w : World) (v : Value) (L : List (List Cp)) : Prop := SlG w 1 v L.length fun i _ u => SlC w u (L.getD i [])
theorem SlR.below {w w' : World} {v : Value} {L : List (List Cp)} (h : SlR w v L) (hb : Below w.heap.size w w') : SlR w' v L := SlG.below h hb fun _ _ _ _ _ h => h.below hb
/-- bytes -/
def SlB (w : World) (v : Value) (n : Nat) : Prop := SlG w 1 v n fun _ _ u => ∃ x, u = .int .u8 x
theorem SlB.below {w w' : World} {v : Value} {n : Nat} (h : SlB w v n) (hb : Below w.heap.size w w') : SlB w' v n := SlG.below h hb fun _ _ _ _ _ h => h
/-- puts -/
def ptP (w : World) (l : List Pt) (i j : Nat) (u : Value) : Prop := (j = 0 ∧ u = .int .i64 (l.getD i (0, 0)).1) ∨ (j = 1 ∧ SlB w u (l.getD i (0, 0)).2)
def SlP (w : World) (v : Value) (l : List Pt) : Prop := SlG w 2 v l.length (ptP w l)
theorem SlP.below {w w' : World} {v : Value} {l : List Pt} (h : SlP w v l) (hb : Below w.heap.size w w') : SlP w' v l := SlG.below h hb fun _ _ _ _ _ h => by
  rcases h with h | ⟨h1, h2⟩
  · exact .inl h
  · exact .inr ⟨h1, h2.below hb⟩
/-- transactions -/
def txP (w : World) (l : List Tx) (i j : Nat) (u : Value) : Prop := (j = 0 ∧ u = .int .i64 (l.getD i (0, [])).1) ∨ (j = 1 ∧ SlP w u (l.getD i (0, [])).2)
def SlT (w : World) (v : Value) (l : List Tx) : Prop := SlG w 2 v l.length (txP w l)
theorem SlT.below {w w' : World} {v : Value} {l : List Tx} (h : SlT w v l) (hb : Below w.heap.size w w') : SlT w' v l := SlG.below h hb fun _ _ _ _ _ h => by
  rcases h with h | ⟨h1, h2⟩
  · exact .inl h
  · exact .inr ⟨h1, h2.below hb⟩

/-! ### off the form -/
section
variable {H : Type} {enc : TypeId × Value → H} {P : Program}
/-- a slice, opened: every element's cells, and how they read -/
theorem open_rows {W : World} {t e : TypeId} {k : Nat} {cs : List Value} {fuel : Nat} {x : DataW H × List MemPlace} (ht : P.underlying t = some (.slice e)) (hk : P.cellsOf e = k) (hk0 : 0 < k)
    (h : DataW.trod enc P W 0 (fun _ => true) true fuel t cs = some x) (hlt : ∀ y ∈ x.2, y.block < W.heap.size) :
    ∃ v n m, cs = [v] ∧ ∃ a cap, v = .slice a n cap ∧ (a = none → cap = 0) ∧ n ≤ cap ∧ cap ≤ 9223372036854775807 ∧
    ∀ i, i < n → ∃ b o, a = some ⟨b, o, none⟩ ∧ b < W.heap.size ∧ ∃ (us : List Value) (y : DataW H × List MemPlace), us.length = k ∧ (∀ j, j < k → W.cell? ⟨b, o + i * k + j, none⟩ = us[j]?) ∧
      DataW.trod enc P W 0 (fun _ => true) true m e us = some y ∧ ∀ z ∈ y.2, z.block < W.heap.size := by
  rcases Deep.open_slice ht h with ⟨rfl, rfl⟩ | ⟨a, len, cap, m, n, D, Pl, rfl, _, hl, hm, hmm, rfl, hV⟩
  · exact ⟨_, 0, 0, rfl, none, 0, rfl, fun _ => rfl, Nat.le_refl _, by decide, fun i hi => absurd hi (Nat.not_lt_zero _)⟩
  · simp only [if_true] at hmm
    subst hmm
    rw [hk] at hV hlt
    refine ⟨_, len, n, rfl, some a, m, rfl, (fun h => by cases h), hl, by simpa [maxLen] using hm, fun i hi => ?_⟩
    have ha : ∃ b o, a = ⟨b, o, none⟩ := by
      obtain ⟨us, h1, _⟩ := hV 0 (by omega)
      obtain ⟨_, h2, h3⟩ := World.cells?_some h1
      have h4 := h3 0 hk0
      rw [List.getElem?_eq_getElem (by omega)] at h4
      have e : (a.add (0 * k)).add 0 = a := by rw [Nat.zero_mul]; unfold Addr.add; simp
      rw [e] at h4
      exact addr_some h4
    obtain ⟨b, o, rfl⟩ := ha
    have hb : b < W.heap.size := hlt (.cell b o) (by
      simp only [List.mem_append]
      left
      simp only [MemPlace.row, List.mem_map, List.mem_range]
      exact ⟨0, by have : 1 * 1 ≤ m * k := Nat.mul_le_mul (by omega) (by omega); omega, by simp⟩)
    obtain ⟨us, h1, h2⟩ := hV i (by omega)
    obtain ⟨_, h3, h4⟩ := World.cells?_some h1
    refine ⟨b, o, rfl, hb, us, _, h3, fun j hj => ?_, h2, fun z hz => hlt z ?_⟩
    · have := h4 j hj
      rw [Deep.add_add, addr_add, ← Nat.add_assoc] at this
      exact this
    · simp only [List.mem_append, List.mem_flatMap, List.mem_range]
      right
      exact ⟨i, by omega, hz⟩

/-- a struct of two cells, opened -/
theorem open_two {W : World} {e : TypeId} {f0 f1 : Field} {us : List Value} {fuel : Nat} {x : DataW H × List MemPlace} (he : P.underlying e = some (.struct #[f0, f1])) (hone : Deep.oneCellFields P #[f0, f1] = true) (hc : P.cellsOf e = 2)
    (h : DataW.trod enc P W 0 (fun _ => true) true fuel e us = some x) :
    ∃ c0 c1 m y0 y1, us = [c0, c1] ∧ DataW.trod enc P W 0 (fun _ => true) true m f0.type [c0] = some y0 ∧ DataW.trod enc P W 0 (fun _ => true) true m f1.type [c1] = some y1 ∧ (∀ z ∈ y0.2, z ∈ x.2) ∧ ∀ z ∈ y1.2, z ∈ x.2 := by
  obtain ⟨xs, n', _, rfl, hl, hxl, hg⟩ := DataW.trod_struct he h
  rw [hc] at hl
  match us, hl with
  | [c0, c1], _ =>
    obtain ⟨o0, k0⟩ := Deep.hone_of hone 0 f0 rfl
    obtain ⟨o1, k1⟩ := Deep.hone_of hone 1 f1 rfl
    match xs, hxl with
    | [y0, y1], _ =>
      have g0 := hg 0 f0 rfl
      have g1 := hg 1 f1 rfl
      rw [o0, k0] at g0
      rw [o1, k1] at g1
      exact ⟨c0, c1, n', y0, y1, rfl, g0, g1, fun z hz => by simp [hz], fun z hz => by simp [hz]⟩

/-- from every element to one list -/
theorem list_of {α : Type} [Inhabited α] (n : Nat) (d : α) {p : Nat → α → Prop} (h : ∀ i, i < n → ∃ x, p i x) : ∃ l : List α, l.length = n ∧ ∀ i, i < n → p i (l.getD i d) := by
  obtain ⟨f, hf⟩ := Deep.choose_lt h
  refine ⟨(List.range n).map f, by simp, fun i hi => ?_⟩
  rw [List.getD_eq_getElem?_getD, List.getElem?_map, List.getElem?_range hi]
  exact hf i hi

theorem open_copies {W : World} {t e : TypeId} {f0 f1 : Field} {cs : List Value} {fuel : Nat} {x : DataW H × List MemPlace} (ht : P.underlying t = some (.slice e)) (he : P.underlying e = some (.struct #[f0, f1]))
    (h0 : P.underlying f0.type = some (.int .i64)) (h1 : P.underlying f1.type = some (.int .i64)) (hone : Deep.oneCellFields P #[f0, f1] = true) (hc : P.cellsOf e = 2)
    (h : DataW.trod enc P W 0 (fun _ => true) true fuel t cs = some x) (hlt : ∀ y ∈ x.2, y.block < W.heap.size) : ∃ v l, cs = [v] ∧ SlC W v l := by
  obtain ⟨v, n, m, rfl, a, cap, rfl, ha, hn, hcap, hel⟩ := open_rows ht hc (by decide) h hlt
  obtain ⟨l, rfl, hl⟩ := list_of n ((0, 0) : Cp) (p := fun i (z : Cp) => ∃ b o, a = some ⟨b, o, none⟩ ∧ b < W.heap.size ∧ W.cell? ⟨b, o + i * 2 + 0, none⟩ = some (.int .i64 z.1) ∧ W.cell? ⟨b, o + i * 2 + 1, none⟩ = some (.int .i64 z.2)) (fun i hi => by
    obtain ⟨b, o, ha, hb, us, y, _, hus, htr, _⟩ := hel i hi
    obtain ⟨c0, c1, m', y0, y1, rfl, g0, g1, _, _⟩ := open_two he hone hc htr
    obtain ⟨v0, e0, _, _⟩ := DataW.trod_int h0 (x := y0) g0
    obtain ⟨v1, e1, _, _⟩ := DataW.trod_int h1 (x := y1) g1
    obtain rfl : c0 = .int .i64 v0 := by simpa using e0
    obtain rfl : c1 = .int .i64 v1 := by simpa using e1
    exact ⟨(v0, v1), b, o, ha, hb, hus 0 (by decide), hus 1 (by decide)⟩)
  refine ⟨_, l, rfl, a, cap, rfl, ha, hn, hcap, fun i hi => ?_⟩
  obtain ⟨b, o, hab, hb, c0, c1⟩ := hl i hi
  refine ⟨b, o, hab, hb, fun j hj => ?_⟩
  match j, hj with
  | 0, _ => exact ⟨_, c0, .inl ⟨rfl, rfl⟩⟩
  | 1, _ => exact ⟨_, c1, .inr ⟨rfl, rfl⟩⟩

theorem open_bytes {W : World} {t e : TypeId} {cs : List Value} {fuel : Nat} {x : DataW H × List MemPlace} (ht : P.underlying t = some (.slice e)) (he : P.underlying e = some (.int .u8)) (hc : P.cellsOf e = 1)
    (h : DataW.trod enc P W 0 (fun _ => true) true fuel t cs = some x) (hlt : ∀ y ∈ x.2, y.block < W.heap.size) : ∃ v n, cs = [v] ∧ SlB W v n := by
  obtain ⟨v, n, m, rfl, a, cap, rfl, ha, hn, hcap, hel⟩ := open_rows ht hc (by decide) h hlt
  refine ⟨_, n, rfl, a, cap, rfl, ha, hn, hcap, fun i hi => ?_⟩
  obtain ⟨b, o, ha, hb, us, y, hul, hus, htr, _⟩ := hel i hi
  refine ⟨b, o, ha, hb, fun j hj => ?_⟩
  obtain ⟨u, rfl⟩ : ∃ u, us = [u] := by match us, hul with | [u], _ => exact ⟨u, rfl⟩
  obtain ⟨v0, e0, _, _⟩ := DataW.trod_int he htr
  obtain rfl : u = .int .u8 v0 := by simpa using e0
  match j, hj with
  | 0, _ => exact ⟨_, hus 0 (by decide), _, rfl⟩

theorem open_puts {W : World} {t e tb eb : TypeId} {f0 f1 : Field} {cs : List Value} {fuel : Nat} {x : DataW H × List MemPlace} (ht : P.underlying t = some (.slice e)) (he : P.underlying e = some (.struct #[f0, f1]))
    (h0 : P.underlying f0.type = some (.int .i64)) (h1 : f1.type = tb) (htb : P.underlying tb = some (.slice eb)) (heb : P.underlying eb = some (.int .u8)) (hcb : P.cellsOf eb = 1) (hone : Deep.oneCellFields P #[f0, f1] = true) (hc : P.cellsOf e = 2)
    (h : DataW.trod enc P W 0 (fun _ => true) true fuel t cs = some x) (hlt : ∀ y ∈ x.2, y.block < W.heap.size) : ∃ v l, cs = [v] ∧ SlP W v l := by
  obtain ⟨v, n, m, rfl, a, cap, rfl, ha, hn, hcap, hel⟩ := open_rows ht hc (by decide) h hlt
  obtain ⟨l, rfl, hl⟩ := list_of n ((0, 0) : Pt) (p := fun i (z : Pt) => ∃ b o u, a = some ⟨b, o, none⟩ ∧ b < W.heap.size ∧ W.cell? ⟨b, o + i * 2 + 0, none⟩ = some (.int .i64 z.1) ∧ W.cell? ⟨b, o + i * 2 + 1, none⟩ = some u ∧ SlB W u z.2) (fun i hi => by
    obtain ⟨b, o, ha, hb, us, y, _, hus, htr, hy⟩ := hel i hi
    obtain ⟨c0, c1, m', y0, y1, rfl, g0, g1, _, hy1⟩ := open_two he hone hc htr
    obtain ⟨v0, e0, _, _⟩ := DataW.trod_int h0 (x := y0) g0
    obtain rfl : c0 = .int .i64 v0 := by simpa using e0
    rw [h1] at g1
    obtain ⟨u, k, hu, hB⟩ := open_bytes htb heb hcb g1 (fun z hz => hy z (hy1 z hz))
    obtain rfl : c1 = u := by simpa using hu
    exact ⟨(v0, k), b, o, c1, ha, hb, hus 0 (by decide), hus 1 (by decide), hB⟩)
  refine ⟨_, l, rfl, a, cap, rfl, ha, hn, hcap, fun i hi => ?_⟩
  obtain ⟨b, o, u, hab, hb, c0, c1, hB⟩ := hl i hi
  refine ⟨b, o, hab, hb, fun j hj => ?_⟩
  match j, hj with
  | 0, _ => exact ⟨_, c0, .inl ⟨rfl, rfl⟩⟩
  | 1, _ => exact ⟨_, c1, .inr ⟨rfl, hB⟩⟩

theorem open_txs {W : World} {t e tp ep tb eb : TypeId} {f0 f1 g0 g1 : Field} {cs : List Value} {fuel : Nat} {x : DataW H × List MemPlace} (ht : P.underlying t = some (.slice e)) (he : P.underlying e = some (.struct #[f0, f1]))
    (h0 : P.underlying f0.type = some (.int .i64)) (h1 : f1.type = tp) (hone : Deep.oneCellFields P #[f0, f1] = true) (hc : P.cellsOf e = 2)
    (htp : P.underlying tp = some (.slice ep)) (hep : P.underlying ep = some (.struct #[g0, g1])) (k0 : P.underlying g0.type = some (.int .i64)) (k1 : g1.type = tb) (honep : Deep.oneCellFields P #[g0, g1] = true) (hcp : P.cellsOf ep = 2)
    (htb : P.underlying tb = some (.slice eb)) (heb : P.underlying eb = some (.int .u8)) (hcb : P.cellsOf eb = 1)
    (h : DataW.trod enc P W 0 (fun _ => true) true fuel t cs = some x) (hlt : ∀ y ∈ x.2, y.block < W.heap.size) : ∃ v l, cs = [v] ∧ SlT W v l := by
  obtain ⟨v, n, m, rfl, a, cap, rfl, ha, hn, hcap, hel⟩ := open_rows ht hc (by decide) h hlt
  obtain ⟨l, rfl, hl⟩ := list_of n ((0, []) : Tx) (p := fun i (z : Tx) => ∃ b o u, a = some ⟨b, o, none⟩ ∧ b < W.heap.size ∧ W.cell? ⟨b, o + i * 2 + 0, none⟩ = some (.int .i64 z.1) ∧ W.cell? ⟨b, o + i * 2 + 1, none⟩ = some u ∧ SlP W u z.2) (fun i hi => by
    obtain ⟨b, o, ha, hb, us, y, _, hus, htr, hy⟩ := hel i hi
    obtain ⟨c0, c1, m', y0, y1, rfl, q0, q1, _, hy1⟩ := open_two he hone hc htr
    obtain ⟨v0, e0, _, _⟩ := DataW.trod_int h0 (x := y0) q0
    obtain rfl : c0 = .int .i64 v0 := by simpa using e0
    rw [h1] at q1
    obtain ⟨u, k, hu, hB⟩ := open_puts htp hep k0 k1 htb heb hcb honep hcp q1 (fun z hz => hy z (hy1 z hz))
    obtain rfl : c1 = u := by simpa using hu
    exact ⟨(v0, k), b, o, c1, ha, hb, hus 0 (by decide), hus 1 (by decide), hB⟩)
  refine ⟨_, l, rfl, a, cap, rfl, ha, hn, hcap, fun i hi => ?_⟩
  obtain ⟨b, o, u, hab, hb, c0, c1, hB⟩ := hl i hi
  refine ⟨b, o, hab, hb, fun j hj => ?_⟩
  match j, hj with
  | 0, _ => exact ⟨_, c0, .inl ⟨rfl, rfl⟩⟩
  | 1, _ => exact ⟨_, c1, .inr ⟨rfl, hB⟩⟩

theorem open_grid {W : World} {t tr e : TypeId} {f0 f1 : Field} {cs : List Value} {fuel : Nat} {x : DataW H × List MemPlace} (ht : P.underlying t = some (.slice tr)) (hcr : P.cellsOf tr = 1) (htr : P.underlying tr = some (.slice e)) (he : P.underlying e = some (.struct #[f0, f1]))
    (h0 : P.underlying f0.type = some (.int .i64)) (h1 : P.underlying f1.type = some (.int .i64)) (hone : Deep.oneCellFields P #[f0, f1] = true) (hc : P.cellsOf e = 2)
    (h : DataW.trod enc P W 0 (fun _ => true) true fuel t cs = some x) (hlt : ∀ y ∈ x.2, y.block < W.heap.size) : ∃ v L, cs = [v] ∧ SlR W v L := by
  obtain ⟨v, n, m, rfl, a, cap, rfl, ha, hn, hcap, hel⟩ := open_rows ht hcr (by decide) h hlt
  obtain ⟨L, rfl, hl⟩ := list_of n ([] : List Cp) (p := fun i (z : List Cp) => ∃ b o u, a = some ⟨b, o, none⟩ ∧ b < W.heap.size ∧ W.cell? ⟨b, o + i * 1 + 0, none⟩ = some u ∧ SlC W u z) (fun i hi => by
    obtain ⟨b, o, ha, hb, us, y, hul, hus, hr, hy⟩ := hel i hi
    obtain ⟨u, l, rfl, hS⟩ := open_copies htr he h0 h1 hone hc hr hy
    exact ⟨l, b, o, u, ha, hb, hus 0 (by decide), hS⟩)
  refine ⟨_, L, rfl, a, cap, rfl, ha, hn, hcap, fun i hi => ?_⟩
  obtain ⟨b, o, u, hab, hb, c0, hS⟩ := hl i hi
  refine ⟨b, o, hab, hb, fun j hj => ?_⟩
  match j, hj with
  | 0, _ => exact ⟨_, c0, hS⟩
end
end Go.Proofs.Ytkpnjehgbehhcaa
namespace Go.Proofs.Ytkpnjehgbehhcaa
open Go.RowKit

def s1 (n x : Int) : Int := if x > 1099511627776 - n then 1099511627776 else n + x
theorem s1_range {n x : Int} (hn : 0 ≤ n ∧ n ≤ 1099511627776) (hx : 0 ≤ x) : 0 ≤ s1 n x ∧ s1 n x ≤ 1099511627776 := by
  unfold s1; split <;> omega
def sumC (n : Int) : List Int → Int
  | [] => n
  | x :: r => if 1099511627776 - n < x then 1099511627776 else sumC (n + x) r
theorem sumC_one {n x : Int} : sumC n [x] = s1 n x := by
  simp only [sumC, s1]

theorem sumC_two {n x : Int} : sumC n [x, 1] = if 1099511627776 - n < x then 1099511627776 else s1 (n + x) 1 := by
  simp only [sumC, s1]

set_option maxHeartbeats 1600000 in
set_option maxRecDepth 8000 in
theorem sum_any (n : Int) (l : List Int) (hl : l.length ≤ 1000000) (hn : 0 ≤ n ∧ n ≤ 1099511627776) (hx : ∀ x ∈ l, 0 ≤ x) (b : Nat) (w : World) (hc : ∀ i (h : i < l.length), w.cell? ⟨b, i, none⟩ = some (.int .i64 l[i])) :
    Calls Try.prog 23 #[.int .i64 n, .slice (some ⟨b, 0, none⟩) l.length l.length] w fun e w' => e = .returned (.int .i64 (sumC n l)) ∧ w' = w := by
  have HC := Lib.hid hc
  have HX := Lib.hid hx
  clear hc hx
  go_enter Try.func23, Try.ntmps23
  go_wp2
  go_loop [5, 0] (fun i m => ∃ (k : Nat) (q : Int), k ≤ l.length ∧ i = .int .i64 k ∧ m = .int .i64 q ∧ 0 ≤ q ∧ q ≤ 1099511627776 ∧ Hid (sumC q (l.drop k) = sumC n l)) (fun i _ => l.length - (intOf i).toNat)
  case atStart => exact ⟨0, n, Nat.zero_le _, rfl, rfl, hn.1, hn.2, rfl⟩
  case round =>
    obtain ⟨k, q, hk, rfl, rfl, h0, hM, hS⟩ := hrel
    by_cases hlt : k < l.length
    · have hcell := HC.out k hlt
      have hx0 := HX.out l[k] (List.getElem_mem hlt)
      have hS' : Hid (sumC n l = if 1099511627776 - q < l[k] then 1099511627776 else sumC (q + l[k]) (l.drop (k + 1))) := by
        have := hS.out
        rw [List.drop_eq_getElem_cons hlt] at this
        exact this.symm
      clear HC HX hS
      generalize l[k] = x at *
      have h1 : decide (1099511627776 < q) = false := decide_eq_false (by omega)
      have hs : IntKind.i64.wrap (1099511627776 - q) = 1099511627776 - q := IntWalk.i64_in _ (by omega)
      by_cases h : 1099511627776 - q < x
      · have hd : decide (1099511627776 - q < x) = true := decide_eq_true h
        go_wp2
        go_ret
        have := hS'.out
        rw [if_pos h] at this
        exact ⟨by rw [this]; rfl, rfl⟩
      · have hd : decide (1099511627776 - q < x) = false := decide_eq_false h
        have ha : IntKind.i64.wrap (q + x) = q + x := IntWalk.i64_in _ (by omega)
        go_wp2
        refine ⟨⟨k + 1, q + x, by omega, by go_num, rfl, by omega, by omega, ?_⟩, by simp [intOf]; omega⟩
        have := hS'.out
        rw [if_neg h] at this
        exact this.symm
    · have hS' : Hid (sumC n l = q) := by
        have := hS.out
        rw [List.drop_eq_nil_of_le (by omega)] at this
        exact this.symm
      clear HC HX hS
      go_wp2
      go_ret
      exact ⟨by rw [hS'.out]; rfl, rfl⟩

theorem SlG.at {w : World} {k : Nat} {v : Value} {n : Nat} {p : Nat → Nat → Value → Prop} {a : Option Addr} {m cap : Nat} (h : SlG w k v n p) (hv : v = .slice a m cap) {i : Nat} (hi : i < n) :
    ∃ b o, a = some ⟨b, o, none⟩ ∧ b < w.heap.size ∧ ∀ j, j < k → ∃ u, w.cell? ⟨b, o + i * k + j, none⟩ = some u ∧ p i j u := by
  obtain ⟨a', cap', rfl, _, _, _, h⟩ := h
  simp only [Value.slice.injEq] at hv
  obtain ⟨rfl, _, _⟩ := hv
  exact h i hi
theorem SlG.form {w : World} {k : Nat} {v : Value} {n : Nat} {p : Nat → Nat → Value → Prop} (h : SlG w k v n p) : ∃ a cap, v = .slice a n cap ∧ (a = none → cap = 0) ∧ n ≤ cap ∧ cap ≤ 9223372036854775807 := by
  obtain ⟨a, cap, h1, h2, h3, h4, _⟩ := h
  exact ⟨a, cap, h1, h2, h3, h4⟩
theorem SlP.at {w : World} {v : Value} {l : List Pt} {a : Option Addr} {m cap : Nat} (h : SlP w v l) (hv : v = .slice a m cap) {i : Nat} (hi : i < l.length) :
    ∃ b o u, a = some ⟨b, o, none⟩ ∧ b < w.heap.size ∧ w.cell? ⟨b, o + i * 2, none⟩ = some (.int .i64 (l.getD i (0, 0)).1) ∧ w.cell? ⟨b, o + i * 2 + 1, none⟩ = some u ∧ SlB w u (l.getD i (0, 0)).2 := by
  obtain ⟨b, o, h1, h2, h3⟩ := SlG.at h hv hi
  obtain ⟨u0, c0, p0⟩ := h3 0 (by decide)
  obtain ⟨u1, c1, p1⟩ := h3 1 (by decide)
  rcases p0 with ⟨_, rfl⟩ | ⟨h, _⟩
  · rcases p1 with ⟨h, _⟩ | ⟨_, p1⟩
    · exact absurd h (by decide)
    · exact ⟨b, o, u1, h1, h2, c0, c1, p1⟩
  · exact absurd h (by decide)
theorem SlT.at {w : World} {v : Value} {l : List Tx} {a : Option Addr} {m cap : Nat} (h : SlT w v l) (hv : v = .slice a m cap) {i : Nat} (hi : i < l.length) :
    ∃ b o u, a = some ⟨b, o, none⟩ ∧ b < w.heap.size ∧ w.cell? ⟨b, o + i * 2, none⟩ = some (.int .i64 (l.getD i (0, [])).1) ∧ w.cell? ⟨b, o + i * 2 + 1, none⟩ = some u ∧ SlP w u (l.getD i (0, [])).2 := by
  obtain ⟨b, o, h1, h2, h3⟩ := SlG.at h hv hi
  obtain ⟨u0, c0, p0⟩ := h3 0 (by decide)
  obtain ⟨u1, c1, p1⟩ := h3 1 (by decide)
  rcases p0 with ⟨_, rfl⟩ | ⟨h, _⟩
  · rcases p1 with ⟨h, _⟩ | ⟨_, p1⟩
    · exact absurd h (by decide)
    · exact ⟨b, o, u1, h1, h2, c0, c1, p1⟩
  · exact absurd h (by decide)
theorem SlC.at {w : World} {v : Value} {l : List Cp} {a : Option Addr} {m cap : Nat} (h : SlC w v l) (hv : v = .slice a m cap) {i : Nat} (hi : i < l.length) :
    ∃ b o, a = some ⟨b, o, none⟩ ∧ b < w.heap.size ∧ w.cell? ⟨b, o + i * 2, none⟩ = some (.int .i64 (l.getD i (0, 0)).1) ∧ w.cell? ⟨b, o + i * 2 + 1, none⟩ = some (.int .i64 (l.getD i (0, 0)).2) := by
  obtain ⟨b, o, h1, h2, h3⟩ := SlG.at h hv hi
  obtain ⟨u0, c0, p0⟩ := h3 0 (by decide)
  obtain ⟨u1, c1, p1⟩ := h3 1 (by decide)
  rcases p0 with ⟨_, rfl⟩ | ⟨h, _⟩
  · rcases p1 with ⟨h, _⟩ | ⟨_, rfl⟩
    · exact absurd h (by decide)
    · exact ⟨b, o, h1, h2, c0, c1⟩
  · exact absurd h (by decide)
theorem SlR.at {w : World} {v : Value} {L : List (List Cp)} {a : Option Addr} {m cap : Nat} (h : SlR w v L) (hv : v = .slice a m cap) {i : Nat} (hi : i < L.length) :
    ∃ b o u, a = some ⟨b, o, none⟩ ∧ b < w.heap.size ∧ w.cell? ⟨b, o + i, none⟩ = some u ∧ SlC w u (L.getD i []) := by
  obtain ⟨b, o, h1, h2, h3⟩ := SlG.at h hv hi
  obtain ⟨u0, c0, p0⟩ := h3 0 (by decide)
  rw [Nat.mul_one] at c0
  exact ⟨b, o, u0, h1, h2, c0, p0⟩

theorem sum_one (n x : Int) (hn : 0 ≤ n ∧ n ≤ 1099511627776) (hx : 0 ≤ x) (b : Nat) (w : World) (hc : w.cell? ⟨b, 0, none⟩ = some (.int .i64 x)) :
    Calls Try.prog 23 #[.int .i64 n, .slice (some ⟨b, 0, none⟩) 1 1] w fun e w' => e = .returned (.int .i64 (s1 n x)) ∧ w' = w := by
  have := sum_any n [x] (by simp) hn (by simpa using hx) b w (fun i hi => by
    have : i = 0 := by simpa using hi
    subst this; exact hc)
  rw [sumC_one] at this
  exact this

set_option maxHeartbeats 1600000 in
set_option maxRecDepth 8000 in
theorem puts_any (v : Value) (l : List Pt) (top : Int) (w : World) (h : SlP w v l) :
    Calls Try.prog 42 #[v, .int .i64 top] w fun e w' => (∃ r, e = .returned (.int .i64 r) ∧ 0 ≤ r ∧ r ≤ 1099511627776) ∧ Below w.heap.size w w' := by
  obtain ⟨a, cap, rfl, ha, hle, hcap⟩ := h.form
  have HP := Lib.hid h
  clear h
  generalize hB : w.heap.size = B
  have hB0 : Hid (B ≤ w.heap.size) := Nat.le_of_eq hB.symm
  have HC : Hid (∀ i, i < l.length → ∃ b o u x c, a = some ⟨b, o, none⟩ ∧ (∀ w', Hid (Below B w w') → w'.cell? ⟨b, o + i * 2 + 1, none⟩ = some u) ∧ u = .slice x (l.getD i (0, 0)).2 c ∧ (l.getD i (0, 0)).2 ≤ 9223372036854775807) := fun i hi => by
    obtain ⟨b, o, u, h1, h2, _, h4, h5⟩ := HP.out.at rfl hi
    obtain ⟨x, c, h6, _, h7, h8⟩ := h5.form
    exact ⟨b, o, u, x, c, h1, fun w' hb => by rw [hb.out.cell (p := ⟨b, o + i * 2 + 1, none⟩) (by rw [← hB]; exact h2)]; exact h4, h6, by omega⟩
  clear HP hB
  have hr0 := s1_range (n := 0) (x := (l.length : Int)) (by omega) (by omega)
  go_enter Try.func42, Try.ntmps42
  go_wp2_with (go_at_call 23; refine (sum_one 0 (l.length : Int) (by omega) (by omega) _ _ (World.cell?_alloc_at _ _ _ 0 rfl)).mono ?_; rintro e w1 ⟨rfl, rfl⟩)
  have hbs : Hid (Below B w (w.alloc (.cells #[.int .i64 (l.length : Int)] 3))) := (Below.refl B w).alloc hB0.out _
  generalize s1 0 (l.length : Int) = r0 at *
  generalize w.alloc (.cells #[.int .i64 (l.length : Int)] 3) = w0 at *
  go_loopw [5, 6] (fun n i wr => ∃ (k : Nat) (q : Int), k ≤ l.length ∧ i = .int .i64 k ∧ n = .int .i64 q ∧ 0 ≤ q ∧ q ≤ 1099511627776 ∧ Hid (Below B w wr)) (fun _ i _ => l.length - (intOf i).toNat)
  case atStart => exact ⟨0, r0, Nat.zero_le _, rfl, rfl, hr0.1, hr0.2, hbs⟩
  case round =>
    obtain ⟨k, q, hk, rfl, rfl, h0, hM, hb⟩ := hrel
    by_cases hlt : k < l.length
    · by_cases hq : q ≤ top
      · obtain ⟨b, o, u, x, c, rfl, hcell, rfl, hn⟩ := HC.out k hlt
        have hc1 := hcell wr hb
        have hS : Hid (B ≤ wr.heap.size) := Nat.le_trans hB0.out hb.out.size
        generalize (l.getD k (0, 0)).2 = m at *
        have hs := s1_range (n := q) (x := (m : Int)) ⟨h0, hM⟩ (by omega)
        clear HC hcell
        go_wp2_with (go_at_call 23; refine (sum_one q (m : Int) ⟨h0, hM⟩ (by omega) _ _ (World.cell?_alloc_at _ _ _ 0 rfl)).mono ?_; rintro e w1 ⟨rfl, rfl⟩)
        exact ⟨⟨k + 1, _, by omega, by go_num, rfl, hs.1, hs.2, hb.out.alloc hS.out _⟩, by simp [intOf]; omega⟩
      · clear HC
        have hd : decide (q ≤ top) = false := decide_eq_false hq
        go_wp2
        go_ret
        exact ⟨⟨q, rfl, h0, hM⟩, hb.out⟩
    · clear HC
      go_wp2
      go_ret
      exact ⟨⟨q, rfl, h0, hM⟩, hb.out⟩

set_option maxHeartbeats 1600000 in
set_option maxRecDepth 8000 in
theorem txs_any (v : Value) (l : List Tx) (top : Int) (w : World) (h : SlT w v l) :
    Calls Try.prog 24 #[v, .int .i64 top] w fun e w' => (∃ r, e = .returned (.int .i64 r) ∧ 0 ≤ r ∧ r ≤ 1099511627776) ∧ Below w.heap.size w w' := by
  obtain ⟨a, cap, rfl, ha, hle, hcap⟩ := h.form
  have HP := Lib.hid h
  clear h
  generalize hB : w.heap.size = B
  have hB0 : Hid (B ≤ w.heap.size) := Nat.le_of_eq hB.symm
  have HC : Hid (∀ i, i < l.length → ∃ b o u, a = some ⟨b, o, none⟩ ∧ (∀ w', Hid (Below B w w') → w'.cell? ⟨b, o + i * 2 + 1, none⟩ = some u ∧ SlP w' u (l.getD i (0, [])).2)) := fun i hi => by
    obtain ⟨b, o, u, h1, h2, _, h4, h5⟩ := HP.out.at rfl hi
    exact ⟨b, o, u, h1, fun w' hb => ⟨by rw [hb.out.cell (p := ⟨b, o + i * 2 + 1, none⟩) (by rw [← hB]; exact h2)]; exact h4, h5.below (by rw [hB]; exact hb.out)⟩⟩
  clear HP hB
  have hr0 := s1_range (n := 0) (x := (l.length : Int)) (by omega) (by omega)
  go_enter Try.func24, Try.ntmps24
  go_wp2_with (go_at_call 23; refine (sum_one 0 (l.length : Int) (by omega) (by omega) _ _ (World.cell?_alloc_at _ _ _ 0 rfl)).mono ?_; rintro e w1 ⟨rfl, rfl⟩)
  have hbs : Hid (Below B w (w.alloc (.cells #[.int .i64 (l.length : Int)] 3))) := (Below.refl B w).alloc hB0.out _
  generalize s1 0 (l.length : Int) = r0 at *
  generalize w.alloc (.cells #[.int .i64 (l.length : Int)] 3) = w0 at *
  go_loopw [5, 6] (fun n i wr => ∃ (k : Nat) (q : Int), k ≤ l.length ∧ i = .int .i64 k ∧ n = .int .i64 q ∧ 0 ≤ q ∧ q ≤ 1099511627776 ∧ Hid (Below B w wr)) (fun _ i _ => l.length - (intOf i).toNat)
  case atStart => exact ⟨0, r0, Nat.zero_le _, rfl, rfl, hr0.1, hr0.2, hbs⟩
  case round =>
    obtain ⟨k, q, hk, rfl, rfl, h0, hM, hb⟩ := hrel
    by_cases hlt : k < l.length
    · by_cases hq : q ≤ top
      · obtain ⟨b, o, u, rfl, hcell⟩ := HC.out k hlt
        obtain ⟨hc1, hP⟩ := hcell wr hb
        have HPu := Lib.hid hP
        have hS : Hid (B ≤ wr.heap.size) := Nat.le_trans hB0.out hb.out.size
        generalize (l.getD k (0, [])).2 = m at *
        clear HC hcell hP
        go_wp2_with (go_at_call 42; refine (puts_any _ m top _ HPu.out).mono ?_; rintro e w1 ⟨⟨r, rfl, hr1, hr2⟩, hb1⟩)
        have hs := s1_range (n := q) (x := r) ⟨h0, hM⟩ hr1
        have hb2 : Hid (Below B w w1) := hb.out.trans (hb1.mono hS.out)
        have hS2 : Hid (B ≤ w1.heap.size) := Nat.le_trans hB0.out hb2.out.size
        clear hb1
        go_wp2_with (go_at_call 23; refine (sum_one q r ⟨h0, hM⟩ hr1 _ _ (World.cell?_alloc_at _ _ _ 0 rfl)).mono ?_; rintro e w2 ⟨rfl, rfl⟩)
        exact ⟨⟨k + 1, _, by omega, by go_num, rfl, hs.1, hs.2, hb2.out.alloc hS2.out _⟩, by simp [intOf]; omega⟩
      · clear HC
        have hd : decide (q ≤ top) = false := decide_eq_false hq
        go_wp2
        go_ret
        exact ⟨⟨q, rfl, h0, hM⟩, hb.out⟩
    · clear HC
      go_wp2
      go_ret
      exact ⟨⟨q, rfl, h0, hM⟩, hb.out⟩

def tot (L : List (List Cp)) : Nat := (L.map fun r => r.length + 1).sum
theorem tot_take {L : List (List Cp)} {k : Nat} (h : k < L.length) : tot (L.take (k + 1)) = tot (L.take k) + ((L.getD k []).length + 1) := by
  unfold tot
  rw [List.take_add_one, List.map_append, List.sum_append, List.getElem?_eq_getElem h, List.getD_eq_getElem?_getD, List.getElem?_eq_getElem h]
  simp

set_option maxHeartbeats 1600000 in
set_option maxRecDepth 8000 in
theorem sum_two (n x : Int) (hn : 0 ≤ n ∧ n ≤ 1099511627776) (hx : 0 ≤ x) (b : Nat) (w : World) (h0 : w.cell? ⟨b, 0, none⟩ = some (.int .i64 x)) (h1 : w.cell? ⟨b, 1, none⟩ = some (.int .i64 1)) :
    Calls Try.prog 23 #[.int .i64 n, .slice (some ⟨b, 0, none⟩) 2 2] w fun e w' => (∃ r, e = .returned (.int .i64 r) ∧ 0 ≤ r ∧ r ≤ 1099511627776 ∧ (r ≤ 400 → r = n + x + 1)) ∧ w' = w := by
  refine (sum_any n [x, 1] (by simp) hn (by simpa using hx) b w (fun i hi => ?_)).mono ?_
  · match i, hi with
    | 0, _ => exact h0
    | 1, _ => exact h1
  · rintro e w' ⟨rfl, rfl⟩
    refine ⟨⟨_, rfl, ?_⟩, rfl⟩
    rw [sumC_two]
    unfold s1
    split
    · omega
    · split <;> omega

/-- what small returns -/
def SmR (l : List Tx) (L : List (List Cp)) (e : Ending) : Prop := ∃ r, e = .returned (.bool r) ∧ (r = true → tot L ≤ 400 ∧ l.length ≤ 60)
set_option maxHeartbeats 1600000 in
set_option maxRecDepth 8000 in
theorem small_any (v u : Value) (l : List Tx) (L : List (List Cp)) (w : World) (h : SlT w v l) (g : SlR w u L) :
    Calls Try.prog 8 #[v, u] w fun e w' => SmR l L e ∧ Below w.heap.size w w' := by
  obtain ⟨a, cap, rfl, ha, hle, hcap⟩ := h.form
  obtain ⟨a2, cap2, rfl, ha2, hle2, hcap2⟩ := g.form
  have HT : Hid (∀ w', Hid (Below w.heap.size w w') → SlT w' (.slice a l.length cap) l) := fun w' hb => h.below hb.out
  have HP := Lib.hid g
  clear h g
  generalize hB : w.heap.size = B at *
  have hB0 : Hid (B ≤ w.heap.size) := Nat.le_of_eq hB.symm
  have HC : Hid (∀ i, i < L.length → ∃ b o x c, a2 = some ⟨b, o, none⟩ ∧ (∀ w', Hid (Below B w w') → w'.cell? ⟨b, o + i, none⟩ = some (.slice x (L.getD i []).length c))) := fun i hi => by
    obtain ⟨b, o, u, h1, h2, h4, h5⟩ := HP.out.at rfl hi
    obtain ⟨x, c, rfl, _, _, _⟩ := SlG.form h5
    exact ⟨b, o, x, c, h1, fun w' hb => by rw [hb.out.cell (p := ⟨b, o + i, none⟩) (by rw [← hB]; exact h2)]; exact h4⟩
  have HTK : Hid (∀ k, k < L.length → tot (L.take (k + 1)) = tot (L.take k) + ((L.getD k []).length + 1)) := fun k hk => tot_take hk
  have HTA : Hid (L.take L.length = L) := List.take_length
  clear HP hB
  have hb00 : Hid (Below B w w) := Below.refl B w
  go_enter Try.func8, Try.ntmps8
  go_wp2
  go_loopw [5, 6] (fun n i wr => ∃ (k : Nat) (q : Int), k ≤ L.length ∧ i = .int .i64 k ∧ n = .int .i64 q ∧ 0 ≤ q ∧ q ≤ 1099511627776 ∧ Hid (q ≤ 400 → (tot (L.take k) : Int) = q) ∧ Hid (Below B w wr)) (fun _ i _ => L.length - (intOf i).toNat)
  case atStart => exact ⟨0, 0, Nat.zero_le _, rfl, rfl, by decide, by decide, fun _ => rfl, hb00⟩
  case round =>
    obtain ⟨k, q, hk, rfl, rfl, h0, hM, hq, hb⟩ := hrel
    by_cases hlt : k < L.length
    · obtain ⟨b, o, x, c, rfl, hcell⟩ := HC.out k hlt
      have hc1 := hcell wr hb
      have hTK := Lib.hid (HTK.out k hlt)
      have hS : Hid (B ≤ wr.heap.size) := Nat.le_trans hB0.out hb.out.size
      generalize (L.getD k []).length = m at *
      clear HC hcell HT HTA HTK
      go_wp2_with (go_at_call 23; refine (sum_two q (m : Int) ⟨h0, hM⟩ (by omega) _ _ (World.cell?_alloc_at _ _ _ 0 rfl) (World.cell?_alloc_at _ _ _ 1 rfl)).mono ?_; rintro e w1 ⟨⟨r, rfl, hr0, hr1, hr2⟩, rfl⟩)
      refine ⟨⟨k + 1, r, by omega, by go_num, rfl, hr0, hr1, fun hr => ?_, hb.out.alloc hS.out _⟩, by simp [intOf]; omega⟩
      have e1 := hr2 hr
      have e2 := hq.out (by omega)
      have e3 := hTK.out
      omega
    · have hkk : k = L.length := by omega
      subst hkk
      clear HC
      by_cases hd : q ≤ 400
      · have HTw := Lib.hid (HT.out wr hb)
        have hS : Hid (B ≤ wr.heap.size) := Nat.le_trans hB0.out hb.out.size
        clear HT
        go_wp2_with (go_at_call 24; refine (txs_any _ l 10000 _ HTw.out).mono ?_; rintro e w1 ⟨⟨r, rfl, hr1, hr2⟩, hb1⟩)
        all_goals have hb2 : Hid (Below B w w1) := hb.out.trans (hb1.mono hS.out)
        all_goals clear hb1
        · go_wp2
          go_ret
          refine ⟨⟨_, rfl, fun h5 => ?_⟩, hb2.out⟩
          have e2 := hq.out hd
          rw [HTA.out] at e2
          simp at h5
          omega
        · go_ret
          exact ⟨⟨false, rfl, fun h5 => by simp at h5⟩, hb2.out⟩
      · have h4 : decide (q ≤ 400) = false := decide_eq_false hd
        clear HT
        go_wp2
        go_ret
        exact ⟨⟨false, rfl, fun h5 => by simp at h5⟩, hb.out⟩
end Go.Proofs.Ytkpnjehgbehhcaa
namespace Go.Proofs.Ytkpnjehgbehhcaa
open Go.RowKit Go.MapKept Go.ChangeMaps Go.ChangeShapes Go.WideShapes
open Go.WideElems (Fit rd rg pl rd_key rd_val rg_of)
open Go.Maps (Keyed int_keyed fit_look fit_store)

theorem keyI : Keyed Try.prog 3 := int_keyed Try.underlying3
/-- what an element reads as: nothing is asked of it here -/
def R0 (_ : Value) : Option (DataW Unit × List MemPlace) := some (.nil, [])

/-- forty bytes in a block of their own -/
def Dat (w : World) (B : Nat) (v : Value) : Prop := ∃ xs, w.ownsRow B 5 1 v 40 xs ∧ ∀ x ∈ xs, ∃ k, x = .int .u8 k
def flatV (rs : List (Int × Value)) : List Value := rs.flatMap fun r => [.int .i64 r.1, r.2]
theorem flatV_len (rs : List (Int × Value)) : (flatV rs).length = rs.length * 2 := by
  induction rs with
  | nil => rfl
  | cons r rs ih =>
    have e : flatV (r :: rs) = [.int .i64 r.1, r.2] ++ flatV rs := rfl
    rw [e, List.length_append, ih, List.length_cons]; simp; omega
theorem flatV_app (a b : List (Int × Value)) : flatV (a ++ b) = flatV a ++ flatV b := List.flatMap_append
theorem flatV_get (rs : List (Int × Value)) : ∀ i (h : i < rs.length), (flatV rs)[i * 2]? = some (.int .i64 rs[i].1) ∧ (flatV rs)[i * 2 + 1]? = some rs[i].2 := by
  induction rs with
  | nil => intro i hi; simp at hi
  | cons r rs ih =>
    intro i hi
    have e : flatV (r :: rs) = [.int .i64 r.1, r.2] ++ flatV rs := rfl
    rw [e]
    cases i with
    | zero => exact ⟨rfl, rfl⟩
    | succ i =>
      obtain ⟨a, b⟩ := ih i (by simpa using hi)
      refine ⟨?_, ?_⟩
      · rw [List.getElem?_append_right (by simp; omega)]
        simpa [show (i + 1) * 2 - 2 = i * 2 by omega] using a
      · rw [List.getElem?_append_right (by simp; omega)]
        simpa [show (i + 1) * 2 + 1 - 2 = i * 2 + 1 by omega] using b

/-- the slice v is nil, or holds in a block of its own the versions of these times -/
def RowV (w : World) (B : Nat) (v : Value) (ts : List Int) : Prop :=
  ∃ rs : List (Int × Value), rs.map (·.1) = ts ∧ w.ownsRow B 85 2 v rs.length (flatV rs) ∧ ∀ r ∈ rs, Dat w B r.2
theorem RowV.nil (w : World) (B : Nat) : RowV w B (.slice none 0 0) [] := ⟨[], rfl, World.ownsRow_nil w B _ 2, by simp⟩

theorem ownsRow_keep {w w' : World} {B : Nat} {e : TypeId} {k n : Nat} {v : Value} {xs : List Value} (h : w.ownsRow B e k v n xs) (hk : ∀ g, v.ownBlock = some g → w'.heap[g]? = w.heap[g]?) : w'.ownsRow B e k v n xs := by
  obtain ⟨h1, h2 | ⟨g, cap, cur, rfl, h4, h5, h6⟩⟩ := h
  · exact ⟨h1, .inl h2⟩
  · exact ⟨h1, .inr ⟨g, cap, cur, rfl, h4, by rw [hk g rfl]; exact h5, h6⟩⟩
theorem ownsRow_block {w : World} {B : Nat} {e : TypeId} {k n : Nat} {v : Value} {xs : List Value} {g : Nat} (h : w.ownsRow B e k v n xs) (hg : v.ownBlock = some g) : B ≤ g ∧ ∃ cur, w.heap[g]? = some (Obj.cells cur e (0, 0)) := by
  obtain ⟨h1, ⟨rfl, _⟩ | ⟨g', cap, cur, rfl, h4, h5, h6⟩⟩ := h
  · cases hg
  · obtain rfl : g' = g := Option.some.inj hg
    exact ⟨h4, cur, h5⟩
/-- the blocks of bytes stay -/
def KeepB (w w' : World) : Prop := ∀ (g : Nat) (cur : Array Value), w.heap[g]? = some (Obj.cells cur 5 (0, 0)) → w'.heap[g]? = some (Obj.cells cur 5 (0, 0))
theorem Dat.keep {w w' : World} {B : Nat} {v : Value} (h : Dat w B v) (hk : KeepB w w') : Dat w' B v := by
  obtain ⟨xs, h1, h2⟩ := h
  refine ⟨xs, ownsRow_keep h1 fun g hg => ?_, h2⟩
  obtain ⟨_, cur, h3⟩ := ownsRow_block h1 hg
  rw [h3, hk g cur h3]
theorem RowV.keep {w w' : World} {B : Nat} {v : Value} {ts : List Int} (h : RowV w B v ts) (h1 : ∀ g, v.ownBlock = some g → w'.heap[g]? = w.heap[g]?) (h2 : KeepB w w') : RowV w' B v ts := by
  obtain ⟨rs, h3, h4, h5⟩ := h
  exact ⟨rs, h3, ownsRow_keep h4 h1, fun r hr => (h5 r hr).keep h2⟩
theorem RowV.block {w : World} {B : Nat} {v : Value} {ts : List Int} {g : Nat} (h : RowV w B v ts) (hg : v.ownBlock = some g) : B ≤ g ∧ ∃ cur, w.heap[g]? = some (Obj.cells cur 85 (0, 0)) := by
  obtain ⟨rs, _, h4, _⟩ := h
  exact ownsRow_block h4 hg

/-- block b is a map of at most n keys from 0 to 29, at key k the versions of the times V k, each row by itself -/
def Ma (w : World) (B b : Nat) (V : Int → List Int) (n : Nat) : Prop :=
  B ≤ b ∧ ∃ es clock, w.heap[b]? = some (Obj.map es clock) ∧ Fit Try.prog 3 R0 es clock ∧ es.size ≤ n ∧
    (∀ x ∈ es.toList, ∃ k, x.key = .int .i64 k ∧ 0 ≤ k ∧ k < 30 ∧ V k ≠ [] ∧ RowV w B x.val (V k)) ∧
    (∀ k, V k ≠ [] → ∃ x ∈ es.toList, x.key = .int .i64 k) ∧
    (∀ x ∈ es.toList, ∀ y ∈ es.toList, x.key ≠ y.key → x.val.ownBlock ≠ y.val.ownBlock ∨ x.val.ownBlock = none) ∧ ∀ k, (V k).length ≤ n

theorem Ma.keep {w w' : World} {B b : Nat} {V : Int → List Int} {n : Nat} (h : Ma w B b V n) (hk : ∀ g, g < w.heap.size → w'.heap[g]? = w.heap[g]?) : Ma w' B b V n := by
  have lt : ∀ {g : Nat} {o : Obj}, w.heap[g]? = some o → g < w.heap.size := fun h => (Array.getElem?_eq_some_iff.1 h).1
  have kb : KeepB w w' := fun g cur hg => by rw [hk g (lt hg)]; exact hg
  obtain ⟨h0, es, clock, h1, h2, h3, h4, h5⟩ := h
  refine ⟨h0, es, clock, by rw [hk b (lt h1)]; exact h1, h2, h3, fun x hx => ?_, h5⟩
  obtain ⟨k, q1, q2, q3, q4, q5⟩ := h4 x hx
  refine ⟨k, q1, q2, q3, q4, q5.keep (fun g hg => ?_) kb⟩
  obtain ⟨_, cur, q6⟩ := q5.block hg
  exact hk g (lt q6)

/-- the value v lies at key k -/
def AtK (w : World) (b : Nat) (k : Int) (v : Value) : Prop :=
  ∃ es clock, w.heap[b]? = some (Obj.map es clock) ∧ (((∀ x ∈ es.toList, x.key ≠ .int .i64 k) ∧ v = .slice none 0 0) ∨ ∃ e0 ∈ es.toList, e0.key = .int .i64 k ∧ e0.val = v)

theorem keyOf_k {k : Int} (h : 0 ≤ k ∧ k < 30) : keyOf Try.prog 3 (.int .i64 k) = some (.int .i64 k) :=
  Maps.keyOf_int_mk Try.underlying3 (WalkArith.wf_i64 (by omega))
theorem zeroRow (w : World) : (zeroValue 86).run Try.prog w = .ok (.slice none 0 0) w := by kernel_rfl

theorem Ma.look {w : World} {B b : Nat} {V : Int → List Int} {n : Nat} (h : Ma w B b V n) {k : Int} (hk : 0 ≤ k ∧ k < 30) :
    ∃ v, (Instr.lookup 87 (.map (some b)) (.int .i64 k) false).run Try.prog w = .ok v w ∧ RowV w B v (V k) ∧ AtK w b k v := by
  obtain ⟨h0, es, clock, h1, h2, h3, h4, h5, h6⟩ := h
  rcases fit_look false keyI Try.underlying87 (zeroRow w) h1 h2 (keyOf_k hk) with ⟨hrun, hno, _⟩ | ⟨e0, y, hm, he, hrun, _⟩
  · refine ⟨_, hrun, ?_, es, clock, h1, .inl ⟨hno, rfl⟩⟩
    have : V k = [] := by
      by_cases hv : V k = []
      · exact hv
      · obtain ⟨x, hx, hxk⟩ := h5 k hv
        exact absurd hxk (hno x hx)
    rw [this]
    exact RowV.nil w B
  · obtain ⟨k', q1, _, _, _, q5⟩ := h4 e0 hm
    rw [he] at q1
    obtain rfl : k = k' := by simpa using q1
    exact ⟨_, hrun, q5, es, clock, h1, .inr ⟨e0, hm, he, rfl⟩⟩

def upd (V : Int → List Int) (k : Int) (ts : List Int) : Int → List Int := fun j => if j = k then ts else V j

theorem rg_lit {H : Type} {P : Program} {k : TypeId} {R : Value → Option (DataW H × List MemPlace)} {x : MapEntry} {y : Lit × DataW H} (h : rd P k R x = some y) : (rg P k R x).1 = y.1 := by rw [rg_of h]
set_option maxRecDepth 100000 in
theorem Ma.store {w w1 : World} {B b : Nat} {V : Int → List Int} {n : Nat} (h : Ma w B b V n) (hn : n < 1000000) {k : Int} (hk : 0 ≤ k ∧ k < 30) {v v' : Value} (hat : AtK w b k v)
    (hkeep : ∀ g, g < w.heap.size → v.ownBlock ≠ some g → w1.heap[g]? = w.heap[g]?) {ts : List Int} (hrow : RowV w1 B v' ts) (hts : ts ≠ []) (hlen : ts.length ≤ n + 1)
    (hloc : v'.ownBlock = v.ownBlock ∨ ∃ g, v'.ownBlock = some g ∧ w.heap.size ≤ g) :
    ∃ w2, (Instr.mapUpdate 87 (.map (some b)) (.int .i64 k) v').run Try.prog w1 = .ok () w2 ∧ Ma w2 B b (upd V k ts) (n + 1) ∧ w1.grownBy w2 (some b) := by
  have lt : ∀ {w : World} {g : Nat} {o : Obj}, w.heap[g]? = some o → g < w.heap.size := fun h => (Array.getElem?_eq_some_iff.1 h).1
  obtain ⟨h0, es, clock, h1, h2, h3, h4, h5, h6, h7⟩ := h
  obtain ⟨es', clock', h1', hat⟩ := hat
  rw [h1] at h1'
  obtain ⟨rfl, rfl⟩ : es = es' ∧ clock = clock' := by simpa using h1'
  have hvo : ∀ g, v.ownBlock = some g → ∃ cur, w.heap[g]? = some (Obj.cells cur 85 (0, 0)) := fun g hg => by
    rcases hat with ⟨_, rfl⟩ | ⟨e0, he0, _, rfl⟩
    · cases hg
    · obtain ⟨_, _, _, _, _, q⟩ := h4 e0 he0
      exact (q.block hg).2
  have hb1 : w1.heap[b]? = some (Obj.map es clock) := by
    rw [hkeep b (lt h1) (fun e => ?_)]
    · exact h1
    · obtain ⟨cur, hc⟩ := hvo b e
      rw [h1] at hc
      cases hc
  have kb1 : KeepB w w1 := fun g cur hg => by
    rw [hkeep g (lt hg) (fun e => ?_)]
    · exact hg
    · obtain ⟨cur', hc⟩ := hvo g e
      rw [hg] at hc
      simp at hc
  obtain ⟨es', clock', hrun, hF, hput, _, _, hwho⟩ := fit_store (R' := R0) keyI Try.underlying87 hb1 h2 (by unfold maxLen; omega) (fun _ _ _ z hz => hz) (keyOf_k hk) (yv := (.nil, [])) (val := v') rfl
  have hg2 : w1.grownBy (setBlock w1 b (.map es' clock')) (some b) := ⟨rfl, rfl, rfl, by simp [setBlock], fun i _ hi => heap_setBlock_other hb1 _ (fun e1 => hi (by rw [e1]))⟩
  have keep2 : ∀ (g : Nat) (cur : Array Value) (t : TypeId), w1.heap[g]? = some (Obj.cells cur t (0, 0)) → (setBlock w1 b (.map es' clock')).heap[g]? = some (Obj.cells cur t (0, 0)) := fun g cur t hg => by
    rw [hg2.block g (lt hg) (fun e => ?_)]
    · exact hg
    · obtain rfl : g = b := Option.some.inj e
      rw [hb1] at hg
      cases hg
  have kb2 : KeepB w1 (setBlock w1 b (.map es' clock')) := fun g cur hg => keep2 g cur _ hg
  -- an old entry at another key lies apart from v
  have hap : ∀ x ∈ es.toList, x.key ≠ .int .i64 k → ∀ g, x.val.ownBlock = some g → v.ownBlock ≠ some g := fun x hx hne g hg e => by
    rcases hat with ⟨_, rfl⟩ | ⟨e0, he0, hk0, rfl⟩
    · cases e
    · rcases h6 x hx e0 he0 (by rw [hk0]; exact hne) with q | q
      · exact q (by rw [hg, e])
      · rw [hg] at q; cases q
  refine ⟨_, hrun, ⟨h0, es', clock', heap_setBlock_same hb1 _, hF, ?_, ?_, ?_, ?_, ?_⟩, hg2⟩
  · have e1 : es'.size = ((es'.toList.map (rg Try.prog 3 R0)).foldr DataW.insert []).length := by rw [length_sorted]; simp
    rw [e1, hput]
    unfold putKey
    rw [length_insert]
    have e2 := List.length_filter_le (notKey (.int .i64 k)) ((es.toList.map (rg Try.prog 3 R0)).foldr DataW.insert [])
    rw [length_sorted] at e2
    simp at e2
    omega
  · intro x hx
    rcases hwho x hx with ⟨hx0, hxk⟩ | ⟨hxk, hxv⟩
    · obtain ⟨j, q1, q2, q3, q4, q5⟩ := h4 x hx0
      have hjk : j ≠ k := fun e => hxk (by rw [q1, e])
      have e : upd V k ts j = V j := if_neg hjk
      refine ⟨j, q1, q2, q3, by rw [e]; exact q4, by
        rw [e]
        refine (q5.keep (w' := w1) (fun g hg => ?_) kb1).keep (fun g hg => ?_) kb2
        · obtain ⟨_, cur, hc⟩ := q5.block hg
          exact hkeep g (lt hc) (hap x hx0 hxk g hg)
        · obtain ⟨_, cur, hc⟩ := q5.block hg
          have : w1.heap[g]? = some (Obj.cells cur 85 (0, 0)) := by rw [hkeep g (lt hc) (hap x hx0 hxk g hg)]; exact hc
          rw [this, keep2 g _ _ this]⟩
    · have e : upd V k ts k = ts := if_pos rfl
      refine ⟨k, hxk, hk.1, hk.2, by rw [e]; exact hts, ?_⟩
      rw [e, hxv]
      refine hrow.keep (fun g hg => ?_) kb2
      obtain ⟨_, cur, hc⟩ := hrow.block hg
      rw [hc, keep2 g _ _ hc]
  · -- every key that has versions is there
    have inOf : ∀ j, 0 ≤ j ∧ j < 30 → (∃ p ∈ putKey (.int .i64 k) DataW.nil ((es.toList.map (rg Try.prog 3 R0)).foldr DataW.insert []), p.1 = .int .i64 j) → ∃ x ∈ es'.toList, x.key = .int .i64 j := by
      rintro j hj ⟨p, hp, hpj⟩
      rw [← hput] at hp
      obtain ⟨x, hx, rfl⟩ := List.mem_map.1 ((sorted_perm _).mem_iff.1 hp)
      obtain ⟨y, hy⟩ := hF.reads x hx
      have m1 := rd_key hy
      have m2 := (rg_lit hy).symm.trans hpj
      exact ⟨x, hx, keyI.inj (m1.trans (congrArg some m2)) (keyOf_k hj)⟩
    intro j hj
    by_cases hjk : j = k
    · subst hjk
      exact inOf j hk ⟨(.int .i64 j, .nil), by unfold putKey; exact mem_insert_iff.2 (.inl rfl), rfl⟩
    · have e : upd V k ts j = V j := if_neg hjk
      rw [e] at hj
      obtain ⟨x, hx, hxj⟩ := h5 j hj
      have hj30 : 0 ≤ j ∧ j < 30 := by
        obtain ⟨j', q1, q2, q3, _⟩ := h4 x hx
        rw [hxj] at q1
        obtain rfl : j = j' := by simpa using q1
        exact ⟨q2, q3⟩
      refine inOf j hj30 ⟨rg Try.prog 3 R0 x, ?_, ?_⟩
      · unfold putKey
        refine mem_insert_iff.2 (.inr (List.mem_filter.2 ⟨(sorted_perm _).mem_iff.2 (List.mem_map.2 ⟨x, hx, rfl⟩), ?_⟩))
        refine (Maps.notKey_iff (keyI.key (keyOf_k hk))).2 ?_
        obtain ⟨y, hy⟩ := h2.reads x hx
        have m1 := rd_key hy
        have m3 := rg_lit hy
        have m2 : some y.1 = some (.int .i64 j) := m1.symm.trans ((congrArg (keyOf Try.prog 3) hxj).trans (keyOf_k hj30))
        intro e
        have e2 := (Option.some.inj m2).symm.trans (m3.symm.trans e)
        exact hjk (by simpa using e2)
      · obtain ⟨y, hy⟩ := h2.reads x hx
        have m1 := rd_key hy
        have m3 := rg_lit hy
        have m2 : some y.1 = some (.int .i64 j) := m1.symm.trans ((congrArg (keyOf Try.prog 3) hxj).trans (keyOf_k hj30))
        exact m3.trans (Option.some.inj m2)
  · intro x hx y hy hne
    have other : ∀ x ∈ es.toList, x.key ≠ .int .i64 k → x.val.ownBlock ≠ v'.ownBlock ∨ x.val.ownBlock = none := fun x hx hxk => by
      cases hxo : x.val.ownBlock with
      | none => exact .inr rfl
      | some g =>
        refine .inl fun e => ?_
        rcases hloc with q | ⟨g', q1, q2⟩
        · exact hap x hx hxk g hxo (by rw [← q, ← e])
        · rw [q1] at e
          obtain rfl : g = g' := Option.some.inj e
          obtain ⟨_, _, _, _, _, q5⟩ := h4 x hx
          obtain ⟨_, cur, hc⟩ := q5.block hxo
          have := lt hc
          omega
    rcases hwho x hx with ⟨hx0, hxk⟩ | ⟨hxk, hxv⟩ <;> rcases hwho y hy with ⟨hy0, hyk⟩ | ⟨hyk, hyv⟩
    · exact h6 x hx0 y hy0 hne
    · rw [hyv]; exact other x hx0 hxk
    · rw [hxv]
      rcases other y hy0 hyk with q | q
      · exact .inl fun e => q e.symm
      · cases hv : v'.ownBlock with
        | none => exact .inr rfl
        | some g => exact .inl (by rw [q]; simp)
    · exact absurd (hxk.trans hyk.symm) hne
  · intro j
    unfold upd
    split
    · exact hlen
    · have := h7 j; omega
end Go.Proofs.Ytkpnjehgbehhcaa
namespace Go.Proofs.Ytkpnjehgbehhcaa
open Go.RowKit

/-- p leads to a map of 30 blocks with the versions V, last the greatest time -/
def Mp (w : World) (B p : Nat) (V : Int → List Int) (last : Int) (n : Nat) : Prop :=
  B ≤ p ∧ ∃ b, w.heap[p]? = some (Obj.cells #[.int .i64 30, .map (some b), .int .i64 last] 89 (0, 0)) ∧ Ma w B b V n
theorem Mp.keep {w w' : World} {B p : Nat} {V : Int → List Int} {last : Int} {n : Nat} (h : Mp w B p V last n) (hk : ∀ g, g < w.heap.size → w'.heap[g]? = w.heap[g]?) : Mp w' B p V last n := by
  obtain ⟨h0, b, h1, h2⟩ := h
  exact ⟨h0, b, by rw [hk p ((Array.getElem?_eq_some_iff.1 h1).1)]; exact h1, h2.keep hk⟩
theorem Mp.below {w w' : World} {B p : Nat} {V : Int → List Int} {last : Int} {n : Nat} (h : Mp w B p V last n) (hb : Below w.heap.size w w') : Mp w' B p V last n :=
  h.keep fun g hg => hb.block g hg
theorem Mp.cells {w : World} {B p : Nat} {V : Int → List Int} {last : Int} {n : Nat} (h : Mp w B p V last n) :
    p < w.heap.size ∧ w.cell? ⟨p, 0, none⟩ = some (.int .i64 30) ∧ (∃ b, w.cell? ⟨p, 1, none⟩ = some (.map (some b)) ∧ Ma w B b V n) ∧ w.cell? ⟨p, 2, none⟩ = some (.int .i64 last) := by
  obtain ⟨_, b, h1, h2⟩ := h
  refine ⟨(Array.getElem?_eq_some_iff.1 h1).1, ?_, ⟨b, ?_, h2⟩, ?_⟩ <;> simp [World.cell?, h1]

theorem gone_any (p : Nat) (w : World) (h : w.cell? ⟨p, 0, none⟩ = some (.int .i64 30)) :
    Calls Try.prog 44 #[.pointer (some ⟨p, 0, none⟩)] w fun e w' => e = .returned (.bool false) ∧ w' = w := by
  go_enter Try.func44, Try.ntmps44
  go_wp2
  go_ret
  exact ⟨rfl, rfl⟩
theorem blocks_any (p : Nat) (w : World) (h : w.cell? ⟨p, 0, none⟩ = some (.int .i64 30)) :
    Calls Try.prog 50 #[.pointer (some ⟨p, 0, none⟩)] w fun e w' => e = .returned (.int .i64 30) ∧ w' = w := by
  go_enter Try.func50, Try.ntmps50
  go_wp2
  go_ret
  exact ⟨rfl, rfl⟩
def inB (k : Int) : Bool := decide (0 ≤ k) && decide (k < 30)
theorem block_any (p : Nat) (k : Int) (w : World) (h : w.cell? ⟨p, 0, none⟩ = some (.int .i64 30)) :
    Calls Try.prog 35 #[.pointer (some ⟨p, 0, none⟩), .int .i64 k] w fun e w' => e = .returned (.bool (inB k)) ∧ w' = w := by
  unfold inB
  go_enter Try.func35, Try.ntmps35
  by_cases h0 : 0 ≤ k
  · have e : decide (0 ≤ k) = true := decide_eq_true h0
    rw [e]
    go_wp2_with (go_at_call 50; refine (blocks_any p _ h).mono ?_; rintro e w' ⟨rfl, rfl⟩)
    go_ret
    exact ⟨rfl, rfl⟩
  · have e : decide (0 ≤ k) = false := decide_eq_false h0
    rw [e]
    go_wp2
    go_ret
    exact ⟨rfl, rfl⟩

theorem Dat.form {w : World} {B : Nat} {v : Value} (h : Dat w B v) : ∃ g cap, v = .slice (some ⟨g, 0, none⟩) 40 cap ∧ g < w.heap.size ∧ ∀ i, i < 40 → ∃ k, w.cell? ⟨g, i, none⟩ = some (.int .u8 k) := by
  obtain ⟨xs, h1, h2⟩ := h
  have h1' := h1
  obtain ⟨h3, ⟨_, h4⟩ | ⟨g, cap, cur, rfl, _, h5, _⟩⟩ := h1
  · cases h4
  · refine ⟨g, cap, rfl, (Array.getElem?_eq_some_iff.1 h5).1, fun i hi => ?_⟩
    have h6 := World.ownsRow.cellAt h1' i (by omega)
    rw [h6, List.getElem?_eq_getElem (by omega)]
    obtain ⟨k, hk⟩ := h2 _ (List.getElem_mem (show i < xs.length by omega))
    exact ⟨k, by rw [hk]⟩
theorem RowV.form {w : World} {B : Nat} {v : Value} {ts : List Int} (h : RowV w B v ts) :
    ∃ a cap, v = .slice a ts.length cap ∧ ts.length ≤ 9223372036854775807 ∧ ∀ i, i < ts.length → ∃ g d, a = some ⟨g, 0, none⟩ ∧ g < w.heap.size ∧ w.cell? ⟨g, i * 2, none⟩ = some (.int .i64 (ts.getD i 0)) ∧ w.cell? ⟨g, i * 2 + 1, none⟩ = some d ∧ Dat w B d := by
  obtain ⟨rs, rfl, h1, h2⟩ := h
  have h1' := h1
  obtain ⟨h3, ⟨rfl, h4⟩ | ⟨g, cap, cur, rfl, _, h5, h6, h7, _⟩⟩ := h1
  · have : rs = [] := List.eq_nil_of_length_eq_zero h4
    subst this
    exact ⟨none, 0, rfl, by decide, fun i hi => absurd hi (Nat.not_lt_zero _)⟩
  · refine ⟨some ⟨g, 0, none⟩, cap, by rw [List.length_map], by rw [List.length_map]; simp only [maxLen] at h7; omega, fun i hi => ?_⟩
    rw [List.length_map] at hi
    obtain ⟨f0, f1⟩ := flatV_get rs i hi
    refine ⟨g, rs[i].2, rfl, (Array.getElem?_eq_some_iff.1 h5).1, ?_, ?_, h2 _ (List.getElem_mem hi)⟩
    · rw [World.ownsRow.cellAt h1' (i * 2) (by omega), f0, List.getD_eq_getElem?_getD, List.getElem?_map, List.getElem?_eq_getElem hi]
      rfl
    · rw [World.ownsRow.cellAt h1' (i * 2 + 1) (by omega), f1]

/-- how many versions stand up to the newest one that is not above t, among the first k -/
def atN (ts : List Int) (t : Int) : Nat → Nat
  | 0 => 0
  | k + 1 => if ts.getD k 0 ≤ t then k + 1 else atN ts t k
theorem atN_le (ts : List Int) (t : Int) : ∀ k, atN ts t k ≤ k
  | 0 => Nat.le_refl _
  | k + 1 => by unfold atN; split; exact Nat.le_refl _; have := atN_le ts t k; omega

/-- 'm[k]' at the operation, its run being known -/
theorem wpList_look {P : Program} {w : World} {ops : Array Oper} {rest : List Oper} {o : Oper} {a : Act} {Q : Exit → Act → World → Prop} (hg : o.guard = none) (m x : Operand) (t : TypeId) (hop : o.op = Op.lookup t m x false)
    (mv xv v : Value) (hm : a.eval m = mv) (hx : a.eval x = xv) (hrun : (Instr.lookup t mv xv false).run P w = .ok v w) (hK : wpList P ops Q rest (a.put o.dst v) w) : wpList P ops Q (o :: rest) a w := by
  refine wpList_plain hg fun K' hK' => ?_
  unfold Oper.wp
  simp [execOp, hop, hm, hx, hrun, Result.andThen]
  exact hK' _ _ hK

set_option maxHeartbeats 1600000 in
set_option maxRecDepth 8000 in
theorem at_any {B p : Nat} {V : Int → List Int} {last : Int} {n : Nat} (k t : Int) (hk : inB k = true) (w : World) (h : Mp w B p V last n) :
    Calls Try.prog 36 #[.pointer (some ⟨p, 0, none⟩), .int .i64 k, .int .i64 t] w fun e w' => e = .returned (.int .i64 ((atN (V k) t (V k).length : Nat) - 1 : Int)) ∧ w' = w := by
  have hk' : 0 ≤ k ∧ k < 30 := by unfold inB at hk; simpa using hk
  obtain ⟨_, _, ⟨b, c1, hm⟩, _⟩ := h.cells
  obtain ⟨v, hrun, hrow, _⟩ := hm.look hk'
  obtain ⟨a, cap, rfl, hlen, hrd⟩ := hrow.form
  have HC : Hid (∀ i, i < (V k).length → ∃ g, a = some ⟨g, 0, none⟩ ∧ w.cell? ⟨g, i * 2, none⟩ = some (.int .i64 ((V k).getD i 0))) := fun i hi => by
    obtain ⟨g, _, h1, _, h2, _⟩ := hrd i hi
    exact ⟨g, h1, h2⟩
  have HR := Lib.hid hrun
  rename_i q1 q2 q3 q4
  clear hm hrow h hrd hk hrun q1 q2 q3 q4
  generalize V k = ts at *
  have HA : Hid (∀ q, atN ts t (q + 1) = if ts.getD q 0 ≤ t then q + 1 else atN ts t q) := fun q => rfl
  have HA0 : Hid (atN ts t 0 = 0) := rfl
  go_enter Try.func36, Try.ntmps36
  go_wp2
  go_step3
  go_wp2_with (first | (at_lookup; refine wpList_look rfl _ _ _ rfl _ _ _ rfl rfl HR.out ?_) | fail)
  go_step3
  go_wp2
  go_loop [8] (fun i => ∃ j : Nat, j ≤ ts.length ∧ i = .int .i64 ((j : Int) - 1) ∧ Hid (atN ts t j = atN ts t ts.length)) (fun i => (intOf i + 1).toNat)
  case atStart => exact ⟨ts.length, Nat.le_refl _, rfl, rfl⟩
  case round =>
    obtain ⟨j, hj, rfl, hS⟩ := hrel
    cases j with
    | zero =>
      have e0 : Hid (atN ts t ts.length = 0) := hS.out.symm
      clear HC HA HA0 hS
      go_wp2
      try rw [Exit.noGoto_ret]
      go_ret
      rw [e0.out]
      exact ⟨rfl, rfl⟩
    | succ j =>
      have hqz : (((j + 1 : Nat) : Int) - 1) = (j : Int) := by omega
      rw [hqz]
      obtain ⟨g, rfl, hc⟩ := HC.out j (by omega)
      have hS2 : Hid (atN ts t ts.length = if ts.getD j 0 ≤ t then j + 1 else atN ts t j) := hS.out.symm
      have hlt : (j : Int) < (ts.length : Int) := by omega
      clear HC HA HA0 hS hqz
      generalize ts.getD j 0 = x at *
      by_cases hx : x ≤ t
      · go_wp2
        try rw [Exit.noGoto_ret]
        go_ret
        have := hS2.out
        rw [if_pos hx] at this
        rw [this]
        refine ⟨?_, rfl⟩
        have e : (((j + 1 : Nat) : Int) - 1) = (j : Int) := by omega
        rw [e]
        rfl
      · have hd : decide (x ≤ t) = false := decide_eq_false hx
        go_wp2
        have := hS2.out
        rw [if_neg hx] at this
        exact ⟨⟨j, by omega, rfl, this.symm⟩, by simp [intOf]⟩
end Go.Proofs.Ytkpnjehgbehhcaa
namespace Go.Proofs.Ytkpnjehgbehhcaa
open Go.RowKit

/-- the slice value src has m elements, whose cells are news -/
def Src (w : World) (src : Value) (m : Nat) (news : List Value) : Prop :=
  (src = .slice none 0 0 ∧ m = 0 ∧ news = []) ∨ ∃ ad c, src = .slice (some ad) m c ∧ ∀ j u, news[j]? = some u → w.cell? (ad.add j) = some u

theorem addr_ad (b o i : Nat) : (⟨b, o, none⟩ : Addr).add i = ⟨b, o + i, none⟩ := addr_add b o i

theorem Src.new (w : World) (cs : List Value) (t : TypeId) (m : Nat) : Src (w.alloc (.cells cs.toArray t)) (.slice (some ⟨w.heap.size, 0, none⟩) m m) m cs := by
  refine .inr ⟨_, m, rfl, fun j u hj => ?_⟩
  rw [addr_ad, Nat.zero_add]
  rw [World.cell?_alloc_at _ _ _ _ rfl]
  simpa using hj
theorem Src.below {w w' : World} {src : Value} {m : Nat} {news : List Value} (h : Src w src m news) (hb : Below w.heap.size w w') : Src w' src m news := by
  rcases h with h | ⟨ad, c, h1, h2⟩
  · exact .inl h
  · refine .inr ⟨ad, c, h1, fun j u hj => ?_⟩
    have h3 := h2 j u hj
    obtain ⟨b, o, hbo⟩ := addr_some h3
    rw [hbo] at h3 ⊢
    rw [hb.cell (p := ⟨b, o, none⟩) ?_]
    · exact h3
    · rcases Nat.lt_or_ge b w.heap.size with h' | h'
      · exact h'
      · simp [World.cell?, Array.getElem?_eq_none h'] at h3

section
variable {P : Program} {w : World}
theorem run_appG (base : Nat) (t ty e : TypeId) (z : Value) (k bytes : Nat) (ht : P.underlying t = some (.slice e)) (info : (P.info? e).map (fun i => (i.zero, i.size, i.bytes)) = some (some z, k, bytes)) (hzs : z.cells.size = k) (hk : 0 < k)
    (v : Value) (n : Nat) (xs : List Value) (hown : w.ownsRow base e k v n xs) (src : Value) (m : Nat) (news : List Value) (hsrc : Src w src m news) (hl : news.length = m * k) (h1 : ∀ u ∈ news, u.oneCell' = true)
    (hb : (n + m) * bytes ≤ 140737488355328) (h63 : n + m ≤ maxLen) (hbase : base ≤ w.heap.size) :
    ∃ v' w', (Builtin.append_ #[t, t] ty #[v, src]).run P w = .ok v' w' ∧ w'.ownsRow base e k v' (n + m) (xs ++ news) ∧ w.grownBy w' v.ownBlock ∧ (v'.ownBlock = v.ownBlock ∨ v'.ownBlock = some w.heap.size) := by
  obtain ⟨i0, hi, hz0, hz1, hz2⟩ := info_parts info
  rcases hsrc with ⟨rfl, rfl, rfl⟩ | ⟨ad, c, rfl, hc⟩
  · exact ⟨v, w, run_append_owned_none (P := P) (w := w) base t ty e i0 k ht hi v n xs hown, by rw [List.append_nil]; exact hown, ⟨rfl, rfl, rfl, Nat.le_refl _, fun _ _ _ => rfl⟩, .inl rfl⟩
  · obtain ⟨v', w', r1, r2, r3, _, r5⟩ := run_append_own_at (P := P) w base t ty e i0 z k bytes ht hi hz0 hz1 hz2 hzs hk v n xs hown ad m c news hl hc h1 h63 hb hbase
    exact ⟨v', w', r1, r2, r3, r5⟩

theorem wp_appG {o : Oper} {a : Act} {K : Act → World → Prop} {Q : Exit → Act → World → Prop} (s x : Operand) (base : Nat) (t e : TypeId) (z : Value) (k bytes : Nat) (ho : o.op = .call { callee := .builtin .append, args := #[s, x], argTypes := #[t, t] })
    (ht : P.underlying t = some (.slice e)) (info : (P.info? e).map (fun i => (i.zero, i.size, i.bytes)) = some (some z, k, bytes)) (hzs : z.cells.size = k) (hk : 0 < k)
    (v : Value) (n : Nat) (xs : List Value) (hs : a.eval s = v) (hown : w.ownsRow base e k v n xs) (src : Value) (m : Nat) (news : List Value) (hx : a.eval x = src) (hsrc : Src w src m news) (hl : news.length = m * k) (h1 : ∀ u ∈ news, u.oneCell' = true)
    (hb : (n + m) * bytes ≤ 140737488355328) (h63 : n + m ≤ maxLen) (hbase : base ≤ w.heap.size)
    (h : ∀ v' w', w'.ownsRow base e k v' (n + m) (xs ++ news) → w.grownBy w' v.ownBlock → (v'.ownBlock = v.ownBlock ∨ v'.ownBlock = some w.heap.size) → K (a.put o.dst v') w') : Oper.wp P o a w K Q := by
  obtain ⟨v', w', hrun, r2, r3, r4⟩ := run_appG (P := P) (w := w) base t o.type e z k bytes ht info hzs hk v n xs hown src m news hsrc hl h1 hb h63 hbase
  unfold Oper.wp
  simp [execOp, ho, resolve, invoke, builtin, hs, hx, hrun, Result.andThen]
  exact h v' w' r2 r3 r4

theorem wpList_appG {ops : Array Oper} {rest : List Oper} {o : Oper} {a : Act} {Q : Exit → Act → World → Prop} (hgd : o.guard = none) (s x : Operand) (base : Nat) (t e : TypeId) (z : Value) (k bytes : Nat) (ho : o.op = .call { callee := .builtin .append, args := #[s, x], argTypes := #[t, t] })
    (ht : P.underlying t = some (.slice e)) (info : (P.info? e).map (fun i => (i.zero, i.size, i.bytes)) = some (some z, k, bytes)) (hzs : z.cells.size = k) (hk : 0 < k)
    (v : Value) (n : Nat) (xs : List Value) (hs : a.eval s = v) (hown : w.ownsRow base e k v n xs) (src : Value) (m : Nat) (news : List Value) (hx : a.eval x = src) (hsrc : Src w src m news) (hl : news.length = m * k) (h1 : ∀ u ∈ news, u.oneCell' = true)
    (hb : (n + m) * bytes ≤ 140737488355328) (h63 : n + m ≤ maxLen) (hbase : base ≤ w.heap.size)
    (h : ∀ v' w', w'.ownsRow base e k v' (n + m) (xs ++ news) → w.grownBy w' v.ownBlock → (v'.ownBlock = v.ownBlock ∨ v'.ownBlock = some w.heap.size) → wpList P ops Q rest (a.put o.dst v') w') : wpList P ops Q (o :: rest) a w :=
  wpList_plain hgd fun _ hK => wp_appG s x base t e z k bytes ho ht info hzs hk v n xs hs hown src m news hx hsrc hl h1 hb h63 hbase fun v' w' h2 h3 h4 => hK _ _ (h v' w' h2 h3 h4)

theorem step_appG {ops : Array Oper} {o : Oper} {a : Act} {K : Act → World → Prop} {Q : Exit → Act → World → Prop} {E : Prop} (hgd : o.guard = none) (s x : Operand) (base : Nat) (t e : TypeId) (z : Value) (k bytes : Nat) (ho : o.op = .call { callee := .builtin .append, args := #[s, x], argTypes := #[t, t] })
    (ht : P.underlying t = some (.slice e)) (info : (P.info? e).map (fun i => (i.zero, i.size, i.bytes)) = some (some z, k, bytes)) (hzs : z.cells.size = k) (hk : 0 < k)
    (v : Value) (n : Nat) (xs : List Value) (hs : a.eval s = v) (hown : w.ownsRow base e k v n xs) (src : Value) (m : Nat) (news : List Value) (hx : a.eval x = src) (hsrc : Src w src m news) (hl : news.length = m * k) (h1 : ∀ u ∈ news, u.oneCell' = true)
    (hb : (n + m) * bytes ≤ 140737488355328) (h63 : n + m ≤ maxLen) (hbase : base ≤ w.heap.size)
    (h : ∀ v' w', w'.ownsRow base e k v' (n + m) (xs ++ news) → w.grownBy w' v.ownBlock → (v'.ownBlock = v.ownBlock ∨ v'.ownBlock = some w.heap.size) → K (a.put o.dst v') w') :
    if Region.wanted o (yielded ops a.tmps) = true then Oper.wp P o a w K Q else E := by
  have hw : Region.wanted o (yielded ops a.tmps) = true := by simp [Region.wanted, hgd]
  rw [if_pos hw]
  exact wp_appG s x base t e z k bytes ho ht info hzs hk v n xs hs hown src m news hx hsrc hl h1 hb h63 hbase h
end

theorem infoB : (Try.prog.info? 5).map (fun i => (i.zero, i.size, i.bytes)) = some (some (.int .u8 0), 1, 1) := by kernel_rfl

/-- an empty row, built just now -/
theorem ownsRow_empty {w : World} {base g k : Nat} {e : TypeId} (hg : w.heap[g]? = some (Obj.cells #[] e (0, 0))) (hb : base ≤ g) : w.ownsRow base e k (.slice (some ⟨g, 0, none⟩) 0 0) 0 [] :=
  ⟨by simp, .inr ⟨g, 0, #[], rfl, hb, hg, Nat.le_refl _, Nat.zero_le _, by simp, by simp⟩⟩

theorem SlB.src {w : World} {v : Value} {n : Nat} (h : SlB w v n) : ∃ news : List Value, Src w v n news ∧ news.length = n * 1 ∧ ∀ u ∈ news, ∃ k, u = .int .u8 k := by
  obtain ⟨a, cap, rfl, h0, h1, _, h⟩ := h
  cases n with
  | zero =>
    cases a with
    | none => exact ⟨[], .inl ⟨by rw [h0 rfl], rfl, rfl⟩, rfl, by simp⟩
    | some ad => exact ⟨[], .inr ⟨ad, cap, rfl, by simp⟩, rfl, by simp⟩
  | succ n =>
    obtain ⟨b, o, rfl, _, _⟩ := h 0 (by omega)
    obtain ⟨l, hl, hp⟩ := list_of (n + 1) (Value.int .u8 0) (p := fun i u => w.cell? ⟨b, o + i, none⟩ = some u ∧ ∃ k, u = .int .u8 k) (fun i hi => by
      obtain ⟨b', o', hbo, _, hc⟩ := h i hi
      cases hbo
      obtain ⟨u, h3, h4⟩ := hc 0 (by decide)
      exact ⟨u, by simpa using h3, h4⟩)
    refine ⟨l, .inr ⟨_, cap, rfl, fun j u hj => ?_⟩, by omega, fun u hu => ?_⟩
    · have hjl := (List.getElem?_eq_some_iff.1 hj).1
      have := (hp j (by omega)).1
      rw [List.getD_eq_getElem?_getD, hj] at this
      rw [addr_ad]
      exact this
    · obtain ⟨i, hi, rfl⟩ := List.getElem_of_mem hu
      have := (hp i (by omega)).2
      rw [List.getD_eq_getElem?_getD, List.getElem?_eq_getElem hi] at this
      exact this
theorem SlB.form' {w : World} {v : Value} {n : Nat} (h : SlB w v n) : ∃ a cap, v = .slice a n cap := by
  obtain ⟨a, cap, h, _⟩ := SlG.form h
  exact ⟨a, cap, h⟩
end Go.Proofs.Ytkpnjehgbehhcaa
namespace Go.Proofs.Ytkpnjehgbehhcaa
open Go.RowKit

set_option maxHeartbeats 1600000 in
set_option maxRecDepth 8000 in
theorem clone_any (v : Value) (n : Nat) (hn : n ≤ 1000000) (w : World) (h : SlB w v n) :
    Calls Try.prog 37 #[v] w fun e w' => (∃ v', e = .returned v' ∧ ∃ xs, w'.ownsRow w.heap.size 5 1 v' n xs ∧ ∀ x ∈ xs, ∃ k, x = .int .u8 k) ∧ Below w.heap.size w w' := by
  obtain ⟨news, hsrc, hl, hu⟩ := h.src
  obtain ⟨a, cap, rfl, h0, _, _⟩ := SlG.form h
  have HS : Hid (∀ w', Below w.heap.size w w' → Src w' (.slice a n cap) n news) := fun w' hb => hsrc.below hb
  have HU := Lib.hid hu
  have hone : Hid (∀ u ∈ news, u.oneCell' = true) := fun u hm => by obtain ⟨k, rfl⟩ := hu u hm; rfl
  have hL := Lib.hid hl
  have hnil : Hid (a = none → n = 0) := fun ha => by
    subst ha
    rcases hsrc with ⟨_, h1, _⟩ | ⟨_, _, h2, _⟩
    · exact h1
    · cases h2
  clear hsrc h hu hl
  generalize hB : w.heap.size = B at *
  have hB0 : Hid (B = w.heap.size) := hB.symm
  cases a with
  | none =>
    obtain rfl : n = 0 := hnil.out rfl
    obtain rfl : cap = 0 := h0 rfl
    have hq := fun w => Lib.run_eql_slice_nil (P := Try.prog) w 43 5 none 0 0 0 0 Try.underlying43
    have hw : Hid (Below B w w) := Below.refl B w
    clear HS hB
    go_enter Try.func37, Try.ntmps37
    go_wp2
    go_ret
    exact ⟨⟨_, rfl, [], World.ownsRow_nil w B _ 1, by simp⟩, hw.out⟩
  | some ad =>
    have hq := fun w => Lib.run_eql_slice_nil (P := Try.prog) w 43 5 (some ad) n cap 0 0 Try.underlying43
    have H1 : Hid ((w.alloc (.cells #[] 5)).ownsRow B 5 1 (.slice (some ⟨w.heap.size, 0, none⟩) 0 0) 0 []) := ownsRow_empty (heap_alloc_new w _) (Nat.le_of_eq hB.symm)
    have H2 : Hid (Below B w (w.alloc (.cells #[] 5))) := (Below.refl B w).alloc (Nat.le_of_eq hB.symm) _
    have H3 : Hid (B ≤ (w.alloc (.cells #[] 5)).heap.size) := by show B ≤ _; rw [← hB]; simp
    clear hB
    go_enter Try.func37, Try.ntmps37
    go_wp2_with (first | (at_builtin; refine wpList_appG rfl _ _ B 43 5 (.int .u8 0) 1 1 rfl Try.underlying43 infoB rfl (by decide) _ 0 [] rfl H1.out _ n news rfl (HS.out _ H2.out) hL.out hone.out (by omega) (by unfold maxLen; omega) H3.out ?_; intro v' w' ho hg hat) | fail)
    go_ret
    refine ⟨⟨_, rfl, news, ?_, HU.out⟩, ?_⟩
    · simpa using ho
    · exact H2.out.grown hg H3.out (fun k hk => by
        have : w.heap.size = k := Option.some.inj hk
        have := hB0.out
        omega)

/-- the time of the version of block k that is read at t; 0: there is none -/
def nvT (V : Int → List Int) (k t : Int) : Int := if inB k = true then (if atN (V k) t (V k).length = 0 then 0 else (V k).getD (atN (V k) t (V k).length - 1) 0) else 0
theorem Dat.slb {w : World} {B : Nat} {v : Value} (h : Dat w B v) : SlB w v 40 := by
  obtain ⟨g, cap, rfl, h1, h2⟩ := h.form
  obtain ⟨xs, h3, _⟩ := h
  obtain ⟨_, ⟨h4, _⟩ | ⟨g', cap', cur, h4, _, h5, h6, h7, _⟩⟩ := h3
  · cases h4
  · simp only [Value.slice.injEq] at h4
    obtain ⟨_, _, rfl⟩ := h4
    refine ⟨_, cap, rfl, (fun h => by cases h), h6, by simpa [maxLen] using h7, fun i hi => ⟨g, 0, rfl, h1, fun j hj => ?_⟩⟩
    obtain ⟨k, hk⟩ := h2 i hi
    have hj0 : j = 0 := by omega
    subst hj0
    exact ⟨_, by simpa using hk, k, rfl⟩

theorem make40 (w : World) : (Instr.makeSlice 43 (.int .i64 40) (.int .i64 40)).run Try.prog w = .ok (.slice (some ⟨w.heap.size, 0, none⟩) 40 40) (w.alloc (.cells (madeCells #[.int .u8 0] 40) 5)) :=
  run_make_row' 43 5 (.int .u8 0) 1 Try.underlying43 infoB rfl .i64 .i64 40 (by decide) (by decide) w

set_option maxHeartbeats 1600000 in
set_option maxRecDepth 8000 in
theorem get_any {B p : Nat} {V : Int → List Int} {last : Int} {n : Nat} (k t : Int) (w : World) (h : Mp w B p V last n) :
    Calls Try.prog 15 #[.pointer (some ⟨p, 0, none⟩), .int .i64 k, .int .i64 t] w fun e w' => (∃ v, e = .returned (.tuple #[v, .int .i64 (nvT V k t)])) ∧ Below w.heap.size w w' := by
  obtain ⟨_, c0, ⟨b, c1, hm⟩, _⟩ := h.cells
  have HM := Lib.hid h
  have HA := Lib.hid hm
  rename_i q1 q2
  clear hm h q1 q2
  by_cases hk : inB k = true
  · have hk' : 0 ≤ k ∧ k < 30 := by unfold inB at hk; simpa using hk
    have CA := Lib.hid (at_any k t hk w HM.out)
    obtain ⟨v, hrun, hrow, _⟩ := HA.out.look hk'
    have hlq := atN_le (V k) t (V k).length
    have hnv : Hid (nvT V k t = if atN (V k) t (V k).length = 0 then 0 else (V k).getD (atN (V k) t (V k).length - 1) 0) := if_pos hk
    generalize nvT V k t = nv at *
    generalize hq : atN (V k) t (V k).length = q at *
    cases q with
    | zero =>
      clear hrun hrow HM HA hq
      have hnv0 : Hid (nv = 0) := hnv.out
      have hmk := make40
      generalize madeCells #[.int .u8 0] 40 = mc at hmk
      clear hnv
      go_enter Try.func15, Try.ntmps15
      go_wp2_with (first | (go_at_call 35; refine (block_any p k _ c0).mono ?_; rintro e w' ⟨rfl, rfl⟩) | (go_at_call 36; refine CA.out.mono ?_; rintro e w' ⟨rfl, rfl⟩) | fail)
      go_ret2
      exact ⟨⟨_, by rw [hnv0.out]; rfl⟩, (Below.refl _ _).alloc (Nat.le_refl _) _⟩
    | succ q =>
      have hqz : (((q + 1 : Nat) : Int) - 1) = (q : Int) := by omega
      obtain ⟨a, cap, rfl, hlen, hrd⟩ := hrow.form
      obtain ⟨g, d, rfl, hg, hd0, hd1, hdat⟩ := hrd q (by omega)
      have HB := Lib.hid hdat.slb
      obtain ⟨gd, capd, rfl, hgd, _⟩ := hdat.form
      have hnv0 : Hid (nv = (V k).getD q 0) := by have h5 := hnv.out; show nv = _; simpa using h5
      have HR := Lib.hid hrun
      have hlt : (q : Int) < ((V k).length : Int) := by omega
      have hn0 : decide ((q : Int) < 0) = false := decide_eq_false (by omega)
      rw [hqz] at CA
      clear hrun hrow HM HA hq hnv hrd hdat hqz hlq
      generalize (V k).getD q 0 = x at *
      generalize (V k).length = m at *
      go_enter Try.func15, Try.ntmps15
      go_wp2_with (first | (go_at_call 35; refine (block_any p k _ c0).mono ?_; rintro e w' ⟨rfl, rfl⟩) | (go_at_call 36; refine CA.out.mono ?_; rintro e w' ⟨rfl, rfl⟩) | (at_lookup; refine wpList_look rfl _ _ _ rfl _ _ _ rfl rfl HR.out ?_) | fail)
      have k0 : (w'.alloc (.cells #[.int .i64 x, .slice (some ⟨gd, 0, none⟩) 40 capd] 85)).cell? ⟨w'.heap.size, 0, none⟩ = some (.int .i64 x) := World.cell?_alloc_at _ _ _ 0 rfl
      have k1 : (w'.alloc (.cells #[.int .i64 x, .slice (some ⟨gd, 0, none⟩) 40 capd] 85)).cell? ⟨w'.heap.size, 1, none⟩ = some (.slice (some ⟨gd, 0, none⟩) 40 capd) := World.cell?_alloc_at _ _ _ 1 rfl
      have hbW : Hid (Below w'.heap.size w' (w'.alloc (.cells #[.int .i64 x, .slice (some ⟨gd, 0, none⟩) 40 capd] 85))) := (Below.refl _ _).alloc (Nat.le_refl _) _
      have HBW := Lib.hid (HB.out.below hbW.out)
      have hlW : Hid (w'.heap.size < (w'.alloc (.cells #[.int .i64 x, .slice (some ⟨gd, 0, none⟩) 40 capd] 85)).heap.size) := by show _ < _; simp
      generalize w'.alloc (.cells #[.int .i64 x, .slice (some ⟨gd, 0, none⟩) 40 capd] 85) = W0 at *
      generalize hA : w'.heap.size = A at *
      clear CA HR HB c0 c1 hd0 hd1 hg hgd
      go_region_with ((go_at_call 37; refine (clone_any _ 40 (by decide) _ (by exact HBW.out)).mono ?_; rintro e w2 ⟨⟨v2, rfl, _⟩, hb2⟩; have k2 : w2.cell? ⟨A, 0, none⟩ = some (.int .i64 x) := (hb2.cell (p := ⟨A, 0, none⟩) hlW.out).trans k0; have hbw : Hid (Below A w' w2) := (by first | exact hbW.out.drew.trans (hb2.mono (Nat.le_of_lt hlW.out)) | exact hbW.out.trans (hb2.mono (Nat.le_of_lt hlW.out))); clear hb2))
      all_goals
        go_wp2
        go_ret2
        exact ⟨⟨v2, by rw [hnv0.out]; rfl⟩, by rw [hA]; exact hbw.out⟩
  · have hk0 : inB k = false := by simpa using hk
    have hnv : Hid (nvT V k t = 0) := by show nvT V k t = 0; unfold nvT; rw [if_neg hk]
    have hb0 : Hid (Below w.heap.size w w) := Below.refl _ w
    clear HM HA hk
    generalize nvT V k t = nv at *
    go_enter Try.func15, Try.ntmps15
    go_wp2_with (go_at_call 35; refine (block_any p k _ c0).mono ?_; rintro e w' ⟨rfl, rfl⟩)
    go_ret2
    exact ⟨⟨_, by rw [hnv.out]; rfl⟩, hb0.out⟩

/-- is a copy read by anybody, from a time on? -/
def liveV (V : Int → List Int) (c : Cp) (h : Int) : Bool := decide (1 ≤ c.2) && decide (nvT V c.1 (max c.2 h) = c.2)

set_option maxHeartbeats 1600000 in
set_option maxRecDepth 8000 in
theorem live_any {B p : Nat} {V : Int → List Int} {last : Int} {n : Nat} (c : Cp) (hz : Int) (w : World) (h : Mp w B p V last n) :
    Calls Try.prog 12 #[.pointer (some ⟨p, 0, none⟩), .agg #[.int .i64 c.1, .int .i64 c.2], .int .i64 hz] w fun e w' => e = .returned (.bool (liveV V c hz)) ∧ Below w.heap.size w w' := by
  obtain ⟨l, t⟩ := c
  have HM := Lib.hid h
  clear h
  have hbl : Hid (Below w.heap.size w (w.alloc (.cells #[.int .i64 l, .int .i64 t] 33))) := (Below.refl _ _).alloc (Nat.le_refl _) _
  have HM1 := Lib.hid (HM.out.below hbl.out)
  have h0 : (w.alloc (.cells #[.int .i64 l, .int .i64 t] 33)).cell? ⟨w.heap.size, 0, none⟩ = some (.int .i64 l) := World.cell?_alloc_at _ _ _ 0 rfl
  have h1 : (w.alloc (.cells #[.int .i64 l, .int .i64 t] 33)).cell? ⟨w.heap.size, 1, none⟩ = some (.int .i64 t) := World.cell?_alloc_at _ _ _ 1 rfl
  have hs : Hid (w.heap.size < (w.alloc (.cells #[.int .i64 l, .int .i64 t] 33)).heap.size) := by show _ < _; simp
  have hlv : Hid (liveV V (l, t) hz = (decide (1 ≤ t) && decide (nvT V l (max t hz) = t))) := rfl
  generalize liveV V (l, t) hz = lv at *
  by_cases ht : t < 1
  · have hlv0 : Hid (lv = false) := by have h5 := hlv.out; show lv = _; rw [h5, decide_eq_false (by omega)]; rfl
    clear HM HM1 hlv
    go_enter Try.func12, Try.ntmps12
    go_wp2
    go_ret
    exact ⟨by rw [hlv0.out]; rfl, hbl.out⟩
  · have ht0 : decide (t < 1) = false := decide_eq_false ht
    have hlv1 : Hid (lv = decide (nvT V l (max t hz) = t)) := by have h5 := hlv.out; show lv = _; rw [h5, decide_eq_true (by omega : 1 ≤ t)]; rfl
    clear hlv
    obtain ⟨mx, hmx⟩ : ∃ mx, mx = max t hz := ⟨_, rfl⟩
    rw [← hmx] at hlv1
    have CG := Lib.hid (get_any l mx _ HM1.out)
    generalize nvT V l mx = nv at *
    clear HM HM1
    by_cases hc : hz ≤ t
    · obtain rfl : mx = t := by rw [hmx]; omega
      clear hmx
      go_enter Try.func12, Try.ntmps12
      go_wp2_with (go_at_call 15; refine CG.out.mono ?_; rintro e w2 ⟨⟨v, rfl⟩, hb2⟩; have k2 : w2.cell? ⟨w.heap.size, 1, none⟩ = some (.int .i64 mx) := (hb2.cell (p := ⟨w.heap.size, 1, none⟩) hs.out).trans h1; have hb3 : Hid (Below w.heap.size w w2) := hbl.out.trans (hb2.mono (Nat.le_of_lt hs.out)); clear hb2)
      trace_state
      go_ret
      exact ⟨by rw [hlv1.out]; rfl, hb3.out⟩
    · obtain rfl : mx = hz := by rw [hmx]; omega
      clear hmx
      go_enter Try.func12, Try.ntmps12
      go_wp2_with (go_at_call 15; refine CG.out.mono ?_; rintro e w2 ⟨⟨v, rfl⟩, hb2⟩; have k2 : w2.cell? ⟨w.heap.size, 1, none⟩ = some (.int .i64 t) := (hb2.cell (p := ⟨w.heap.size, 1, none⟩) hs.out).trans h1; have hb3 : Hid (Below w.heap.size w w2) := hbl.out.trans (hb2.mono (Nat.le_of_lt hs.out)); clear hb2)
      go_ret
      exact ⟨by rw [hlv1.out]; rfl, hb3.out⟩
end Go.Proofs.Ytkpnjehgbehhcaa
