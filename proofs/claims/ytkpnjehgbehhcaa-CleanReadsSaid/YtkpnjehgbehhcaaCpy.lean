/- How a walk knows copies, rows of copies, puts and transactions in memory; how they are read off the form. -/
import Derived.Test.YtkpnjehgbehhcaaFrame
import Derived.Deep.Fields
namespace Go.Proofs.Ytkpnjehgbehhcaa
open Go.ChangeShapes Go.WideShapes Go.ChangeAt Go.RowKit

abbrev Cp : Type := Int × Int
abbrev Pt : Type := Int × Nat
abbrev Tx : Type := Int × List Pt

/-- A slice of n elements of k cells each, cell j of element i being what p says of it. -/
def SlG (w : World) (k : Nat) (v : Value) (n : Nat) (p : Nat → Nat → Value → Prop) : Prop :=
  ∃ a cap, v = .slice a n cap ∧ (a = none → cap = 0) ∧ n ≤ cap ∧ cap ≤ 9223372036854775807 ∧
    ∀ i, i < n → ∃ b o, a = some ⟨b, o, none⟩ ∧ b < w.heap.size ∧ ∀ j, j < k → ∃ u, w.cell? ⟨b, o + i * k + j, none⟩ = some u ∧ p i j u
theorem SlG.nil (w : World) (k : Nat) (p : Nat → Nat → Value → Prop) : SlG w k (.slice none 0 0) 0 p :=
  ⟨none, 0, rfl, fun _ => rfl, Nat.le_refl _, by decide, fun i hi => absurd hi (Nat.not_lt_zero _)⟩
theorem SlG.below {w w' : World} {k : Nat} {v : Value} {n : Nat} {p q : Nat → Nat → Value → Prop} (h : SlG w k v n p) (hb : Below w.heap.size w w') (hpq : ∀ i j u, i < n → j < k → p i j u → q i j u) : SlG w' k v n q := by
  obtain ⟨a, cap, rfl, h0, h1, h2, h⟩ := h
  refine ⟨a, cap, rfl, h0, h1, h2, fun i hi => ?_⟩
  obtain ⟨b, o, rfl, hlt, hc⟩ := h i hi
  refine ⟨b, o, rfl, Nat.lt_of_lt_of_le hlt hb.size, fun j hj => ?_⟩
  obtain ⟨u, h3, h4⟩ := hc j hj
  exact ⟨u, by rw [hb.cell (p := ⟨b, o + i * k + j, none⟩) hlt]; exact h3, hpq i j u hi hj h4⟩
theorem SlG.imp {w : World} {k : Nat} {v : Value} {n : Nat} {p q : Nat → Nat → Value → Prop} (h : SlG w k v n p) (hpq : ∀ i j u, i < n → j < k → p i j u → q i j u) : SlG w k v n q := by
  obtain ⟨a, cap, rfl, h0, h1, h2, h⟩ := h
  refine ⟨a, cap, rfl, h0, h1, h2, fun i hi => ?_⟩
  obtain ⟨b, o, rfl, hlt, hc⟩ := h i hi
  refine ⟨b, o, rfl, hlt, fun j hj => ?_⟩
  obtain ⟨u, h3, h4⟩ := hc j hj
  exact ⟨u, h3, hpq i j u hi hj h4⟩

/-- copies -/
def cpP (l : List Cp) (i j : Nat) (u : Value) : Prop := (j = 0 ∧ u = .int .i64 (l.getD i (0, 0)).1) ∨ (j = 1 ∧ u = .int .i64 (l.getD i (0, 0)).2)
def SlC (w : World) (v : Value) (l : List Cp) : Prop := SlG w 2 v l.length (cpP l)
theorem SlC.below {w w' : World} {v : Value} {l : List Cp} (h : SlC w v l) (hb : Below w.heap.size w w') : SlC w' v l := SlG.below h hb fun _ _ _ _ _ h => h
/-- rows of copies -/
def SlR (w : World) (v : Value) (L : List (List Cp)) : Prop := SlG w 1 v L.length fun i _ u => SlC w u (L.getD i [])
theorem SlR.below {w w' : World} {v : Value} {L : List (List Cp)} (h : SlR w v L) (hb : Below w.heap.size w w') : SlR w' v L := SlG.below h hb fun _ _ _ _ _ h => h.below hb
/-- bytes -/
def SlB (w : World) (v : Value) (n : Nat) : Prop := SlG w 1 v n fun _ _ u => ∃ x, u = .int .u8 x
theorem SlB.below {w w' : World} {v : Value} {n : Nat} (h : SlB w v n) (hb : Below w.heap.size w w') : SlB w' v n := SlG.below h hb fun _ _ _ _ _ h => h
/-- puts -/
def ptP (w : World) (l : List Pt) (i j : Nat) (u : Value) : Prop := (j = 0 ∧ u = .int .i64 (l.getD i (0, 0)).1) ∨ (j = 1 ∧ SlB w u (l.getD i (0, 0)).2)
def SlP (w : World) (v : Value) (l : List Pt) : Prop := SlG w 2 v l.length (ptP w l)
theorem SlP.below {w w' : World} {v : Value} {l : List Pt} (h : SlP w v l) (hb : Below w.heap.size w w') : SlP w' v l := SlG.below h hb fun _ _ _ _ _ h => by
  rcases h with h | ⟨h1, h2⟩
  · exact .inl h
  · exact .inr ⟨h1, h2.below hb⟩
/-- transactions -/
def txP (w : World) (l : List Tx) (i j : Nat) (u : Value) : Prop := (j = 0 ∧ u = .int .i64 (l.getD i (0, [])).1) ∨ (j = 1 ∧ SlP w u (l.getD i (0, [])).2)
def SlT (w : World) (v : Value) (l : List Tx) : Prop := SlG w 2 v l.length (txP w l)
theorem SlT.below {w w' : World} {v : Value} {l : List Tx} (h : SlT w v l) (hb : Below w.heap.size w w') : SlT w' v l := SlG.below h hb fun _ _ _ _ _ h => by
  rcases h with h | ⟨h1, h2⟩
  · exact .inl h
  · exact .inr ⟨h1, h2.below hb⟩

/-! ### off the form -/
section
variable {H : Type} {enc : TypeId × Value → H} {P : Program}
/-- a slice, opened: every element's cells, and how they read -/
theorem open_rows {W : World} {t e : TypeId} {k : Nat} {cs : List Value} {fuel : Nat} {x : DataW H × List MemPlace} (ht : P.underlying t = some (.slice e)) (hk : P.cellsOf e = k) (hk0 : 0 < k)
    (h : DataW.trod enc P W 0 (fun _ => true) true fuel t cs = some x) (hlt : ∀ y ∈ x.2, y.block < W.heap.size) :
    ∃ v n m, cs = [v] ∧ ∃ a cap, v = .slice a n cap ∧ (a = none → cap = 0) ∧ n ≤ cap ∧ cap ≤ 9223372036854775807 ∧
    ∀ i, i < n → ∃ b o, a = some ⟨b, o, none⟩ ∧ b < W.heap.size ∧ ∃ (us : List Value) (y : DataW H × List MemPlace), us.length = k ∧ (∀ j, j < k → W.cell? ⟨b, o + i * k + j, none⟩ = us[j]?) ∧
      DataW.trod enc P W 0 (fun _ => true) true m e us = some y ∧ ∀ z ∈ y.2, z.block < W.heap.size := by
  rcases Deep.open_slice ht h with ⟨rfl, rfl⟩ | ⟨a, len, cap, m, n, D, Pl, rfl, _, hl, hm, hmm, rfl, hV⟩
  · exact ⟨_, 0, 0, rfl, none, 0, rfl, fun _ => rfl, Nat.le_refl _, by decide, fun i hi => absurd hi (Nat.not_lt_zero _)⟩
  · simp only [if_true] at hmm
    subst hmm
    rw [hk] at hV hlt
    refine ⟨_, len, n, rfl, some a, m, rfl, (fun h => by cases h), hl, by simpa [maxLen] using hm, fun i hi => ?_⟩
    have ha : ∃ b o, a = ⟨b, o, none⟩ := by
      obtain ⟨us, h1, _⟩ := hV 0 (by omega)
      obtain ⟨_, h2, h3⟩ := World.cells?_some h1
      have h4 := h3 0 hk0
      rw [List.getElem?_eq_getElem (by omega)] at h4
      have e : (a.add (0 * k)).add 0 = a := by rw [Nat.zero_mul]; unfold Addr.add; simp
      rw [e] at h4
      exact addr_some h4
    obtain ⟨b, o, rfl⟩ := ha
    have hb : b < W.heap.size := hlt (.cell b o) (by
      simp only [List.mem_append]
      left
      simp only [MemPlace.row, List.mem_map, List.mem_range]
      exact ⟨0, by have : 1 * 1 ≤ m * k := Nat.mul_le_mul (by omega) (by omega); omega, by simp⟩)
    obtain ⟨us, h1, h2⟩ := hV i (by omega)
    obtain ⟨_, h3, h4⟩ := World.cells?_some h1
    refine ⟨b, o, rfl, hb, us, _, h3, fun j hj => ?_, h2, fun z hz => hlt z ?_⟩
    · have := h4 j hj
      rw [Deep.add_add, addr_add, ← Nat.add_assoc] at this
      exact this
    · simp only [List.mem_append, List.mem_flatMap, List.mem_range]
      right
      exact ⟨i, by omega, hz⟩

/-- a struct of two cells, opened -/
theorem open_two {W : World} {e : TypeId} {f0 f1 : Field} {us : List Value} {fuel : Nat} {x : DataW H × List MemPlace} (he : P.underlying e = some (.struct #[f0, f1])) (hone : Deep.oneCellFields P #[f0, f1] = true) (hc : P.cellsOf e = 2)
    (h : DataW.trod enc P W 0 (fun _ => true) true fuel e us = some x) :
    ∃ c0 c1 m y0 y1, us = [c0, c1] ∧ DataW.trod enc P W 0 (fun _ => true) true m f0.type [c0] = some y0 ∧ DataW.trod enc P W 0 (fun _ => true) true m f1.type [c1] = some y1 ∧ (∀ z ∈ y0.2, z ∈ x.2) ∧ ∀ z ∈ y1.2, z ∈ x.2 := by
  obtain ⟨xs, n', _, rfl, hl, hxl, hg⟩ := DataW.trod_struct he h
  rw [hc] at hl
  match us, hl with
  | [c0, c1], _ =>
    obtain ⟨o0, k0⟩ := Deep.hone_of hone 0 f0 rfl
    obtain ⟨o1, k1⟩ := Deep.hone_of hone 1 f1 rfl
    match xs, hxl with
    | [y0, y1], _ =>
      have g0 := hg 0 f0 rfl
      have g1 := hg 1 f1 rfl
      rw [o0, k0] at g0
      rw [o1, k1] at g1
      exact ⟨c0, c1, n', y0, y1, rfl, g0, g1, fun z hz => by simp [hz], fun z hz => by simp [hz]⟩

/-- from every element to one list -/
theorem list_of {α : Type} [Inhabited α] (n : Nat) (d : α) {p : Nat → α → Prop} (h : ∀ i, i < n → ∃ x, p i x) : ∃ l : List α, l.length = n ∧ ∀ i, i < n → p i (l.getD i d) := by
  obtain ⟨f, hf⟩ := Deep.choose_lt h
  refine ⟨(List.range n).map f, by simp, fun i hi => ?_⟩
  rw [List.getD_eq_getElem?_getD, List.getElem?_map, List.getElem?_range hi]
  exact hf i hi

theorem open_copies {W : World} {t e : TypeId} {f0 f1 : Field} {cs : List Value} {fuel : Nat} {x : DataW H × List MemPlace} (ht : P.underlying t = some (.slice e)) (he : P.underlying e = some (.struct #[f0, f1]))
    (h0 : P.underlying f0.type = some (.int .i64)) (h1 : P.underlying f1.type = some (.int .i64)) (hone : Deep.oneCellFields P #[f0, f1] = true) (hc : P.cellsOf e = 2)
    (h : DataW.trod enc P W 0 (fun _ => true) true fuel t cs = some x) (hlt : ∀ y ∈ x.2, y.block < W.heap.size) : ∃ v l, cs = [v] ∧ SlC W v l := by
  obtain ⟨v, n, m, rfl, a, cap, rfl, ha, hn, hcap, hel⟩ := open_rows ht hc (by decide) h hlt
  obtain ⟨l, rfl, hl⟩ := list_of n ((0, 0) : Cp) (p := fun i (z : Cp) => ∃ b o, a = some ⟨b, o, none⟩ ∧ b < W.heap.size ∧ W.cell? ⟨b, o + i * 2 + 0, none⟩ = some (.int .i64 z.1) ∧ W.cell? ⟨b, o + i * 2 + 1, none⟩ = some (.int .i64 z.2)) (fun i hi => by
    obtain ⟨b, o, ha, hb, us, y, _, hus, htr, _⟩ := hel i hi
    obtain ⟨c0, c1, m', y0, y1, rfl, g0, g1, _, _⟩ := open_two he hone hc htr
    obtain ⟨v0, e0, _, _⟩ := DataW.trod_int h0 (x := y0) g0
    obtain ⟨v1, e1, _, _⟩ := DataW.trod_int h1 (x := y1) g1
    obtain rfl : c0 = .int .i64 v0 := by simpa using e0
    obtain rfl : c1 = .int .i64 v1 := by simpa using e1
    exact ⟨(v0, v1), b, o, ha, hb, hus 0 (by decide), hus 1 (by decide)⟩)
  refine ⟨_, l, rfl, a, cap, rfl, ha, hn, hcap, fun i hi => ?_⟩
  obtain ⟨b, o, hab, hb, c0, c1⟩ := hl i hi
  refine ⟨b, o, hab, hb, fun j hj => ?_⟩
  match j, hj with
  | 0, _ => exact ⟨_, c0, .inl ⟨rfl, rfl⟩⟩
  | 1, _ => exact ⟨_, c1, .inr ⟨rfl, rfl⟩⟩

theorem open_bytes {W : World} {t e : TypeId} {cs : List Value} {fuel : Nat} {x : DataW H × List MemPlace} (ht : P.underlying t = some (.slice e)) (he : P.underlying e = some (.int .u8)) (hc : P.cellsOf e = 1)
    (h : DataW.trod enc P W 0 (fun _ => true) true fuel t cs = some x) (hlt : ∀ y ∈ x.2, y.block < W.heap.size) : ∃ v n, cs = [v] ∧ SlB W v n := by
  obtain ⟨v, n, m, rfl, a, cap, rfl, ha, hn, hcap, hel⟩ := open_rows ht hc (by decide) h hlt
  refine ⟨_, n, rfl, a, cap, rfl, ha, hn, hcap, fun i hi => ?_⟩
  obtain ⟨b, o, ha, hb, us, y, hul, hus, htr, _⟩ := hel i hi
  refine ⟨b, o, ha, hb, fun j hj => ?_⟩
  obtain ⟨u, rfl⟩ : ∃ u, us = [u] := by match us, hul with | [u], _ => exact ⟨u, rfl⟩
  obtain ⟨v0, e0, _, _⟩ := DataW.trod_int he htr
  obtain rfl : u = .int .u8 v0 := by simpa using e0
  match j, hj with
  | 0, _ => exact ⟨_, hus 0 (by decide), _, rfl⟩

theorem open_puts {W : World} {t e tb eb : TypeId} {f0 f1 : Field} {cs : List Value} {fuel : Nat} {x : DataW H × List MemPlace} (ht : P.underlying t = some (.slice e)) (he : P.underlying e = some (.struct #[f0, f1]))
    (h0 : P.underlying f0.type = some (.int .i64)) (h1 : f1.type = tb) (htb : P.underlying tb = some (.slice eb)) (heb : P.underlying eb = some (.int .u8)) (hcb : P.cellsOf eb = 1) (hone : Deep.oneCellFields P #[f0, f1] = true) (hc : P.cellsOf e = 2)
    (h : DataW.trod enc P W 0 (fun _ => true) true fuel t cs = some x) (hlt : ∀ y ∈ x.2, y.block < W.heap.size) : ∃ v l, cs = [v] ∧ SlP W v l := by
  obtain ⟨v, n, m, rfl, a, cap, rfl, ha, hn, hcap, hel⟩ := open_rows ht hc (by decide) h hlt
  obtain ⟨l, rfl, hl⟩ := list_of n ((0, 0) : Pt) (p := fun i (z : Pt) => ∃ b o u, a = some ⟨b, o, none⟩ ∧ b < W.heap.size ∧ W.cell? ⟨b, o + i * 2 + 0, none⟩ = some (.int .i64 z.1) ∧ W.cell? ⟨b, o + i * 2 + 1, none⟩ = some u ∧ SlB W u z.2) (fun i hi => by
    obtain ⟨b, o, ha, hb, us, y, _, hus, htr, hy⟩ := hel i hi
    obtain ⟨c0, c1, m', y0, y1, rfl, g0, g1, _, hy1⟩ := open_two he hone hc htr
    obtain ⟨v0, e0, _, _⟩ := DataW.trod_int h0 (x := y0) g0
    obtain rfl : c0 = .int .i64 v0 := by simpa using e0
    rw [h1] at g1
    obtain ⟨u, k, hu, hB⟩ := open_bytes htb heb hcb g1 (fun z hz => hy z (hy1 z hz))
    obtain rfl : c1 = u := by simpa using hu
    exact ⟨(v0, k), b, o, c1, ha, hb, hus 0 (by decide), hus 1 (by decide), hB⟩)
  refine ⟨_, l, rfl, a, cap, rfl, ha, hn, hcap, fun i hi => ?_⟩
  obtain ⟨b, o, u, hab, hb, c0, c1, hB⟩ := hl i hi
  refine ⟨b, o, hab, hb, fun j hj => ?_⟩
  match j, hj with
  | 0, _ => exact ⟨_, c0, .inl ⟨rfl, rfl⟩⟩
  | 1, _ => exact ⟨_, c1, .inr ⟨rfl, hB⟩⟩

theorem open_txs {W : World} {t e tp ep tb eb : TypeId} {f0 f1 g0 g1 : Field} {cs : List Value} {fuel : Nat} {x : DataW H × List MemPlace} (ht : P.underlying t = some (.slice e)) (he : P.underlying e = some (.struct #[f0, f1]))
    (h0 : P.underlying f0.type = some (.int .i64)) (h1 : f1.type = tp) (hone : Deep.oneCellFields P #[f0, f1] = true) (hc : P.cellsOf e = 2)
    (htp : P.underlying tp = some (.slice ep)) (hep : P.underlying ep = some (.struct #[g0, g1])) (k0 : P.underlying g0.type = some (.int .i64)) (k1 : g1.type = tb) (honep : Deep.oneCellFields P #[g0, g1] = true) (hcp : P.cellsOf ep = 2)
    (htb : P.underlying tb = some (.slice eb)) (heb : P.underlying eb = some (.int .u8)) (hcb : P.cellsOf eb = 1)
    (h : DataW.trod enc P W 0 (fun _ => true) true fuel t cs = some x) (hlt : ∀ y ∈ x.2, y.block < W.heap.size) : ∃ v l, cs = [v] ∧ SlT W v l := by
  obtain ⟨v, n, m, rfl, a, cap, rfl, ha, hn, hcap, hel⟩ := open_rows ht hc (by decide) h hlt
  obtain ⟨l, rfl, hl⟩ := list_of n ((0, []) : Tx) (p := fun i (z : Tx) => ∃ b o u, a = some ⟨b, o, none⟩ ∧ b < W.heap.size ∧ W.cell? ⟨b, o + i * 2 + 0, none⟩ = some (.int .i64 z.1) ∧ W.cell? ⟨b, o + i * 2 + 1, none⟩ = some u ∧ SlP W u z.2) (fun i hi => by
    obtain ⟨b, o, ha, hb, us, y, _, hus, htr, hy⟩ := hel i hi
    obtain ⟨c0, c1, m', y0, y1, rfl, q0, q1, _, hy1⟩ := open_two he hone hc htr
    obtain ⟨v0, e0, _, _⟩ := DataW.trod_int h0 (x := y0) q0
    obtain rfl : c0 = .int .i64 v0 := by simpa using e0
    rw [h1] at q1
    obtain ⟨u, k, hu, hB⟩ := open_puts htp hep k0 k1 htb heb hcb honep hcp q1 (fun z hz => hy z (hy1 z hz))
    obtain rfl : c1 = u := by simpa using hu
    exact ⟨(v0, k), b, o, c1, ha, hb, hus 0 (by decide), hus 1 (by decide), hB⟩)
  refine ⟨_, l, rfl, a, cap, rfl, ha, hn, hcap, fun i hi => ?_⟩
  obtain ⟨b, o, u, hab, hb, c0, c1, hB⟩ := hl i hi
  refine ⟨b, o, hab, hb, fun j hj => ?_⟩
  match j, hj with
  | 0, _ => exact ⟨_, c0, .inl ⟨rfl, rfl⟩⟩
  | 1, _ => exact ⟨_, c1, .inr ⟨rfl, hB⟩⟩

theorem open_grid {W : World} {t tr e : TypeId} {f0 f1 : Field} {cs : List Value} {fuel : Nat} {x : DataW H × List MemPlace} (ht : P.underlying t = some (.slice tr)) (hcr : P.cellsOf tr = 1) (htr : P.underlying tr = some (.slice e)) (he : P.underlying e = some (.struct #[f0, f1]))
    (h0 : P.underlying f0.type = some (.int .i64)) (h1 : P.underlying f1.type = some (.int .i64)) (hone : Deep.oneCellFields P #[f0, f1] = true) (hc : P.cellsOf e = 2)
    (h : DataW.trod enc P W 0 (fun _ => true) true fuel t cs = some x) (hlt : ∀ y ∈ x.2, y.block < W.heap.size) : ∃ v L, cs = [v] ∧ SlR W v L := by
  obtain ⟨v, n, m, rfl, a, cap, rfl, ha, hn, hcap, hel⟩ := open_rows ht hcr (by decide) h hlt
  obtain ⟨L, rfl, hl⟩ := list_of n ([] : List Cp) (p := fun i (z : List Cp) => ∃ b o u, a = some ⟨b, o, none⟩ ∧ b < W.heap.size ∧ W.cell? ⟨b, o + i * 1 + 0, none⟩ = some u ∧ SlC W u z) (fun i hi => by
    obtain ⟨b, o, ha, hb, us, y, hul, hus, hr, hy⟩ := hel i hi
    obtain ⟨u, l, rfl, hS⟩ := open_copies htr he h0 h1 hone hc hr hy
    exact ⟨l, b, o, u, ha, hb, hus 0 (by decide), hS⟩)
  refine ⟨_, L, rfl, a, cap, rfl, ha, hn, hcap, fun i hi => ?_⟩
  obtain ⟨b, o, u, hab, hb, c0, hS⟩ := hl i hi
  refine ⟨b, o, hab, hb, fun j hj => ?_⟩
  match j, hj with
  | 0, _ => exact ⟨_, c0, hS⟩
end
end Go.Proofs.Ytkpnjehgbehhcaa
