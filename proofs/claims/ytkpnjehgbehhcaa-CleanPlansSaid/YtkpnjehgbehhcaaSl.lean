/- How a walk knows a slice: its value, and the cells that it leads to. -/
import Derived.WalkKit
import Derived.WalkLawsBesides
import Derived.WalkSpells
import Derived.Deep.Draws
namespace Go.Proofs.Ytkpnjehgbehhcaa
open Go.RowKit

/-- A slice value whose elements are one cell each: 'enc x' for the x of l. -/
def Sl {α : Type} (enc : α → Value) (w : World) (v : Value) (l : List α) : Prop :=
  ∃ a cap, v = .slice a l.length cap ∧ (a = none → cap = 0) ∧ l.length ≤ 140737488355328 ∧
    (l = [] ∨ ∃ b o, a = some ⟨b, o, none⟩ ∧ b < w.heap.size ∧ ∀ i (h : i < l.length), w.cell? ⟨b, o + i, none⟩ = some (enc l[i]))

abbrev encF : Nat → Value := Value.float .f64
abbrev encI : Int → Value := Value.int .i64

/-- it stays so where nothing below has turned -/
theorem Sl.below {α : Type} {enc : α → Value} {w w' : World} {v : Value} {l : List α} (h : Sl enc w v l) {B : Nat} (hB : w.heap.size ≤ B) (hb : Below B w w') : Sl enc w' v l := by
  obtain ⟨a, cap, rfl, h0, hl, h⟩ := h
  refine ⟨a, cap, rfl, h0, hl, ?_⟩
  rcases h with h | ⟨b, o, rfl, h1, h2⟩
  · exact .inl h
  · refine .inr ⟨b, o, rfl, Nat.lt_of_lt_of_le h1 hb.size, fun i hi => ?_⟩
    rw [hb.cell (p := ⟨b, o + i, none⟩) (Nat.lt_of_lt_of_le h1 hB)]
    exact h2 i hi


theorem Sl.nil {α : Type} (enc : α → Value) (w : World) : Sl enc w (.slice none 0 0) ([] : List α) := ⟨none, 0, rfl, fun _ => rfl, by simp, .inl rfl⟩

theorem Sl.drewN {α : Type} {enc : α → Value} {w : World} {v : Value} {l : List α} (h : Sl enc w v l) (n : Nat) : Sl enc (w.drewN n) v l := h

/-- cut off ahead: 's[r:]' (where nothing of the array is left the model keeps the address) -/
theorem Sl.drop {α : Type} {enc : α → Value} {w : World} {ad : Addr} {n cap r : Nat} {l : List α} (h : Sl enc w (.slice (some ad) n cap) l) (hr : r ≤ n) (A : Addr) (hA : (if cap = r then ad else ad.add r) = A) (hc : n ≤ cap) :
    Sl enc w (.slice (some A) (n - r) (cap - r)) (l.drop r) := by
  obtain ⟨a, cap', hv, h0, hl, h⟩ := h
  simp only [Value.slice.injEq] at hv
  obtain ⟨rfl, rfl, rfl⟩ := hv
  refine ⟨some A, cap - r, by rw [List.length_drop], (fun h => by cases h), by rw [List.length_drop]; omega, ?_⟩
  by_cases hd : l.drop r = []
  · exact .inl hd
  · have hlt : r < l.length := by
      rcases Nat.lt_or_ge r l.length with h' | h'
      · exact h'
      · exact absurd (List.drop_eq_nil_of_le h') hd
    rcases h with rfl | ⟨b, o, hb, h1, h2⟩
    · simp at hlt
    · obtain rfl := Option.some.inj hb
      rw [if_neg (by omega)] at hA
      have hadd : (⟨b, o, none⟩ : Addr).add r = ⟨b, o + r, none⟩ := by
        unfold Addr.add
        split
        · rename_i hz; have : r = 0 := by simpa using hz
          subst this; rfl
        · rfl
      rw [hadd] at hA
      subst hA
      refine .inr ⟨b, o + r, rfl, h1, fun i hi => ?_⟩
      rw [List.getElem_drop, Nat.add_assoc]
      exact h2 (r + i) (by rw [List.length_drop] at hi; omega)

/-- cut off behind: 's[:r]' -/
theorem Sl.take {α : Type} {enc : α → Value} {w : World} {a : Option Addr} {n cap r : Nat} {l : List α} (h : Sl enc w (.slice a n cap) l) (hr : r ≤ n) : Sl enc w (.slice a r cap) (l.take r) := by
  obtain ⟨a', cap', hv, h0, hl, h⟩ := h
  simp only [Value.slice.injEq] at hv
  obtain ⟨rfl, rfl, rfl⟩ := hv
  refine ⟨a, cap, by rw [List.length_take, Nat.min_eq_left hr], h0, by rw [List.length_take]; omega, ?_⟩
  rcases h with rfl | ⟨b, o, rfl, h1, h2⟩
  · exact .inl (by simp)
  · refine .inr ⟨b, o, rfl, h1, fun i hi => ?_⟩
    rw [List.getElem_take]
    exact h2 i (by rw [List.length_take] at hi; omega)

/-- what the call owns, read as a slice -/
theorem Sl.of_own {α : Type} {enc : α → Value} {w : World} {base : Nat} {e : TypeId} {v : Value} {n : Nat} {l : List α} (h : w.ownsRow base e 1 v n (l.map enc)) (hn : l.length ≤ 140737488355328) : Sl enc w v l ∧ n = l.length := by
  have h' := h
  obtain ⟨h1, h2⟩ := h
  have hnl : n = l.length := by simpa using h1.symm
  subst hnl
  refine ⟨?_, rfl⟩
  rcases h2 with ⟨rfl, h0⟩ | ⟨g, cap, cur, rfl, hb, hg, hle, hm, hs, ht⟩
  · have : l = [] := List.eq_nil_of_length_eq_zero h0
    subst this
    exact Sl.nil enc w
  · refine ⟨some ⟨g, 0, none⟩, cap, rfl, (fun h => by cases h), hn, ?_⟩
    by_cases h0 : l = []
    · exact .inl h0
    · refine .inr ⟨g, 0, rfl, ?_, fun i hi => ?_⟩
      · exact (Array.getElem?_eq_some_iff.1 hg).1
      · rw [Nat.zero_add, h'.cellAt i (by omega)]
        simp [hi]

section
variable {P : Program}
/-- append onto what the call owns, from any slice of one-cell elements -/
theorem run_append_sl {α : Type} {enc : α → Value} {w : World} (base : Nat) (t ty e : TypeId) (i : TypeInfo) (z : Value) (bytes : Nat) (ht : P.underlying t = some (.slice e)) (hi : P.info? e = some i) (hz : i.zero = some z)
    (hsize : i.size = 1) (hby : i.bytes = bytes) (hzs : z.cells.size = 1) (v : Value) (n : Nat) (xs : List Value) (hown : w.ownsRow base e 1 v n xs)
    (src : Value) (l : List α) (hsl : Sl enc w src l) (h1 : ∀ y, (enc y).oneCell' = true) (h63 : n + l.length ≤ maxLen) (hbytes : (n + l.length) * bytes ≤ 140737488355328) (hbase : base ≤ w.heap.size) :
    ∃ v' w', (Builtin.append_ #[t, t] ty #[v, src]).run P w = .ok v' w' ∧ w'.ownsRow base e 1 v' (n + l.length) (xs ++ l.map enc) ∧ w.grownBy w' v.ownBlock := by
  obtain ⟨a, cap, rfl, h0, hl, h⟩ := hsl
  cases a with
  | none =>
    have hc := h0 rfl
    subst hc
    rcases h with rfl | ⟨b, o, hb, _⟩
    · refine ⟨v, w, run_append_owned_none (P := P) (w := w) base t ty e i 1 ht hi v n xs hown, ?_, ⟨rfl, rfl, rfl, Nat.le_refl _, fun _ _ _ => rfl⟩⟩
      simpa using hown
    · cases hb
  | some ad =>
    obtain ⟨v', w', r1, r2, r3, _⟩ := run_append_own w base t ty e i z 1 bytes ht hi hz hsize hby hzs (by omega) v n xs hown ad l.length cap (l.map enc) (by simp) (by
      intro j u hu
      rcases h with rfl | ⟨b, o, hb, _, hcell⟩
      · simp at hu
      · obtain rfl := Option.some.inj hb
        have hj : j < l.length := by have := (List.getElem?_eq_some_iff.1 hu).1; simpa using this
        have hue : u = enc l[j] := by rw [List.getElem?_map, List.getElem?_eq_getElem hj] at hu; simpa using hu.symm
        subst hue
        have : (⟨b, o, none⟩ : Addr).add j = ⟨b, o + j, none⟩ := by
          unfold Addr.add
          split
          · rename_i hz; have : j = 0 := by simpa using hz
            subst this; rfl
          · rfl
        rw [this]; exact hcell j hj) (by
      intro u hu
      obtain ⟨y, _, rfl⟩ := List.mem_map.1 hu
      exact h1 y) h63 hbytes hbase
    exact ⟨v', w', r1, r2, r3⟩

theorem wp_append_sl {α : Type} {enc : α → Value} {w : World} {o : Oper} {a : Act} {K : Act → World → Prop} {Q : Exit → Act → World → Prop} (s x : Operand) (t : TypeId)
    (ho : o.op = .call { callee := .builtin .append, args := #[s, x], argTypes := #[t, t] })
    (base : Nat) (e : TypeId) (i : TypeInfo) (z : Value) (bytes : Nat) (ht : P.underlying t = some (.slice e)) (hi : P.info? e = some i) (hz : i.zero = some z)
    (hsize : i.size = 1) (hby : i.bytes = bytes) (hzs : z.cells.size = 1) (v : Value) (n : Nat) (xs : List Value) (hs : a.eval s = v) (hown : w.ownsRow base e 1 v n xs)
    (src : Value) (l : List α) (hx : a.eval x = src) (hsl : Sl enc w src l) (h1 : ∀ y, (enc y).oneCell' = true) (h63 : n + l.length ≤ maxLen) (hbytes : (n + l.length) * bytes ≤ 140737488355328) (hbase : base ≤ w.heap.size)
    (h : ∀ v' w', w'.ownsRow base e 1 v' (n + l.length) (xs ++ l.map enc) → w.grownBy w' v.ownBlock → K (a.put o.dst v') w') : o.wp P a w K Q := by
  obtain ⟨v', w', r1, r2, r3⟩ := run_append_sl (P := P) base t o.type e i z bytes ht hi hz hsize hby hzs v n xs hown src l hsl h1 h63 hbytes hbase
  unfold Oper.wp
  simp [execOp, ho, resolve, invoke, builtin, hs, hx, r1, Result.andThen]
  exact h v' w' r2 r3

theorem wpList_append_sl {α : Type} {enc : α → Value} {w : World} {ops : Array Oper} {rest : List Oper} {o : Oper} {a : Act} {Q : Exit → Act → World → Prop} (hgd : o.guard = none) (s x : Operand) (t : TypeId)
    (ho : o.op = .call { callee := .builtin .append, args := #[s, x], argTypes := #[t, t] })
    (base : Nat) (e : TypeId) (i : TypeInfo) (z : Value) (bytes : Nat) (ht : P.underlying t = some (.slice e)) (hi : P.info? e = some i) (hz : i.zero = some z)
    (hsize : i.size = 1) (hby : i.bytes = bytes) (hzs : z.cells.size = 1) (v : Value) (n : Nat) (xs : List Value) (hs : a.eval s = v) (hown : w.ownsRow base e 1 v n xs)
    (src : Value) (l : List α) (hx : a.eval x = src) (hsl : Sl enc w src l) (h1 : ∀ y, (enc y).oneCell' = true) (h63 : n + l.length ≤ maxLen) (hbytes : (n + l.length) * bytes ≤ 140737488355328) (hbase : base ≤ w.heap.size)
    (h : ∀ v' w', w'.ownsRow base e 1 v' (n + l.length) (xs ++ l.map enc) → w.grownBy w' v.ownBlock → wpList P ops Q rest (a.put o.dst v') w') : wpList P ops Q (o :: rest) a w :=
  wpList_plain hgd fun _ hK => wp_append_sl s x t ho base e i z bytes ht hi hz hsize hby hzs v n xs hs hown src l hx hsl h1 h63 hbytes hbase fun v' w' h2 h3 => hK _ _ (h v' w' h2 h3)

/-- the same as one step of a region that draws its order -/
theorem step_append_sl {α : Type} {enc : α → Value} {w : World} {ops : Array Oper} {o : Oper} {a : Act} {K : Act → World → Prop} {Q : Exit → Act → World → Prop} {E : Prop} (hgd : o.guard = none) (s x : Operand) (t : TypeId)
    (ho : o.op = .call { callee := .builtin .append, args := #[s, x], argTypes := #[t, t] })
    (base : Nat) (e : TypeId) (i : TypeInfo) (z : Value) (bytes : Nat) (ht : P.underlying t = some (.slice e)) (hi : P.info? e = some i) (hz : i.zero = some z)
    (hsize : i.size = 1) (hby : i.bytes = bytes) (hzs : z.cells.size = 1) (v : Value) (n : Nat) (xs : List Value) (hs : a.eval s = v) (hown : w.ownsRow base e 1 v n xs)
    (src : Value) (l : List α) (hx : a.eval x = src) (hsl : Sl enc w src l) (h1 : ∀ y, (enc y).oneCell' = true) (h63 : n + l.length ≤ maxLen) (hbytes : (n + l.length) * bytes ≤ 140737488355328) (hbase : base ≤ w.heap.size)
    (h : ∀ v' w', w'.ownsRow base e 1 v' (n + l.length) (xs ++ l.map enc) → w.grownBy w' v.ownBlock → K (a.put o.dst v') w') :
    if Region.wanted o (yielded ops a.tmps) = true then Oper.wp P o a w K Q else E := by
  have hw : Region.wanted o (yielded ops a.tmps) = true := by simp [Region.wanted, hgd]
  rw [if_pos hw]
  exact wp_append_sl s x t ho base e i z bytes ht hi hz hsize hby hzs v n xs hs hown src l hx hsl h1 h63 hbytes hbase h
end
end Go.Proofs.Ytkpnjehgbehhcaa
