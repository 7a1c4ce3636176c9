/- append onto an own row, of elements of however many cells: a run, a walk's operation, a drawn region's step; where the new slice lies. -/
import Derived.Test.YtkpnjehgbehhcaaSml
import Derived.Maps.AppendAt
import Derived.Laws.AppendOwnNone
import Derived.Deep.RegionHeld3
namespace Go.Proofs.Ytkpnjehgbehhcaa
open Go.RowKit

/-- the slice value src has m elements, whose cells are news -/
def Src (w : World) (src : Value) (m : Nat) (news : List Value) : Prop :=
  (src = .slice none 0 0 ∧ m = 0 ∧ news = []) ∨ ∃ ad c, src = .slice (some ad) m c ∧ ∀ j u, news[j]? = some u → w.cell? (ad.add j) = some u

theorem addr_ad (b o i : Nat) : (⟨b, o, none⟩ : Addr).add i = ⟨b, o + i, none⟩ := addr_add b o i

theorem Src.new (w : World) (cs : List Value) (t : TypeId) (m : Nat) : Src (w.alloc (.cells cs.toArray t)) (.slice (some ⟨w.heap.size, 0, none⟩) m m) m cs := by
  refine .inr ⟨_, m, rfl, fun j u hj => ?_⟩
  rw [addr_ad, Nat.zero_add]
  rw [World.cell?_alloc_at _ _ _ _ rfl]
  simpa using hj
theorem Src.below {w w' : World} {src : Value} {m : Nat} {news : List Value} (h : Src w src m news) (hb : Below w.heap.size w w') : Src w' src m news := by
  rcases h with h | ⟨ad, c, h1, h2⟩
  · exact .inl h
  · refine .inr ⟨ad, c, h1, fun j u hj => ?_⟩
    have h3 := h2 j u hj
    obtain ⟨b, o, hbo⟩ := addr_some h3
    rw [hbo] at h3 ⊢
    rw [hb.cell (p := ⟨b, o, none⟩) ?_]
    · exact h3
    · rcases Nat.lt_or_ge b w.heap.size with h' | h'
      · exact h'
      · simp [World.cell?, Array.getElem?_eq_none h'] at h3

section
variable {P : Program} {w : World}
theorem run_appG (base : Nat) (t ty e : TypeId) (z : Value) (k bytes : Nat) (ht : P.underlying t = some (.slice e)) (info : (P.info? e).map (fun i => (i.zero, i.size, i.bytes)) = some (some z, k, bytes)) (hzs : z.cells.size = k) (hk : 0 < k)
    (v : Value) (n : Nat) (xs : List Value) (hown : w.ownsRow base e k v n xs) (src : Value) (m : Nat) (news : List Value) (hsrc : Src w src m news) (hl : news.length = m * k) (h1 : ∀ u ∈ news, u.oneCell' = true)
    (hb : (n + m) * bytes ≤ 140737488355328) (h63 : n + m ≤ maxLen) (hbase : base ≤ w.heap.size) :
    ∃ v' w', (Builtin.append_ #[t, t] ty #[v, src]).run P w = .ok v' w' ∧ w'.ownsRow base e k v' (n + m) (xs ++ news) ∧ w.grownBy w' v.ownBlock ∧ (v'.ownBlock = v.ownBlock ∨ v'.ownBlock = some w.heap.size) := by
  obtain ⟨i0, hi, hz0, hz1, hz2⟩ := info_parts info
  rcases hsrc with ⟨rfl, rfl, rfl⟩ | ⟨ad, c, rfl, hc⟩
  · exact ⟨v, w, run_append_owned_none (P := P) (w := w) base t ty e i0 k ht hi v n xs hown, by rw [List.append_nil]; exact hown, ⟨rfl, rfl, rfl, Nat.le_refl _, fun _ _ _ => rfl⟩, .inl rfl⟩
  · obtain ⟨v', w', r1, r2, r3, _, r5⟩ := run_append_own_at (P := P) w base t ty e i0 z k bytes ht hi hz0 hz1 hz2 hzs hk v n xs hown ad m c news hl hc h1 h63 hb hbase
    exact ⟨v', w', r1, r2, r3, r5⟩

theorem wp_appG {o : Oper} {a : Act} {K : Act → World → Prop} {Q : Exit → Act → World → Prop} (s x : Operand) (base : Nat) (t e : TypeId) (z : Value) (k bytes : Nat) (ho : o.op = .call { callee := .builtin .append, args := #[s, x], argTypes := #[t, t] })
    (ht : P.underlying t = some (.slice e)) (info : (P.info? e).map (fun i => (i.zero, i.size, i.bytes)) = some (some z, k, bytes)) (hzs : z.cells.size = k) (hk : 0 < k)
    (v : Value) (n : Nat) (xs : List Value) (hs : a.eval s = v) (hown : w.ownsRow base e k v n xs) (src : Value) (m : Nat) (news : List Value) (hx : a.eval x = src) (hsrc : Src w src m news) (hl : news.length = m * k) (h1 : ∀ u ∈ news, u.oneCell' = true)
    (hb : (n + m) * bytes ≤ 140737488355328) (h63 : n + m ≤ maxLen) (hbase : base ≤ w.heap.size)
    (h : ∀ v' w', w'.ownsRow base e k v' (n + m) (xs ++ news) → w.grownBy w' v.ownBlock → (v'.ownBlock = v.ownBlock ∨ v'.ownBlock = some w.heap.size) → K (a.put o.dst v') w') : Oper.wp P o a w K Q := by
  obtain ⟨v', w', hrun, r2, r3, r4⟩ := run_appG (P := P) (w := w) base t o.type e z k bytes ht info hzs hk v n xs hown src m news hsrc hl h1 hb h63 hbase
  unfold Oper.wp
  simp [execOp, ho, resolve, invoke, builtin, hs, hx, hrun, Result.andThen]
  exact h v' w' r2 r3 r4

theorem wpList_appG {ops : Array Oper} {rest : List Oper} {o : Oper} {a : Act} {Q : Exit → Act → World → Prop} (hgd : o.guard = none) (s x : Operand) (base : Nat) (t e : TypeId) (z : Value) (k bytes : Nat) (ho : o.op = .call { callee := .builtin .append, args := #[s, x], argTypes := #[t, t] })
    (ht : P.underlying t = some (.slice e)) (info : (P.info? e).map (fun i => (i.zero, i.size, i.bytes)) = some (some z, k, bytes)) (hzs : z.cells.size = k) (hk : 0 < k)
    (v : Value) (n : Nat) (xs : List Value) (hs : a.eval s = v) (hown : w.ownsRow base e k v n xs) (src : Value) (m : Nat) (news : List Value) (hx : a.eval x = src) (hsrc : Src w src m news) (hl : news.length = m * k) (h1 : ∀ u ∈ news, u.oneCell' = true)
    (hb : (n + m) * bytes ≤ 140737488355328) (h63 : n + m ≤ maxLen) (hbase : base ≤ w.heap.size)
    (h : ∀ v' w', w'.ownsRow base e k v' (n + m) (xs ++ news) → w.grownBy w' v.ownBlock → (v'.ownBlock = v.ownBlock ∨ v'.ownBlock = some w.heap.size) → wpList P ops Q rest (a.put o.dst v') w') : wpList P ops Q (o :: rest) a w :=
  wpList_plain hgd fun _ hK => wp_appG s x base t e z k bytes ho ht info hzs hk v n xs hs hown src m news hx hsrc hl h1 hb h63 hbase fun v' w' h2 h3 h4 => hK _ _ (h v' w' h2 h3 h4)

theorem step_appG {ops : Array Oper} {o : Oper} {a : Act} {K : Act → World → Prop} {Q : Exit → Act → World → Prop} {E : Prop} (hgd : o.guard = none) (s x : Operand) (base : Nat) (t e : TypeId) (z : Value) (k bytes : Nat) (ho : o.op = .call { callee := .builtin .append, args := #[s, x], argTypes := #[t, t] })
    (ht : P.underlying t = some (.slice e)) (info : (P.info? e).map (fun i => (i.zero, i.size, i.bytes)) = some (some z, k, bytes)) (hzs : z.cells.size = k) (hk : 0 < k)
    (v : Value) (n : Nat) (xs : List Value) (hs : a.eval s = v) (hown : w.ownsRow base e k v n xs) (src : Value) (m : Nat) (news : List Value) (hx : a.eval x = src) (hsrc : Src w src m news) (hl : news.length = m * k) (h1 : ∀ u ∈ news, u.oneCell' = true)
    (hb : (n + m) * bytes ≤ 140737488355328) (h63 : n + m ≤ maxLen) (hbase : base ≤ w.heap.size)
    (h : ∀ v' w', w'.ownsRow base e k v' (n + m) (xs ++ news) → w.grownBy w' v.ownBlock → (v'.ownBlock = v.ownBlock ∨ v'.ownBlock = some w.heap.size) → K (a.put o.dst v') w') :
    if Region.wanted o (yielded ops a.tmps) = true then Oper.wp P o a w K Q else E := by
  have hw : Region.wanted o (yielded ops a.tmps) = true := by simp [Region.wanted, hgd]
  rw [if_pos hw]
  exact wp_appG s x base t e z k bytes ho ht info hzs hk v n xs hs hown src m news hx hsrc hl h1 hb h63 hbase h
end

theorem infoB : (Try.prog.info? 5).map (fun i => (i.zero, i.size, i.bytes)) = some (some (.int .u8 0), 1, 1) := by kernel_rfl

/-- an empty row, built just now -/
theorem ownsRow_empty {w : World} {base g k : Nat} {e : TypeId} (hg : w.heap[g]? = some (Obj.cells #[] e (0, 0))) (hb : base ≤ g) : w.ownsRow base e k (.slice (some ⟨g, 0, none⟩) 0 0) 0 [] :=
  ⟨by simp, .inr ⟨g, 0, #[], rfl, hb, hg, Nat.le_refl _, Nat.zero_le _, by simp, by simp⟩⟩

theorem SlB.src {w : World} {v : Value} {n : Nat} (h : SlB w v n) : ∃ news : List Value, Src w v n news ∧ news.length = n * 1 ∧ ∀ u ∈ news, ∃ k, u = .int .u8 k := by
  obtain ⟨a, cap, rfl, h0, h1, _, h⟩ := h
  cases n with
  | zero =>
    cases a with
    | none => exact ⟨[], .inl ⟨by rw [h0 rfl], rfl, rfl⟩, rfl, by simp⟩
    | some ad => exact ⟨[], .inr ⟨ad, cap, rfl, by simp⟩, rfl, by simp⟩
  | succ n =>
    obtain ⟨b, o, rfl, _, _⟩ := h 0 (by omega)
    obtain ⟨l, hl, hp⟩ := list_of (n + 1) (Value.int .u8 0) (p := fun i u => w.cell? ⟨b, o + i, none⟩ = some u ∧ ∃ k, u = .int .u8 k) (fun i hi => by
      obtain ⟨b', o', hbo, _, hc⟩ := h i hi
      cases hbo
      obtain ⟨u, h3, h4⟩ := hc 0 (by decide)
      exact ⟨u, by simpa using h3, h4⟩)
    refine ⟨l, .inr ⟨_, cap, rfl, fun j u hj => ?_⟩, by omega, fun u hu => ?_⟩
    · have hjl := (List.getElem?_eq_some_iff.1 hj).1
      have := (hp j (by omega)).1
      rw [List.getD_eq_getElem?_getD, hj] at this
      rw [addr_ad]
      exact this
    · obtain ⟨i, hi, rfl⟩ := List.getElem_of_mem hu
      have := (hp i (by omega)).2
      rw [List.getD_eq_getElem?_getD, List.getElem?_eq_getElem hi] at this
      exact this
theorem SlB.form' {w : World} {v : Value} {n : Nat} (h : SlB w v n) : ∃ a cap, v = .slice a n cap := by
  obtain ⟨a, cap, h, _⟩ := SlG.form h
  exact ⟨a, cap, h⟩
end Go.Proofs.Ytkpnjehgbehhcaa
