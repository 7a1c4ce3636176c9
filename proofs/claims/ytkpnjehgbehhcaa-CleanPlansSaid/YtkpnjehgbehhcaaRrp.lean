/- Insertion by shifting: plain; appending one number, and where the new slice lies. -/
import Derived.Test.YtkpnjehgbehhcaaZns
import Derived.Maps.AppendAt
namespace Fl
open Go Go.Proofs Go.Proofs.Ytkpnjehgbehhcaa

/-- a list, one longer, whose numbers behind place k have moved up by one -/
def shiftL (r : List Nat) (k : Nat) : List Nat := (List.range (r.length + 1)).map fun j => if j ≤ k then (r ++ [0]).getD j 0 else r.getD (j - 1) 0
theorem shiftL_len (r : List Nat) (k : Nat) : (shiftL r k).length = r.length + 1 := by unfold shiftL; simp
theorem shiftL_get (r : List Nat) (k j : Nat) (h : j < r.length + 1) : (shiftL r k).getD j 0 = if j ≤ k then (r ++ [0]).getD j 0 else r.getD (j - 1) 0 := by
  unfold shiftL
  rw [List.getD_eq_getElem?_getD, List.getElem?_map, List.getElem?_range h]; rfl
theorem snoc_get (r : List Nat) (j : Nat) (h : j < r.length) : (r ++ [0]).getD j 0 = r.getD j 0 := by
  rw [List.getD_eq_getElem?_getD, List.getElem?_append_left h, List.getD_eq_getElem?_getD]
theorem ext_get {l m : List Nat} (h : l.length = m.length) (hg : ∀ j, j < l.length → l.getD j 0 = m.getD j 0) : l = m := by
  apply List.ext_getElem h
  intro j h1 h2
  have := hg j h1
  rw [List.getD_eq_getElem?_getD, List.getD_eq_getElem?_getD, List.getElem?_eq_getElem h1, List.getElem?_eq_getElem h2] at this
  exact this
theorem set_get (l : List Nat) (i j y : Nat) (h : j < l.length) : (l.set i y).getD j 0 = if i = j then y else l.getD j 0 := by
  rw [List.getD_eq_getElem?_getD, List.getElem?_set]
  by_cases e : i = j
  · subst e; rw [if_pos rfl, if_pos rfl, if_pos h]; rfl
  · rw [if_neg e, if_neg e, List.getD_eq_getElem?_getD]
theorem shift_start (r : List Nat) : shiftL r r.length = r ++ [0] := by
  refine ext_get (by rw [shiftL_len]; simp) (fun j hj => ?_)
  rw [shiftL_len] at hj
  rw [shiftL_get _ _ _ hj, if_pos (by omega)]
theorem shift_set {r : List Nat} {k : Nat} (hk : k + 1 ≤ r.length) : (shiftL r (k + 1)).set (k + 1) ((shiftL r (k + 1)).getD k 0) = shiftL r k := by
  have e1 : (shiftL r (k + 1)).getD k 0 = r.getD k 0 := by rw [shiftL_get _ _ _ (by omega), if_pos (by omega), snoc_get _ _ (by omega)]
  rw [e1]
  refine ext_get (by rw [List.length_set, shiftL_len, shiftL_len]) (fun j hj => ?_)
  rw [List.length_set, shiftL_len] at hj
  rw [set_get _ _ _ _ (by rw [shiftL_len]; exact hj), shiftL_get _ _ j hj, shiftL_get _ _ j hj]
  by_cases e : k + 1 = j
  · subst e
    rw [if_pos rfl, if_neg (by omega)]
    rfl
  · rw [if_neg e]
    by_cases h1 : j ≤ k
    · rw [if_pos (by omega), if_pos h1]
    · rw [if_neg (by omega), if_neg h1]
theorem shift_end {r : List Nat} {k y : Nat} (hk : k ≤ r.length) : (shiftL r k).set k y = r.take k ++ y :: r.drop k := by
  have hl : (r.take k).length = k := by rw [List.length_take]; omega
  refine ext_get (by rw [List.length_set, shiftL_len, List.length_append, List.length_cons, List.length_drop, hl]; omega) (fun j hj => ?_)
  rw [List.length_set, shiftL_len] at hj
  rw [set_get _ _ _ _ (by rw [shiftL_len]; exact hj), shiftL_get _ _ j hj]
  have hR : (r.take k ++ y :: r.drop k).getD j 0 = if k = j then y else if j < k then r.getD j 0 else r.getD (j - 1) 0 := by
    rw [List.getD_eq_getElem?_getD]
    by_cases h1 : j < k
    · rw [List.getElem?_append_left (by omega), List.getElem?_take, if_pos h1, if_neg (by omega), if_pos h1, List.getD_eq_getElem?_getD]
    · rw [List.getElem?_append_right (by omega), hl]
      by_cases e : k = j
      · subst e; simp
      · rw [if_neg e, if_neg h1]
        obtain ⟨d, rfl⟩ : ∃ d, j = k + (d + 1) := ⟨j - k - 1, by omega⟩
        rw [show k + (d + 1) - k = d + 1 by omega, List.getElem?_cons_succ, List.getElem?_drop, show k + (d + 1) - 1 = k + d by omega, List.getD_eq_getElem?_getD]
  rw [hR]
  by_cases e : k = j
  · rw [if_pos e, if_pos e]
  · rw [if_neg e, if_neg e]
    by_cases h1 : j < k
    · rw [if_pos h1, if_pos (by omega), snoc_get _ _ (by omega)]
    · rw [if_neg h1, if_neg (by omega)]
theorem map_ins (S : Nat → Nat) (r : List Nat) (k i : Nat) : (r.take k ++ i :: r.drop k).map S = (r.map S).take k ++ S i :: (r.map S).drop k := by
  rw [List.map_append, List.map_cons, List.map_take, List.map_drop]

/-- one more number, at its place -/
theorem IsRank.ins {S : Nat → Nat} {ok : Nat → Bool} {i : Nat} {r : List Nat} (h : IsRank S ok i r) (hok : ok i = true) {k : Nat} (hk : k ≤ r.length)
    (h1 : ∀ j, k ≤ j → j < r.length → ckf ((r.map S).getD j 0) < ckf (S i)) (h2 : 0 < k → ckf (S i) ≤ ckf ((r.map S).getD (k - 1) 0)) : IsRank S ok (i + 1) (r.take k ++ i :: r.drop k) := by
  have gm : ∀ j (hj : j < r.length), (r.map S).getD j 0 = S r[j] := fun j hj => by
    rw [List.getD_eq_getElem?_getD, List.getElem?_map, List.getElem?_eq_getElem hj]; rfl
  have hlt : ∀ x ∈ r, x < i := fun x hx => by
    have := (List.mem_filter.1 (h.1.mem_iff.1 hx)).1
    simpa using this
  constructor
  · rw [range_filter_succ, hok, if_pos rfl]
    have e : (r.take k ++ i :: r.drop k).Perm (i :: r) := by
      have := List.perm_middle (a := i) (l₁ := r.take k) (l₂ := r.drop k)
      rwa [List.take_append_drop] at this
    exact e.trans ((h.1.cons i).trans (List.perm_append_singleton i _).symm)
  · have hp := h.2
    rw [List.pairwise_append]
    have hpt : (r.take k).Pairwise (rkLe S) := hp.sublist (List.take_sublist _ _)
    have hpd : (r.drop k).Pairwise (rkLe S) := hp.sublist (List.drop_sublist _ _)
    have hdrop : ∀ y ∈ r.drop k, rkLe S i y := fun y hy => by
      obtain ⟨d, hd, rfl⟩ := List.getElem_of_mem hy
      rw [List.length_drop] at hd
      rw [List.getElem_drop]
      have := h1 (k + d) (by omega) (by omega)
      rw [gm (k + d) (by omega)] at this
      exact .inl this
    have htake : ∀ x ∈ r.take k, rkLe S x i := fun x hx => by
      obtain ⟨j, hj, rfl⟩ := List.getElem_of_mem hx
      rw [List.length_take] at hj
      rw [List.getElem_take]
      have hjr : j < r.length := by omega
      have h0 := h2 (by omega)
      rw [gm (k - 1) (by omega)] at h0
      have hle : ckf (S r[k - 1]) ≤ ckf (S r[j]) := by
        rcases Nat.lt_or_ge j (k - 1) with hlt' | hge
        · have := (List.pairwise_iff_getElem.1 hp) j (k - 1) hjr (by omega) hlt'
          unfold rkLe at this; omega
        · have : j = k - 1 := by omega
          subst this; exact Nat.le_refl _
      have hl := hlt r[j] (List.getElem_mem hjr)
      unfold rkLe
      omega
    refine ⟨hpt, ?_, ?_⟩
    · rw [List.pairwise_cons]; exact ⟨hdrop, hpd⟩
    · intro x hx y hy
      rcases List.mem_cons.1 hy with rfl | hy
      · exact htake x hx
      · exact rkLe_trans (htake x hx) (hdrop y hy)
theorem IsRank.start (S : Nat → Nat) (ok : Nat → Bool) : IsRank S ok 0 [] := ⟨List.Perm.refl _, List.Pairwise.nil⟩
theorem IsRank.skip {S : Nat → Nat} {ok : Nat → Bool} {i : Nat} {r : List Nat} (h : IsRank S ok i r) (hok : ok i = false) : IsRank S ok (i + 1) r := by
  refine ⟨?_, h.2⟩
  rw [range_filter_succ, hok]
  simpa using h.1
theorem IsRank.len {S : Nat → Nat} {ok : Nat → Bool} {i : Nat} {r : List Nat} (h : IsRank S ok i r) : r.length ≤ i := by
  rw [h.1.length_eq]; exact filter_len ok i
end Fl
namespace Go.Proofs.Ytkpnjehgbehhcaa
open Go.RowKit Fl

/-- two own rows lie apart -/
def Apart (v u : Value) : Prop := ∀ g, v.ownBlock = some g → u.ownBlock ≠ some g

theorem wpList_oneN {w : World} {ops : Array Oper} {rest : List Oper} {o : Oper} {a : Act} {Q : Exit → Act → World → Prop} (hgd : o.guard = none) (s x : Operand)
    (ho : o.op = .call { callee := .builtin .append, args := #[s, x], argTypes := #[78, 78] })
    (base : Nat) (v : Value) (xs : List Nat) (hs : a.eval s = v) (w0 : World) (k : Nat) (t : TypeId) (hw : w = w0.alloc (.cells #[encN k] t)) (hown : OwnN w base v xs) (hx : a.eval x = .slice (some ⟨w0.heap.size, 0, none⟩) 1 1)
    (hb : (xs.length + 1) * 8 ≤ 140737488355328) (hbase : base ≤ w.heap.size)
    (h : ∀ v' w', OwnN w' base v' (xs ++ [k]) → w.grownBy w' v.ownBlock → (v'.ownBlock = v.ownBlock ∨ v'.ownBlock = some w.heap.size) → wpList Try.prog ops Q rest (a.put o.dst v') w') : wpList Try.prog ops Q (o :: rest) a w := by
  obtain ⟨i0, hi, hz0, hz1, hz2⟩ := info_parts infoI
  subst hw
  refine wpList_append_own_at _ hgd s x _ ho base 3 i0 (.int .i64 0) 1 8 Try.underlying78 hi hz0 hz1 hz2 rfl (by decide) v xs.length (xs.map encN) hs hown ⟨w0.heap.size, 0, none⟩ 1 1 [encN k] hx rfl (cell_one_new w0 (encN k) t) (fun u hu => by
    rw [List.mem_singleton] at hu; subst hu; rfl) (by unfold maxLen; omega) hb hbase ?_
  intro v' w' h1 h2 _ h4
  refine h v' w' ?_ h2 h4
  unfold OwnN
  rw [List.length_append, List.map_append]; exact h1
theorem wpList_oneF {w : World} {ops : Array Oper} {rest : List Oper} {o : Oper} {a : Act} {Q : Exit → Act → World → Prop} (hgd : o.guard = none) (s x : Operand)
    (ho : o.op = .call { callee := .builtin .append, args := #[s, x], argTypes := #[110, 110] })
    (base : Nat) (v : Value) (xs : List Nat) (hs : a.eval s = v) (w0 : World) (k : Nat) (t : TypeId) (hw : w = w0.alloc (.cells #[encF k] t)) (hown : OwnF w base v xs) (hx : a.eval x = .slice (some ⟨w0.heap.size, 0, none⟩) 1 1)
    (hb : (xs.length + 1) * 8 ≤ 140737488355328) (hbase : base ≤ w.heap.size)
    (h : ∀ v' w', OwnF w' base v' (xs ++ [k]) → w.grownBy w' v.ownBlock → (v'.ownBlock = v.ownBlock ∨ v'.ownBlock = some w.heap.size) → wpList Try.prog ops Q rest (a.put o.dst v') w') : wpList Try.prog ops Q (o :: rest) a w := by
  obtain ⟨i0, hi, hz0, hz1, hz2⟩ := info_parts infoF
  subst hw
  refine wpList_append_own_at _ hgd s x _ ho base 49 i0 (.float .f64 0) 1 8 Try.underlying110 hi hz0 hz1 hz2 rfl (by decide) v xs.length (xs.map encF) hs hown ⟨w0.heap.size, 0, none⟩ 1 1 [encF k] hx rfl (cell_one_new w0 (encF k) t) (fun u hu => by
    rw [List.mem_singleton] at hu; subst hu; rfl) (by unfold maxLen; omega) hb hbase ?_
  intro v' w' h1 h2 _ h4
  refine h v' w' ?_ h2 h4
  unfold OwnF
  rw [List.length_append, List.map_append]; exact h1

theorem OwnN.form {w : World} {base : Nat} {v : Value} {xs : List Nat} (h : OwnN w base v xs) : ∃ a c, v = .slice a xs.length c := by
  obtain ⟨_, h1 | ⟨g, c, cur, h1, _⟩⟩ := h
  · exact ⟨none, 0, by rw [h1.1, h1.2]⟩
  · exact ⟨_, c, h1⟩
theorem OwnF.form {w : World} {base : Nat} {v : Value} {xs : List Nat} (h : OwnF w base v xs) : ∃ a c, v = .slice a xs.length c := by
  obtain ⟨_, h1 | ⟨g, c, cur, h1, _⟩⟩ := h
  · exact ⟨none, 0, by rw [h1.1, h1.2]⟩
  · exact ⟨_, c, h1⟩
theorem OwnN.at0 {w : World} {base : Nat} {v : Value} {xs : List Nat} (h : OwnN w base v xs) (h0 : 0 < xs.length) : ∃ g c, v = .slice (some ⟨g, 0, none⟩) xs.length c ∧ base ≤ g ∧ g < w.heap.size := by
  have h' := h
  obtain ⟨_, h1 | ⟨g, c, cur, h1, _⟩⟩ := h
  · exact absurd h1.2 (by omega)
  · exact ⟨g, c, h1, World.ownsRow.lt h' g (by rw [h1]; rfl)⟩
theorem OwnF.at0 {w : World} {base : Nat} {v : Value} {xs : List Nat} (h : OwnF w base v xs) (h0 : 0 < xs.length) : ∃ g c, v = .slice (some ⟨g, 0, none⟩) xs.length c ∧ base ≤ g ∧ g < w.heap.size := by
  have h' := h
  obtain ⟨_, h1 | ⟨g, c, cur, h1, _⟩⟩ := h
  · exact absurd h1.2 (by omega)
  · exact ⟨g, c, h1, World.ownsRow.lt h' g (by rw [h1]; rfl)⟩
theorem OwnN.put {w : World} {base : Nat} {g n cap : Nat} {xs : List Nat} (h : OwnN w base (.slice (some ⟨g, 0, none⟩) n cap) xs) (j x : Nat) :
    OwnN (w.setCell ⟨g, j, none⟩ (encN x)) base (.slice (some ⟨g, 0, none⟩) n cap) (xs.set j x) := by
  have hn : n = xs.length := by
    obtain ⟨_, h1 | ⟨_, _, _, h1, _⟩⟩ := h
    · cases h1.1
    · simp only [Value.slice.injEq] at h1; exact h1.2.1
  subst hn
  have := (World.ownsRow.stored h j (encN x)).1
  unfold OwnN
  rw [List.length_set, List.map_set]; exact this
theorem OwnN.cellOf {w : World} {base : Nat} {g n cap : Nat} {xs : List Nat} (h : OwnN w base (.slice (some ⟨g, 0, none⟩) n cap) xs) (j : Nat) (hj : j < xs.length) :
    w.cell? ⟨g, j, none⟩ = some (.int .i64 (xs.getD j 0 : Nat)) ∧ w.frozen? ⟨g, j, none⟩ = false := by
  have hn : n = xs.length := by
    obtain ⟨_, h1 | ⟨_, _, _, h1, _⟩⟩ := h
    · cases h1.1
    · simp only [Value.slice.injEq] at h1; exact h1.2.1
  subst hn
  refine ⟨?_, World.ownsRow.frozenAt h j⟩
  rw [World.ownsRow.cellAt h j (by rw [Nat.mul_one]; exact hj), List.getElem?_map, List.getElem?_eq_getElem hj, List.getD_eq_getElem?_getD, List.getElem?_eq_getElem hj]; rfl
theorem OwnN.far {w : World} {base : Nat} {v : Value} {xs : List Nat} (h : OwnN w base v xs) (p : Addr) (u : Value) (hp : v.ownBlock ≠ some p.block) : OwnN (w.setCell p u) base v xs :=
  World.ownsRow.kept (row := some p.block) h ⟨rfl, rfl, rfl, by simp, fun k _ hk => heap_setCell_other w p k u (fun e => hk (by rw [e]))⟩ (.inr hp)
theorem OwnF.far {w : World} {base : Nat} {v : Value} {xs : List Nat} (h : OwnF w base v xs) (p : Addr) (u : Value) (hp : v.ownBlock ≠ some p.block) : OwnF (w.setCell p u) base v xs :=
  World.ownsRow.kept (row := some p.block) h ⟨rfl, rfl, rfl, by simp, fun k _ hk => heap_setCell_other w p k u (fun e => hk (by rw [e]))⟩ (.inr hp)
end Go.Proofs.Ytkpnjehgbehhcaa
