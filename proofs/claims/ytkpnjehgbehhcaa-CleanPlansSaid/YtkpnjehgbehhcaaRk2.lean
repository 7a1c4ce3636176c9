/- Own rows of ints and of scores; the sort by rank. -/
import Derived.Test.YtkpnjehgbehhcaaRkp
import Derived.Test.YtkpnjehgbehhcaaIlay
import Derived.Test.YtkpnjehgbehhcaaOwn3
import Derived.Lib.OwnBridge
namespace Go.Proofs.Ytkpnjehgbehhcaa
open Go.RowKit Fl Go.Sort Go.Lib Go.Shelf

theorem infoI : (Try.prog.info? 3).map (fun i => (i.zero, i.size, i.bytes)) = some (some (.int .i64 0), 1, 8) := by kernel_rfl

def encN (n : Nat) : Value := .int .i64 (n : Int)
/-- the slice value v is nil, or the call's own row that holds just these numbers -/
def OwnN (w : World) (base : Nat) (v : Value) (xs : List Nat) : Prop := w.ownsRow base 3 1 v xs.length (xs.map encN)
theorem OwnN.nil (w : World) (base : Nat) : OwnN w base (.slice none 0 0) [] := World.ownsRow_nil w base _ 1
theorem OwnN.alloc {w : World} {base : Nat} {v : Value} {xs : List Nat} (h : OwnN w base v xs) (o : Obj) : OwnN (w.alloc o) base v xs := World.ownsRow.alloc h o
theorem OwnN.drewN {w : World} {base : Nat} {v : Value} {xs : List Nat} (h : OwnN w base v xs) (n : Nat) : OwnN (w.drewN n) base v xs := h
theorem OwnN.sl {w : World} {base : Nat} {v : Value} {xs : List Nat} (h : OwnN w base v xs) (hn : xs.length ≤ 140737488355328) : Sl encN w v xs := (Sl.of_own h hn).1
theorem OwnN.below {w w' : World} {base : Nat} {v : Value} {xs : List Nat} (h : OwnN w base v xs) (hg : w.grownBy w' v.ownBlock) {B : Nat} {w0 : World} (hb : Below B w0 w) (hB : B ≤ base) (hs : base ≤ w.heap.size) : Below B w0 w' :=
  hb.grown hg (by omega) fun k hk => by
    have := (World.ownsRow.lt h k hk).1
    omega

/-- an own row stays where nothing that existed has turned -/
theorem ownsRow_later {w w' : World} {base : Nat} {e : TypeId} {size : Nat} {v : Value} {n : Nat} {xs : List Value} (h : w.ownsRow base e size v n xs) (hb : Below w.heap.size w w') : w'.ownsRow base e size v n xs := by
  have h' := h
  obtain ⟨h1, h2 | ⟨g, cap, cur, h3, h4, h5, h6⟩⟩ := h
  · exact ⟨h1, .inl h2⟩
  · refine ⟨h1, .inr ⟨g, cap, cur, h3, h4, ?_, h6⟩⟩
    have hlt := (World.ownsRow.lt h' g (by rw [h3]; rfl)).2
    rw [hb.block g hlt]; exact h5
theorem OwnN.later {w w' : World} {base : Nat} {v : Value} {xs : List Nat} (h : OwnN w base v xs) (hb : Below w.heap.size w w') : OwnN w' base v xs := ownsRow_later h hb
theorem OwnF.later {w w' : World} {base : Nat} {v : Value} {xs : List Nat} (h : OwnF w base v xs) (hb : Below w.heap.size w w') : OwnF w' base v xs := ownsRow_later h hb

theorem wpList_appN {w : World} {ops : Array Oper} {rest : List Oper} {o : Oper} {a : Act} {Q : Exit → Act → World → Prop} (hgd : o.guard = none) (s x : Operand)
    (ho : o.op = .call { callee := .builtin .append, args := #[s, x], argTypes := #[78, 78] })
    (base : Nat) (v : Value) (xs : List Nat) (hs : a.eval s = v) (hown : OwnN w base v xs) (src : Value) (l : List Nat) (hx : a.eval x = src) (hsl : Sl encN w src l)
    (hb : (xs.length + l.length) * 8 ≤ 140737488355328) (hbase : base ≤ w.heap.size)
    (h : ∀ v' w', OwnN w' base v' (xs ++ l) → w.grownBy w' v.ownBlock → wpList Try.prog ops Q rest (a.put o.dst v') w') : wpList Try.prog ops Q (o :: rest) a w := by
  obtain ⟨i0, hi, hz0, hz1, hz2⟩ := info_parts infoI
  refine wpList_append_sl hgd s x _ ho base 3 i0 (.int .i64 0) 8 Try.underlying78 hi hz0 hz1 hz2 rfl v xs.length (xs.map encN) hs hown src l hx hsl (fun _ => rfl) (by unfold maxLen; omega) hb hbase ?_
  intro v' w' h1 h2
  refine h v' w' ?_ h2
  unfold OwnN
  rw [List.length_append, List.map_append]; exact h1

theorem wpList_mkF {w : World} {ops : Array Oper} {rest : List Oper} {o : Oper} {a : Act} {Q : Exit → Act → World → Prop} (hgd : o.guard = none) (l c : Operand)
    (hop : o.op = Op.makeSlice 110 l c) (base n : Nat) (hl : a.eval l = .int .i64 n) (hc : a.eval c = .int .i64 n) (hn : n * 8 ≤ 140737488355328) (hb : base ≤ w.heap.size)
    (h : ∀ w', OwnF w' base (.slice (some ⟨w.heap.size, 0, none⟩) n n) (List.replicate n 0) → w.grownBy w' none → wpList Try.prog ops Q rest (a.put o.dst (.slice (some ⟨w.heap.size, 0, none⟩) n n)) w') :
    wpList Try.prog ops Q (o :: rest) a w := by
  obtain ⟨i0, hi, hz0, hz1, hz2⟩ := info_parts infoF
  refine wpList_make_full w hgd l c _ hop base 49 i0 (.float .f64 0) 1 Try.underlying110 hi hz0 hz1 .i64 .i64 _ _ n hl hc rfl rfl (by rw [hz2]; omega) (by unfold maxLen; omega) hb ?_
  intro w' h1 h2
  refine h w' ?_ h2
  unfold OwnF
  have : (madeCells (Value.float .f64 0).cells (n * 1)).toList = (List.replicate n 0).map encF := by
    rw [Nat.mul_one, List.map_replicate]; exact toList_madeCells_one _ _
  rw [this] at h1
  rw [List.length_replicate]; exact h1

theorem egR : ∀ args w, (callFunc 59 args).run Try.prog w = .ok (.enter 59 args) w := enters_of Try.func59 (by kernel_rfl) rfl

def encX (m : Nat) (x : Fin (m + 1)) : Value := .int .i64 (x.val : Int)
theorem map_encX (m : Nat) (l : List (Fin (m + 1))) : l.map (encX m) = (l.map (·.val)).map encN := by rw [List.map_map]; rfl

theorem cell_sortWorld {α : Type} [Inhabited α] {enc : α → Value} {w : World} {blk off q : Nat} {d : Array α} {os : Array Obj} {b o : Nat} {v : Value} (h : w.cell? ⟨b, o, none⟩ = some v) (hb : b ≠ blk) (hlt : b < w.heap.size) :
    (sortWorld enc w blk off q d os).cell? ⟨b, o, none⟩ = some v := by
  unfold sortWorld
  rw [cell?_grow _ _ _ (by rw [Go.Sort.size_putRow]; exact hlt), cell?_putRow_other _ _ _ _ _ _ (.inl hb), cell?_ahead]
  exact h

theorem rankLays (m : Nat) (S : Nat → Nat) (Bx gs blk size : Nat) (w : World) (hB : Bx ≠ blk) (hg : gs ≠ blk) (lB : Bx < w.heap.size) (lg : gs < w.heap.size)
    (h0 : w.cell? ⟨Bx, 0, none⟩ = some (.slice (some ⟨gs, 0, none⟩) (m + 1) (m + 1))) (hc : ∀ i, i < m + 1 → w.cell? ⟨gs, i, none⟩ = some (.float .f64 (S i))) :
    CmpLays1 Try.prog 59 #[.pointer (some ⟨Bx, 0, none⟩)] (encX m) (rkF m S) blk 0 size w := fun _ _ _ _ x y =>
  rankcmp_any x.val y.val (m + 1) Bx gs (S x.val) (S y.val) x.isLt y.isLt _ (cell_sortWorld h0 hB lB) (cell_sortWorld (hc _ x.isLt) hg lg) (cell_sortWorld (hc _ y.isLt) hg lg)

theorem grownBy_grow (w : World) (os : Array Obj) : w.grownBy (grow w os) none :=
  ⟨rfl, rfl, rfl, by simp [grow], fun k hk _ => heap_grow_old _ _ hk⟩

/-- slices.SortFunc by rank at an own row -/
theorem sortRank_own (base : Nat) (v : Value) (m : Nat) (S : Nat → Nat) (cs : List (Fin (m + 1))) (hsz : cs.length < 4611686018427387904) (Bx gs : Nat) (w : World) (h : OwnN w base v (cs.map (·.val))) (B : Nat) (w0 : World) (hb : Below B w0 w) (hB : B ≤ base)
    (hBx : Bx < base) (hgs : gs < base) (hsize : base ≤ w.heap.size) (h0 : w.cell? ⟨Bx, 0, none⟩ = some (.slice (some ⟨gs, 0, none⟩) (m + 1) (m + 1))) (hc : ∀ i, i < m + 1 → w.cell? ⟨gs, i, none⟩ = some (.float .f64 (S i))) :
    Calls Try.prog 58 #[v, .func (.func 59) #[] #[.pointer (some ⟨Bx, 0, none⟩)]] w fun e w' => e = .returned (.tuple #[]) ∧ OwnN w' base v ((sortK m S cs).map (·.val)) ∧ Below B w0 w' := by
  have h' : w.ownsRow base 3 1 v cs.length (cs.map (encX m)) := by
    have := h
    unfold OwnN at this
    rw [List.length_map] at this
    rw [map_encX]; exact this
  by_cases hv : v = .slice none 0 0
  · subst hv
    have hl : cs = [] := by
      rcases h'.2 with ⟨_, h0⟩ | ⟨g, cap, cur, h0, _⟩
      · exact List.length_eq_zero_iff.1 h0
      · cases h0
    subst hl
    have hS := AnyF.slices_SortFunc_none (P := Try.prog) (ρ := Try.sortI_ren) { Try.sortI with } none 0 (.func (.func 59) #[] #[.pointer (some ⟨Bx, 0, none⟩)]) w
    change Calls Try.prog 58 _ _ _ at hS
    refine hS.mono ?_
    rintro e w' ⟨rfl, rfl⟩
    refine ⟨rfl, ?_, hb⟩
    have : sortK m S [] = [] := List.length_eq_zero_iff.1 (by rw [sortK_len]; rfl)
    rw [this]; exact h
  · obtain ⟨g, cap, rfl, hg, hlt, hn, hm, _, hH⟩ := holds_of_ownsRow h' hv
    have hbg := (World.ownsRow.lt h' g rfl).1
    have hS := Any.slices_SortFunc_total Try.sortI (encX m) (fun _ => rfl) (rkF m S) (swoK m S) 59 #[.pointer (some ⟨Bx, 0, none⟩)] g 0 cap cs.toArray w egR
      (rankLays m S Bx gs g cs.toArray.size w (by omega) (by omega) (by omega) (by omega) h0 hc) hH hlt (by simpa using hsz) (totK S)
    change Calls Try.prog 58 _ _ _ at hS
    rw [List.size_toArray] at hS
    refine hS.mono ?_
    rintro e w' ⟨rfl, n, os, rfl⟩
    refine ⟨rfl, ?_, ?_⟩
    · have h1 := ownsRow_putRow (q := n) (k := cs.length) (ys := sortK m S cs) h' (sortK_len m S cs) (Nat.le_refl _)
      rw [List.take_of_length_le (by rw [sortK_len]; exact Nat.le_refl _)] at h1
      have h2 := World.ownsRow.kept h1 (grownBy_grow _ os) (.inr (by simp [Value.ownBlock]))
      unfold OwnN
      rw [List.length_map, sortK_len]
      rw [map_encX] at h2
      exact h2
    · have h1 : Below B w0 (putRow (encX m) (Sort.ahead w n) g 0 (sortK m S cs).toArray) := below_putRow hb (by omega)
      refine h1.grown (grownBy_grow _ os) ?_ (fun k h => by cases h)
      have : w.heap.size = (putRow (encX m) (Sort.ahead w n) g 0 (sortK m S cs).toArray).heap.size := by simp [putRow, mapBlock, Sort.ahead]
      omega
end Go.Proofs.Ytkpnjehgbehhcaa
