/- Own rows of zones: appending a part of a slice. -/
import Derived.Test.YtloldagcbjkelaaWSranks
import Derived.Laws.AppendOwnNone
namespace Go.Proofs.Ytloldagcbjkelaa
open Go.RowKit Fl

theorem infoZ : (Try.prog.info? 23).map (fun i => (i.zero, i.size, i.bytes)) = some (some (.agg #[.int .i64 0, .int .i64 0, .int .i64 0]), 3, 24) := by kernel_rfl
def zc (z : Zn) : List Value := [.int .i64 z.1, .int .i64 z.2.1, .int .i64 z.2.2]
def flatZ (zs : List Zn) : List Value := zs.flatMap zc
theorem flatZ_len (zs : List Zn) : (flatZ zs).length = zs.length * 3 := by
  induction zs with
  | nil => rfl
  | cons z zs ih => unfold flatZ at *; rw [List.flatMap_cons, List.length_append, ih, List.length_cons]; simp [zc]; omega
theorem flatZ_get (zs : List Zn) : ∀ i, i < zs.length → (flatZ zs)[i * 3]? = some (.int .i64 (zs.getD i (0, 0, 0)).1) ∧ (flatZ zs)[i * 3 + 1]? = some (.int .i64 (zs.getD i (0, 0, 0)).2.1) ∧ (flatZ zs)[i * 3 + 2]? = some (.int .i64 (zs.getD i (0, 0, 0)).2.2) := by
  induction zs with
  | nil => intro i hi; simp at hi
  | cons z zs ih =>
    intro i hi
    have e : flatZ (z :: zs) = zc z ++ flatZ zs := rfl
    rw [e]
    cases i with
    | zero => exact ⟨rfl, rfl, rfl⟩
    | succ i =>
      obtain ⟨a, b, c⟩ := ih i (by simpa using hi)
      have hl : (zc z).length = 3 := rfl
      refine ⟨?_, ?_, ?_⟩
      · rw [List.getElem?_append_right (by omega), hl, show (i + 1) * 3 - 3 = i * 3 by omega]; exact a
      · rw [List.getElem?_append_right (by omega), hl, show (i + 1) * 3 + 1 - 3 = i * 3 + 1 by omega]; exact b
      · rw [List.getElem?_append_right (by omega), hl, show (i + 1) * 3 + 2 - 3 = i * 3 + 2 by omega]; exact c
theorem flatZ_app (a b : List Zn) : flatZ (a ++ b) = flatZ a ++ flatZ b := List.flatMap_append
theorem flatZ_one {zs : List Zn} : ∀ u ∈ flatZ zs, u.oneCell' = true := fun u hu => by
  unfold flatZ at hu
  obtain ⟨z, _, hz⟩ := List.mem_flatMap.1 hu
  unfold zc at hz
  simp only [List.mem_cons, List.not_mem_nil, or_false] at hz
  rcases hz with rfl | rfl | rfl <;> rfl

theorem addr_add' (b o i : Nat) : (⟨b, o, none⟩ : Addr).add i = ⟨b, o + i, none⟩ := by
  unfold Addr.add
  split
  · rename_i h; have : i = 0 := by simpa using h
    subst this; rfl
  · rfl
/-- a slice value that leads to these zones -/
def ZSrc (w : World) (src : Value) (zs : List Zn) : Prop := (src = .slice none 0 0 ∧ zs = []) ∨ ∃ (ad : Addr) (c : Nat), src = .slice (some ad) zs.length c ∧
  ∀ i, i < zs.length → w.cell? (ad.add (i * 3)) = some (.int .i64 (zs.getD i (0, 0, 0)).1) ∧ w.cell? (ad.add (i * 3 + 1)) = some (.int .i64 (zs.getD i (0, 0, 0)).2.1) ∧ w.cell? (ad.add (i * 3 + 2)) = some (.int .i64 (zs.getD i (0, 0, 0)).2.2)

/-- the slice value v is nil, or the call's own row that holds just these zones -/
def OwnZ (w : World) (base : Nat) (v : Value) (zs : List Zn) : Prop := w.ownsRow base 23 3 v zs.length (flatZ zs)
theorem OwnZ.nil (w : World) (base : Nat) : OwnZ w base (.slice none 0 0) [] := World.ownsRow_nil w base _ 3
theorem OwnZ.alloc {w : World} {base : Nat} {v : Value} {zs : List Zn} (h : OwnZ w base v zs) (o : Obj) : OwnZ (w.alloc o) base v zs := World.ownsRow.alloc h o
theorem OwnZ.later {w w' : World} {base : Nat} {v : Value} {xs : List Zn} (h : OwnZ w base v xs) (hb : Below w.heap.size w w') : OwnZ w' base v xs := ownsRow_later h hb
theorem OwnZ.below {w w' : World} {base : Nat} {v : Value} {xs : List Zn} (h : OwnZ w base v xs) (hg : w.grownBy w' v.ownBlock) {B : Nat} {w0 : World} (hb : Below B w0 w) (hB : B ≤ base) (hs : base ≤ w.heap.size) : Below B w0 w' :=
  hb.grown hg (by omega) fun k hk => by
    have := (World.ownsRow.lt h k hk).1
    omega

theorem wpList_appZ {w : World} {ops : Array Oper} {rest : List Oper} {o : Oper} {a : Act} {Q : Exit → Act → World → Prop} (hgd : o.guard = none) (s x : Operand)
    (ho : o.op = .call { callee := .builtin .append, args := #[s, x], argTypes := #[37, 37] })
    (base : Nat) (v : Value) (xs : List Zn) (hs : a.eval s = v) (hown : OwnZ w base v xs) (src : Value) (zs : List Zn) (hx : a.eval x = src) (hsrc : ZSrc w src zs)
    (hb : (xs.length + zs.length) * 24 ≤ 140737488355328) (hbase : base ≤ w.heap.size)
    (h : ∀ v' w', OwnZ w' base v' (xs ++ zs) → w.grownBy w' v.ownBlock → wpList Try.prog ops Q rest (a.put o.dst v') w') : wpList Try.prog ops Q (o :: rest) a w := by
  obtain ⟨i0, hi, hz0, hz1, hz2⟩ := info_parts infoZ
  rcases hsrc with ⟨rfl, rfl⟩ | ⟨ad, c, rfl, hc⟩
  · refine wpList_plain hgd fun K hK => ?_
    have hrun := run_append_owned_none (P := Try.prog) (w := w) base 37 o.type 23 i0 3 Try.underlying37 hi v xs.length (flatZ xs) hown
    unfold Oper.wp
    simp [execOp, ho, resolve, invoke, builtin, hs, hx, hrun, Result.andThen]
    exact hK _ _ (h v w (by rw [List.append_nil]; exact hown) ⟨rfl, rfl, rfl, Nat.le_refl _, fun _ _ _ => rfl⟩)
  · refine wpList_append_own_at _ hgd s x _ ho base 23 i0 _ 3 24 Try.underlying37 hi hz0 hz1 hz2 rfl (by decide) v xs.length (flatZ xs) hs hown ad zs.length c (flatZ zs) hx (flatZ_len zs) (fun j u hu => ?_) flatZ_one (by unfold maxLen; omega) hb hbase ?_
    · have hj : j < zs.length * 3 := by have := (List.getElem?_eq_some_iff.1 hu).1; rwa [flatZ_len] at this
      obtain ⟨i, k, hk, rfl⟩ : ∃ i k, k < 3 ∧ j = i * 3 + k := ⟨j / 3, j % 3, Nat.mod_lt _ (by decide), by omega⟩
      obtain ⟨c0, c1, c2⟩ := hc i (by omega)
      obtain ⟨f0, f1, f2⟩ := flatZ_get zs i (by omega)
      match k, hk with
      | 0, _ => rw [Nat.add_zero] at hu ⊢; rw [c0, ← f0]; exact hu
      | 1, _ => rw [c1, ← f1]; exact hu
      | 2, _ => rw [c2, ← f2]; exact hu
    · intro v' w' h1 h2 _ _
      refine h v' w' ?_ h2
      unfold OwnZ
      rw [List.length_append, flatZ_app]; exact h1

theorem OwnZ.slz {w : World} {base : Nat} {v : Value} {zs : List Zn} (h : OwnZ w base v zs) (hn : zs.length ≤ 1000000) : SlZ w v zs := by
  have h' := h
  obtain ⟨h1, ⟨rfl, h0⟩ | ⟨g, cap, cur, rfl, hb, hg, hle, hrest⟩⟩ := h
  · have : zs = [] := List.eq_nil_of_length_eq_zero h0
    subst this
    exact ⟨none, 0, rfl, fun _ => rfl, by simp, by simp, fun i hi => by simp at hi⟩
  · refine ⟨some ⟨g, 0, none⟩, cap, rfl, (fun h => by cases h), hle, by omega, fun i hi => ?_⟩
    obtain ⟨f0, f1, f2⟩ := flatZ_get zs i hi
    have hl := (World.ownsRow.lt h' g rfl).2
    refine ⟨g, 0, rfl, hl, ?_, ?_, ?_⟩
    · rw [Nat.zero_add, World.ownsRow.cellAt h' (i * 3) (by omega)]; exact f0
    · rw [Nat.zero_add, World.ownsRow.cellAt h' (i * 3 + 1) (by omega)]; exact f1
    · rw [Nat.zero_add, World.ownsRow.cellAt h' (i * 3 + 2) (by omega)]; exact f2
end Go.Proofs.Ytloldagcbjkelaa
