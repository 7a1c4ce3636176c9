/- The reference's map in memory; its Apply. -/
import Derived.Test.YtkpnjehgbehhcaaRef
import Derived.Test.YtkpnjehgbehhcaaMgp
namespace Go.Proofs.Ytkpnjehgbehhcaa
open Go.RowKit

/-- a version of the reference: LBA, time, and the value that its data are -/
abbrev Rv : Type := (Int × Int) × Value
def flatR (rs : List Rv) : List Value := rs.flatMap fun r => [.int .i64 r.1.1, .int .i64 r.1.2, r.2]
theorem flatR_app (a b : List Rv) : flatR (a ++ b) = flatR a ++ flatR b := List.flatMap_append
theorem flatR_len (rs : List Rv) : (flatR rs).length = rs.length * 3 := by
  induction rs with
  | nil => rfl
  | cons r rs ih =>
    have e : flatR (r :: rs) = [.int .i64 r.1.1, .int .i64 r.1.2, r.2] ++ flatR rs := rfl
    rw [e, List.length_append, ih, List.length_cons]; simp; omega
theorem flatR_get (rs : List Rv) : ∀ i (h : i < rs.length), (flatR rs)[i * 3]? = some (.int .i64 rs[i].1.1) ∧ (flatR rs)[i * 3 + 1]? = some (.int .i64 rs[i].1.2) ∧ (flatR rs)[i * 3 + 2]? = some rs[i].2 := by
  induction rs with
  | nil => intro i hi; simp at hi
  | cons r rs ih =>
    intro i hi
    have e : flatR (r :: rs) = [.int .i64 r.1.1, .int .i64 r.1.2, r.2] ++ flatR rs := rfl
    rw [e]
    cases i with
    | zero => exact ⟨rfl, rfl, rfl⟩
    | succ i =>
      obtain ⟨a, b, c⟩ := ih i (by simpa using hi)
      refine ⟨?_, ?_, ?_⟩
      · rw [List.getElem?_append_right (by simp; omega)]
        simpa [show (i + 1) * 3 - 3 = i * 3 by omega] using a
      · rw [List.getElem?_append_right (by simp; omega)]
        simpa [show (i + 1) * 3 + 1 - 3 = i * 3 + 1 by omega] using b
      · rw [List.getElem?_append_right (by simp; omega)]
        simpa [show (i + 1) * 3 + 2 - 3 = i * 3 + 2 by omega] using c
/-- a row of one's own that holds these versions -/
def OwnV (w : World) (B : Nat) (v : Value) (rs : List Rv) : Prop := w.ownsRow B 99 3 v rs.length (flatR rs)
theorem infoRv : (Try.prog.info? 99).map (fun i => (i.zero, i.size, i.bytes)) = some (some (.agg #[.int .i64 0, .int .i64 0, .slice none 0 0]), 3, 40) := by kernel_rfl
/-- a slice's value -/
def IsSl (v : Value) : Prop := ∃ a n c, v = .slice a n c
theorem IsSl.one {v : Value} (h : IsSl v) : v.oneCell' = true := by obtain ⟨_, _, _, rfl⟩ := h; rfl
theorem ownsRow_form {w : World} {B n k : Nat} {e : TypeId} {v : Value} {xs : List Value} (h : w.ownsRow B e k v n xs) : ∃ a c, v = .slice a n c := by
  obtain ⟨_, ⟨rfl, rfl⟩ | ⟨g, cap, _, rfl, _⟩⟩ := h
  · exact ⟨_, _, rfl⟩
  · exact ⟨_, _, rfl⟩
/-- the reference's map at p: at most n versions L, the greatest time last -/
def Rm (w : World) (B p : Nat) (L : List (Int × Int)) (last : Int) (n : Nat) : Prop :=
  B ≤ p ∧ L.length ≤ n ∧ ∃ v, w.heap[p]? = some (Obj.cells #[.int .i64 30, v, .int .i64 last] 97 (0, 0)) ∧ ∃ rs : List Rv, rs.map (·.1) = L ∧ (∀ r ∈ rs, IsSl r.2) ∧ OwnV w B v rs
theorem Rm.keepF {w w' : World} {B p : Nat} {L : List (Int × Int)} {last : Int} {n : Nat} (h : Rm w B p L last n) (hk : KeepF w w') : Rm w' B p L last n := by
  obtain ⟨h0, hn, v, h1, rs, h2, h3, h4⟩ := h
  refine ⟨h0, hn, v, hk.2 p _ h1 (by intro _ _ e; cases e) (by intro _ e; simp at e) (by intro _ e; simp at e), rs, h2, h3, ownsRow_keep h4 fun g hg => ?_⟩
  obtain ⟨_, cur, h5⟩ := ownsRow_block h4 hg
  rw [h5]
  exact hk.2 g _ h5 (by intro _ _ e; cases e) (by intro _ e; simp at e) (by intro _ e; simp at e)
theorem Rm.below {w w' : World} {B p : Nat} {L : List (Int × Int)} {last : Int} {n : Nat} (h : Rm w B p L last n) (hb : Below w.heap.size w w') : Rm w' B p L last n := h.keepF (KeepF.below hb)
theorem Rm.mono {w : World} {B p : Nat} {L : List (Int × Int)} {last : Int} {n n' : Nat} (h : Rm w B p L last n) (hn : n ≤ n') : Rm w B p L last n' := ⟨h.1, Nat.le_trans h.2.1 hn, h.2.2⟩
theorem OwnV.form {w : World} {B : Nat} {v : Value} {rs : List Rv} (h : OwnV w B v rs) : ∃ a c, v = .slice a rs.length c ∧ rs.length ≤ 9223372036854775807 ∧ ∀ i (hi : i < rs.length), ∃ g, a = some ⟨g, 0, none⟩ ∧ g < w.heap.size ∧
    w.cell? ⟨g, i * 3, none⟩ = some (.int .i64 rs[i].1.1) ∧ w.cell? ⟨g, i * 3 + 1, none⟩ = some (.int .i64 rs[i].1.2) ∧ w.cell? ⟨g, i * 3 + 2, none⟩ = some rs[i].2 := by
  have h' := h
  obtain ⟨h3, ⟨rfl, h4⟩ | ⟨g, cap, cur, rfl, _, h5, h6, h7, _⟩⟩ := h
  · have : rs = [] := List.eq_nil_of_length_eq_zero h4
    subst this
    exact ⟨none, 0, rfl, by decide, fun i hi => absurd hi (Nat.not_lt_zero _)⟩
  · refine ⟨some ⟨g, 0, none⟩, cap, rfl, by simp only [maxLen] at h7; omega, fun i hi => ?_⟩
    obtain ⟨f0, f1, f2⟩ := flatR_get rs i hi
    refine ⟨g, rfl, (Array.getElem?_eq_some_iff.1 h5).1, ?_, ?_, ?_⟩
    · rw [World.ownsRow.cellAt h' (i * 3) (by omega), f0]
    · rw [World.ownsRow.cellAt h' (i * 3 + 1) (by omega), f1]
    · rw [World.ownsRow.cellAt h' (i * 3 + 2) (by omega), f2]

/-- what Apply reads -/
def RaS (A p : Nat) (tm last : Int) (pv rv : Value) (w : World) : Prop :=
  w.cell? ⟨A, 0, none⟩ = some (.int .i64 tm) ∧ w.cell? ⟨A, 1, none⟩ = some pv ∧ w.cell? ⟨p, 0, none⟩ = some (.int .i64 30) ∧ w.cell? ⟨p, 1, none⟩ = some rv ∧ w.cell? ⟨p, 2, none⟩ = some (.int .i64 last)
theorem RaS.keep {A p : Nat} {tm last : Int} {pv rv : Value} {w w' : World} (h : RaS A p tm last pv rv w) (hb : Below w.heap.size w w') : RaS A p tm last pv rv w' :=
  ⟨cell_keep h.1 hb, cell_keep h.2.1 hb, cell_keep h.2.2.1 hb, cell_keep h.2.2.2.1 hb, cell_keep h.2.2.2.2 hb⟩

/-- where the loops of Apply stand: os was put out, the versions from i on and the puts from k on are left -/
def MgS (tm : Int) (L : List (Int × Int)) (ps : List Int) (i k : Nat) (os : List Rv) : Prop :=
  os.map (·.1) ++ mrg tm (L.drop i) (ps.drop k) = mrg tm L ps ∧ (∀ r ∈ os, IsSl r.2) ∧ (i = L.length + 1 → k = ps.length)
theorem MgS.start (tm : Int) (L : List (Int × Int)) (ps : List Int) : MgS tm L ps 0 0 [] := ⟨rfl, by simp, fun e => by omega⟩
theorem MgS.len {tm : Int} {L : List (Int × Int)} {ps : List Int} {i k : Nat} {os : List Rv} (h : MgS tm L ps i k os) : os.length ≤ L.length + ps.length := by
  have := congrArg List.length h.1
  rw [List.length_append, List.length_map, mrg_len tm _ _ _ rfl, mrg_len tm _ _ _ rfl] at this
  omega
theorem MgS.put {tm : Int} {L : List (Int × Int)} {ps : List Int} {i k : Nat} {os : List Rv} (h : MgS tm L ps i k os) (hi : i ≤ L.length) {p : Int} (hk : ps[k]? = some p) (hlt : ∀ x, L[i]? = some x → p < x.1) (d : Value) (hd : IsSl d) : MgS tm L ps i (k + 1) (os ++ [((p, tm), d)]) := by
  obtain ⟨h1, h2, h3⟩ := h
  refine ⟨?_, fun r hr => ?_, fun e => by omega⟩
  · obtain ⟨hkl, hkp⟩ := List.getElem?_eq_some_iff.1 hk
    rw [List.drop_eq_getElem_cons hkl, hkp] at h1
    have : mrg tm (L.drop i) (p :: ps.drop (k + 1)) = (p, tm) :: mrg tm (L.drop i) (ps.drop (k + 1)) := by
      rcases Nat.lt_or_ge i L.length with hil | hil
      · rw [List.drop_eq_getElem_cons hil]
        exact mrg_ins (hlt _ (List.getElem?_eq_getElem hil))
      · rw [List.drop_eq_nil_of_le hil, mrg_none, mrg_none]
        rfl
    rw [this] at h1
    rw [List.map_append, List.append_assoc]
    exact h1
  · rcases List.mem_append.1 hr with hr | hr
    · exact h2 r hr
    · obtain rfl : r = ((p, tm), d) := by simpa using hr
      exact hd
theorem MgS.old {tm : Int} {L : List (Int × Int)} {ps : List Int} {i k : Nat} {os : List Rv} (h : MgS tm L ps i k os) {x : Int × Int} (hi : L[i]? = some x) (hge : ∀ p, ps[k]? = some p → ¬ p < x.1) (d : Value) (hd : IsSl d) : MgS tm L ps (i + 1) k (os ++ [(x, d)]) := by
  obtain ⟨h1, h2, h3⟩ := h
  obtain ⟨hil, hix⟩ := List.getElem?_eq_some_iff.1 hi
  refine ⟨?_, fun r hr => ?_, fun e => by omega⟩
  · rw [List.drop_eq_getElem_cons hil, hix] at h1
    have : mrg tm (x :: L.drop (i + 1)) (ps.drop k) = x :: mrg tm (L.drop (i + 1)) (ps.drop k) := by
      rcases Nat.lt_or_ge k ps.length with hkl | hkl
      · rw [List.drop_eq_getElem_cons hkl]
        exact mrg_go (hge _ (List.getElem?_eq_getElem hkl))
      · rw [List.drop_eq_nil_of_le hkl, mrg_nil, mrg_nil]
    rw [this] at h1
    rw [List.map_append, List.append_assoc]
    exact h1
  · rcases List.mem_append.1 hr with hr | hr
    · exact h2 r hr
    · obtain rfl : r = (x, d) := by simpa using hr
      exact hd
theorem MgS.last {tm : Int} {L : List (Int × Int)} {ps : List Int} {k : Nat} {os : List Rv} (h : MgS tm L ps L.length k os) (hk : k = ps.length) : MgS tm L ps (L.length + 1) k os := by
  obtain ⟨h1, h2, _⟩ := h
  refine ⟨?_, h2, fun _ => hk⟩
  rw [List.drop_eq_nil_of_le (Nat.le_succ _)]
  rw [List.drop_eq_nil_of_le (Nat.le_refl _)] at h1
  exact h1
theorem MgS.done {tm : Int} {L : List (Int × Int)} {ps : List Int} {k : Nat} {os : List Rv} (h : MgS tm L ps (L.length + 1) k os) : os.map (·.1) = mrg tm L ps := by
  obtain ⟨h1, _, h3⟩ := h
  rw [h3 rfl, List.drop_eq_nil_of_le (Nat.le_succ _), List.drop_eq_nil_of_le (Nat.le_refl _), mrg_nil, List.append_nil] at h1
  exact h1
/-- all blocks but p stay -/
def KeepR (p : Nat) (w w' : World) : Prop := w.heap.size ≤ w'.heap.size ∧ ∀ g, g < w.heap.size → g ≠ p → w'.heap[g]? = w.heap[g]?
theorem KeepR.below {p : Nat} {a b : World} (h : Below a.heap.size a b) : KeepR p a b := ⟨h.size, fun g hg _ => h.block g hg⟩
theorem Rm.set {w0 w : World} {B p : Nat} {L L' : List (Int × Int)} {last : Int} {n n' : Nat} (h : Rm w0 B p L last n) (hb : Below w0.heap.size w0 w) (hB : B ≤ w0.heap.size) (t : Int) {v : Value} {rs : List Rv} (hv : OwnV w w0.heap.size v rs) (hrs : rs.map (·.1) = L') (h1 : ∀ r ∈ rs, IsSl r.2) (hn : L'.length ≤ n') :
    Rm ((w.setCell ⟨p, 1, none⟩ v).setCell ⟨p, 2, none⟩ (.int .i64 t)) B p L' t n' ∧ KeepR p w0 ((w.setCell ⟨p, 1, none⟩ v).setCell ⟨p, 2, none⟩ (.int .i64 t)) ∧ Below B w0 ((w.setCell ⟨p, 1, none⟩ v).setCell ⟨p, 2, none⟩ (.int .i64 t)) := by
  obtain ⟨h0, _, v0, hp0, _⟩ := h
  have hplt : p < w0.heap.size := (Array.getElem?_eq_some_iff.1 hp0).1
  have hp : w.heap[p]? = some (Obj.cells #[.int .i64 30, v0, .int .i64 last] 97 (0, 0)) := (hb.block p hplt).trans hp0
  have hoth : ∀ g, g ≠ p → ((w.setCell ⟨p, 1, none⟩ v).setCell ⟨p, 2, none⟩ (.int .i64 t)).heap[g]? = w.heap[g]? := fun g hg => by
    rw [heap_setCell_other _ ⟨p, 2, none⟩ g _ hg, heap_setCell_other _ ⟨p, 1, none⟩ g _ hg]
  refine ⟨⟨h0, hn, v, ?_, rs, hrs, h1, ?_⟩, ⟨?_, fun g hg hgp => (hoth g hgp).trans (hb.block g hg)⟩, ?_⟩
  · have a1 : (w.setCell ⟨p, 1, none⟩ v).heap[p]? = some (Obj.cells #[.int .i64 30, v, .int .i64 last] 97 (0, 0)) := by
      show (w.heap.modify p _)[p]? = _
      rw [Array.getElem?_modify, if_pos rfl, hp]
      rfl
    show ((w.setCell ⟨p, 1, none⟩ v).heap.modify p _)[p]? = _
    rw [Array.getElem?_modify, if_pos rfl, a1]
    rfl
  · have h2 : OwnV w B v rs := ownsRow_mono hv hB
    refine ownsRow_keep h2 fun g hg => hoth g (fun e => ?_)
    have := (ownsRow_block hv hg).1
    omega
  · exact (((hb.mono hB).setCell h0 _).setCell h0 _).size
  · exact ((hb.mono hB).setCell h0 _).setCell h0 _
theorem Mp.keepR {w w' : World} {B q p : Nat} {V : Int → List Int} {last : Int} {n : Nat} (h : Mp w B q V last n) (hk : KeepR p w w') (hp : ∃ cs, w.heap[p]? = some (Obj.cells cs 97 (0, 0))) : Mp w' B q V last n := by
  have K : ∀ (g : Nat) (o : Obj), w.heap[g]? = some o → (∀ cur, o ≠ Obj.cells cur 97 (0, 0)) → w'.heap[g]? = some o := fun g o hg hne => by
    rw [hk.2 g (Array.getElem?_eq_some_iff.1 hg).1 (fun e => ?_)]
    · exact hg
    · obtain ⟨cs, hc⟩ := hp
      rw [e, hc] at hg
      exact hne cs (Option.some.inj hg).symm
  have kb : KeepB w w' := fun g cur hg => K g _ hg (by intro c h; simp at h)
  obtain ⟨h00, b, hq, h0, es, clock, h1, h2, h3, h4, h5⟩ := h
  refine ⟨h00, b, K q _ hq (by intro c h; simp at h), h0, es, clock, K b _ h1 (by intro c h; cases h), h2, h3, fun x hx => ?_, h5⟩
  obtain ⟨k, q1, q2, q3, q4, q5⟩ := h4 x hx
  refine ⟨k, q1, q2, q3, q4, q5.keep (fun g hg => ?_) kb⟩
  obtain ⟨_, cur, q6⟩ := q5.block hg
  rw [q6, K g _ q6 (by intro c h; simp at h)]
end Go.Proofs.Ytkpnjehgbehhcaa
