/- extmap's Apply, where it takes a transaction in: what stays, what a round is. -/
import Derived.Test.YtkpnjehgbehhcaaAp2
namespace Go.Proofs.Ytkpnjehgbehhcaa
open Go.RowKit Go.MapKept

/-- all blocks stay, but maps, extmap's head and rows of versions -/
def KeepF (w w' : World) : Prop := w.heap.size ≤ w'.heap.size ∧ ∀ (g : Nat) (o : Obj), w.heap[g]? = some o → (∀ es c, o ≠ Obj.map es c) → (∀ cur, o ≠ Obj.cells cur 89 (0, 0)) → (∀ cur, o ≠ Obj.cells cur 85 (0, 0)) → w'.heap[g]? = some o
theorem KeepF.refl (w : World) : KeepF w w := ⟨Nat.le_refl _, fun _ _ h _ _ _ => h⟩
theorem KeepF.trans {a b c : World} (h : KeepF a b) (k : KeepF b c) : KeepF a c := ⟨Nat.le_trans h.1 k.1, fun g o h1 h2 h3 h4 => k.2 g o (h.2 g o h1 h2 h3 h4) h2 h3 h4⟩
theorem KeepF.below {a b : World} (h : Below a.heap.size a b) : KeepF a b := ⟨h.size, fun g o h1 _ _ _ => by rw [h.block g ((Array.getElem?_eq_some_iff.1 h1).1)]; exact h1⟩
theorem KeepF.grown {a b : World} {r : Option Nat} (h : a.grownBy b r) (hr : ∀ g, r = some g → ∃ o, a.heap[g]? = some o ∧ ((∃ es c, o = Obj.map es c) ∨ (∃ cur, o = Obj.cells cur 89 (0, 0)) ∨ ∃ cur, o = Obj.cells cur 85 (0, 0))) : KeepF a b :=
  ⟨h.size, fun g o h1 h2 h3 h4 => by
    rw [h.block g ((Array.getElem?_eq_some_iff.1 h1).1) (fun e => ?_)]
    · exact h1
    · obtain ⟨o', k1, k2⟩ := hr g e.symm
      rw [h1] at k1
      obtain rfl := Option.some.inj k1
      rcases k2 with ⟨es, c, k2⟩ | ⟨cur, k2⟩ | ⟨cur, k2⟩
      · exact h2 es c k2
      · exact h3 cur k2
      · exact h4 cur k2⟩

/-- the versions behind the first k puts -/
def addN (V : Int → List Int) (l : List Pt) (tm : Int) : Nat → Int → List Int
  | 0 => V
  | k + 1 => upd (addN V l tm k) (l.getD k (0, 0)).1 (addN V l tm k (l.getD k (0, 0)).1 ++ [tm])

def AtE (es : Array MapEntry) (k : Int) (v : Value) : Prop := ((∀ x ∈ es.toList, x.key ≠ .int .i64 k) ∧ v = .slice none 0 0) ∨ ∃ e0 ∈ es.toList, e0.key = .int .i64 k ∧ e0.val = v
theorem at_uniq {es : Array MapEntry} {clock : Nat} (hF : WideElems.Fit Try.prog 3 R0 es clock) {k : Int} {u v : Value} (h4 : AtE es k v) (h5 : AtE es k u) : u = v := by
  have hp : es.toList.Pairwise (fun x y => x.key ≠ y.key) := ((stamped_iff es clock).1 hF.stamped).2.2
  rcases h4 with ⟨q1, rfl⟩ | ⟨e0, q1, q2, rfl⟩ <;> rcases h5 with ⟨q3, rfl⟩ | ⟨e1, q3, q4, rfl⟩
  · rfl
  · exact absurd q4 (q1 e1 q3)
  · exact absurd q2 (q3 e0 q1)
  · have hs : ∀ (l : List MapEntry), l.Pairwise (fun x y => x.key ≠ y.key) → e1 ∈ l → e0 ∈ l → e1.key = e0.key → e1 = e0 := by
      intro l
      induction l with
      | nil => intro _ h; cases h
      | cons x r ih =>
        intro hp h1 h0 hk
        obtain ⟨hx, hr⟩ := List.pairwise_cons.1 hp
        rcases List.mem_cons.1 h1 with q1 | q1 <;> rcases List.mem_cons.1 h0 with q0 | q0
        · rw [q1, q0]
        · exact absurd hk (by rw [q1]; exact hx e0 q0)
        · exact absurd hk.symm (by rw [q0]; exact hx e1 q1)
        · exact ih hr q1 q0 hk
    rw [hs _ hp q3 q1 (q4.trans q2.symm)]
theorem look_es {es : Array MapEntry} {clock b : Nat} {w : World} (hb : w.heap[b]? = some (Obj.map es clock)) (hF : WideElems.Fit Try.prog 3 R0 es clock) {k : Int} (hk : 0 ≤ k ∧ k < 30) :
    ∃ v, (Instr.lookup 87 (.map (some b)) (.int .i64 k) false).run Try.prog w = .ok v w ∧ AtE es k v := by
  rcases Maps.fit_look false keyI Try.underlying87 (zeroRow w) hb hF (keyOf_k hk) with ⟨hrun, hno, _⟩ | ⟨e0, y, hm, he, hrun, _⟩
  · exact ⟨_, hrun, .inl ⟨hno, rfl⟩⟩
  · exact ⟨_, hrun, .inr ⟨e0, hm, he, rfl⟩⟩
theorem AtK.keep {w w' : World} {b : Nat} {k : Int} {v : Value} (h : AtK w b k v) (hb : Below w.heap.size w w') : AtK w' b k v := by
  obtain ⟨es, c, h1, h2⟩ := h
  exact ⟨es, c, by rw [hb.block b ((Array.getElem?_eq_some_iff.1 h1).1)]; exact h1, h2⟩
theorem Ma.below {w w' : World} {B b : Nat} {V : Int → List Int} {n : Nat} (h : Ma w B b V n) (hb : Below w.heap.size w w') : Ma w' B b V n := h.keep fun g hg => hb.block g hg

theorem infoV : (Try.prog.info? 85).map (fun i => (i.zero, i.size, i.bytes)) = some (some (.agg #[.int .i64 0, .slice none 0 0]), 2, 32) := by kernel_rfl

/-- a row of versions, grown by one -/
theorem RowV.snoc {w w' : World} {B : Nat} {v' d : Value} {rs : List (Int × Value)} {ts : List Int} {t : Int} (h1 : rs.map (·.1) = ts) (h3 : ∀ r ∈ rs, Dat w B r.2)
    (hown : w'.ownsRow B 85 2 v' (rs.length + 1) (flatV rs ++ [.int .i64 t, d])) (hk : KeepB w w') (hd : Dat w' B d) : RowV w' B v' (ts ++ [t]) := by
  refine ⟨rs ++ [(t, d)], by simp [h1], ?_, ?_⟩
  · rw [List.length_append, flatV_app]
    exact hown
  · intro r hr
    rcases List.mem_append.1 hr with hr | hr
    · exact (h3 r hr).keep hk
    · obtain rfl : r = (t, d) := by simpa using hr
      exact hd

/-- a round's append and store: what is so behind them -/
theorem round_facts {W0 w3 : World} {B b n : Nat} {V : Int → List Int} {k tm : Int} {v d : Value} {rs : List (Int × Value)} (hM : Ma W0 B b V n) (hn : n < 1000000) (hk : 0 ≤ k ∧ k < 30) (hv : AtK W0 b k v) (hrs : rs.map (·.1) = V k)
    (hrow : W0.ownsRow B 85 2 v rs.length (flatV rs)) (hD : ∀ r ∈ rs, Dat W0 B r.2) (hB : B ≤ W0.heap.size) (hb : Below W0.heap.size W0 w3) (hd : Dat w3 B d) {v' : Value} {w4 : World}
    (ho : w4.ownsRow B 85 2 v' (rs.length + 1) (flatV rs ++ [.int .i64 tm, d])) (hg : w3.grownBy w4 v.ownBlock) (hat : v'.ownBlock = v.ownBlock ∨ v'.ownBlock = some w3.heap.size) :
    ∃ w5, (Instr.mapUpdate 87 (.map (some b)) (.int .i64 k) v').run Try.prog w4 = .ok () w5 ∧ Ma w5 B b (upd V k (V k ++ [tm])) (n + 1) ∧ KeepF W0 w5 ∧ Below B W0 w5 ∧ w4.grownBy w5 (some b) := by
  have lt : ∀ {w : World} {g : Nat} {o : Obj}, w.heap[g]? = some o → g < w.heap.size := fun h => (Array.getElem?_eq_some_iff.1 h).1
  have hown3 : ∀ g, v.ownBlock = some g → B ≤ g ∧ ∃ cur, W0.heap[g]? = some (Obj.cells cur 85 (0, 0)) := fun g hg => ownsRow_block hrow hg
  have hkb3 : KeepB W0 w3 := fun g cur h => by rw [hb.block g (lt h)]; exact h
  have hkb4 : KeepB w3 w4 := fun g cur h => by
    rw [hg.block g (lt h) (fun e => ?_)]
    · exact h
    · obtain ⟨_, cur', h2⟩ := hown3 g e.symm
      have h3 : w3.heap[g]? = some (Obj.cells cur' 85 (0, 0)) := by rw [hb.block g (lt h2)]; exact h2
      rw [h] at h3
      simp at h3
  have hlen : (V k ++ [tm]).length ≤ n + 1 := by
    have := hM.2.choose_spec.choose_spec.2.2.2.2.2.2 k
    simp
    omega
  obtain ⟨w5, h1, h2, h3⟩ := hM.store hn hk hv (w1 := w4) (v' := v') (fun g hg1 hg2 => by
    rw [hg.block g (Nat.lt_of_lt_of_le hg1 hb.size) (fun e => hg2 e.symm), hb.block g hg1]) (RowV.snoc hrs (fun r hr => (hD r hr)) ho (fun g cur h => hkb4 g cur (hkb3 g cur h)) (hd.keep hkb4)) (by simp) hlen
    (by
      rcases hat with h | h
      · exact .inl h
      · exact .inr ⟨_, h, hb.size⟩)
  have hbm : ∃ es c, w4.heap[b]? = some (Obj.map es c) := by
    obtain ⟨_, es, c, hbb, _⟩ := hM
    refine ⟨es, c, ?_⟩
    rw [hg.block b (Nat.lt_of_lt_of_le (lt hbb) hb.size) (fun e => ?_), hb.block b (lt hbb)]
    · exact hbb
    · obtain ⟨_, cur', h4⟩ := hown3 b e.symm
      rw [hbb] at h4
      cases h4
  refine ⟨w5, h1, h2, ?_, ?_, h3⟩
  · refine ((KeepF.below hb).trans (KeepF.grown hg fun g hgv => ?_)).trans (KeepF.grown h3 fun g hgb => ?_)
    · obtain ⟨_, cur, h4⟩ := hown3 g hgv
      exact ⟨_, by rw [hb.block g (lt h4)]; exact h4, .inr (.inr ⟨cur, rfl⟩)⟩
    · obtain ⟨es, c, h4⟩ := hbm
      obtain rfl : b = g := Option.some.inj hgb
      exact ⟨_, h4, .inl ⟨es, c, rfl⟩⟩
  · refine ((hb.mono hB).grown hg (Nat.le_trans hB hb.size) fun g hgv => (hown3 g hgv).1).grown h3 (Nat.le_trans hB (Nat.le_trans hb.size hg.size)) fun g hgb => ?_
    obtain rfl : b = g := Option.some.inj hgb
    exact hM.1

/-- the lookup's run, in whatever world the map's block is as it was -/
theorem look_at {B b n : Nat} {V : Int → List Int} {w : World} (hM : Ma w B b V n) {k : Int} (hk : 0 ≤ k ∧ k < 30) :
    ∃ es clock v, w.heap[b]? = some (Obj.map es clock) ∧ AtK w b k v ∧ RowV w B v (V k) ∧ ∀ w' : World, w'.heap[b]? = some (Obj.map es clock) → (Instr.lookup 87 (.map (some b)) (.int .i64 k) false).run Try.prog w' = .ok v w' := by
  obtain ⟨v, _, h2, h3⟩ := hM.look hk
  obtain ⟨_, es, clock, hb, hF, _⟩ := hM
  have h3' := h3
  obtain ⟨es1, c1, hb1, h4⟩ := h3'
  rw [hb] at hb1
  obtain ⟨rfl, rfl⟩ : es = es1 ∧ clock = c1 := by simpa using hb1
  refine ⟨es, clock, v, hb, h3, h2, fun w' hb' => ?_⟩
  obtain ⟨u, h5, h6⟩ := look_es hb' hF hk
  rw [h5, at_uniq hF h4 h6]
theorem ownsRow_mono {w : World} {B B2 : Nat} {e : TypeId} {k n : Nat} {v : Value} {xs : List Value} (h : w.ownsRow B2 e k v n xs) (hB : B ≤ B2) : w.ownsRow B e k v n xs := by
  obtain ⟨h1, h2 | ⟨g, cap, cur, h3, h4, h5⟩⟩ := h
  · exact ⟨h1, .inl h2⟩
  · exact ⟨h1, .inr ⟨g, cap, cur, h3, Nat.le_trans hB h4, h5⟩⟩
/-- a block that holds no versions is as it was behind the append -/
theorem far_keep {W0 w3 w4 : World} {B n : Nat} {v : Value} {xs : List Value} (hrow : W0.ownsRow B 85 2 v n xs) (hb : Below W0.heap.size W0 w3) (hg : w3.grownBy w4 v.ownBlock) {g : Nat} {o : Obj} (h : W0.heap[g]? = some o)
    (hne : ∀ cur, o ≠ Obj.cells cur 85 (0, 0)) : w4.heap[g]? = some o := by
  have hlt : g < W0.heap.size := (Array.getElem?_eq_some_iff.1 h).1
  rw [hg.block g (Nat.lt_of_lt_of_le hlt hb.size) (fun e => ?_), hb.block g hlt]
  · exact h
  · obtain ⟨_, cur, h4⟩ := ownsRow_block hrow e.symm
    rw [h] at h4
    exact hne cur (Option.some.inj h4)
theorem cell_of {w : World} {g i : Nat} {cs : Array Value} {t : TypeId} {v : Value} (h : w.heap[g]? = some (Obj.cells cs t (0, 0))) (hi : cs[i]? = some v) : w.cell? ⟨g, i, none⟩ = some v := by simp [World.cell?, h, hi]
theorem Dat.below {w w' : World} {B : Nat} {v : Value} (h : Dat w B v) (hb : Below w.heap.size w w') : Dat w' B v :=
  h.keep fun g cur hg => by rw [hb.block g (Array.getElem?_eq_some_iff.1 hg).1]; exact hg
open Classical in
/-- what a look-up gives, if it gives anything -/
noncomputable def lkOf (b : Nat) (k : Int) (w : World) : Value :=
  if h : ∃ v, (Instr.lookup 87 (.map (some b)) (.int .i64 k) false).run Try.prog w = .ok v w then Classical.choose h else undef
theorem lk_run {b : Nat} {k : Int} {w : World} {v : Value} (h : (Instr.lookup 87 (.map (some b)) (.int .i64 k) false).run Try.prog w = .ok v w) :
    (Instr.lookup 87 (.map (some b)) (.int .i64 k) false).run Try.prog w = .ok (lkOf b k w) w ∧ lkOf b k w = v := by
  have hex : ∃ v, (Instr.lookup 87 (.map (some b)) (.int .i64 k) false).run Try.prog w = .ok v w := ⟨v, h⟩
  have h1 : lkOf b k w = Classical.choose hex := by unfold lkOf; rw [dif_pos hex]
  have h2 := Classical.choose_spec hex
  rw [← h1] at h2
  refine ⟨h2, ?_⟩
  rw [h] at h2
  simp at h2
  exact h2.symm
theorem Ma.keep2 {w w' : World} {B b : Nat} {V : Int → List Int} {n : Nat} (h : Ma w B b V n) (hk : ∀ (g : Nat) (o : Obj), w.heap[g]? = some o → (∀ cur, o ≠ Obj.cells cur 89 (0, 0)) → w'.heap[g]? = some o) : Ma w' B b V n := by
  have kb : KeepB w w' := fun g cur hg => hk g _ hg (by intro c h; simp at h)
  obtain ⟨h0, es, clock, h1, h2, h3, h4, h5⟩ := h
  refine ⟨h0, es, clock, hk b _ h1 (by intro c h; cases h), h2, h3, fun x hx => ?_, h5⟩
  obtain ⟨k, q1, q2, q3, q4, q5⟩ := h4 x hx
  refine ⟨k, q1, q2, q3, q4, q5.keep (fun g hg => ?_) kb⟩
  obtain ⟨_, cur, q6⟩ := q5.block hg
  rw [q6, hk g _ q6 (by intro c h; simp at h)]
theorem Mp.setLast {w : World} {B p : Nat} {V : Int → List Int} {last : Int} {n : Nat} (h : Mp w B p V last n) (t : Int) :
    Mp (w.setCell ⟨p, 2, none⟩ (.int .i64 t)) B p V t n ∧ KeepF w (w.setCell ⟨p, 2, none⟩ (.int .i64 t)) ∧ ∀ w0, Below B w0 w → Below B w0 (w.setCell ⟨p, 2, none⟩ (.int .i64 t)) := by
  obtain ⟨h0, b, h1, h2⟩ := h
  have hp : p < w.heap.size := (Array.getElem?_eq_some_iff.1 h1).1
  have hoth : ∀ g, g ≠ p → (w.setCell ⟨p, 2, none⟩ (.int .i64 t)).heap[g]? = w.heap[g]? := fun g hg => heap_setCell_other w ⟨p, 2, none⟩ g _ hg
  have hg : w.grownBy (w.setCell ⟨p, 2, none⟩ (.int .i64 t)) (some p) := ⟨rfl, rfl, rfl, by simp, fun k _ hk => hoth k (fun e => hk (by rw [e]))⟩
  refine ⟨⟨h0, b, ?_, h2.keep2 fun g o ho hne => ?_⟩, KeepF.grown hg fun g e => ?_, fun w0 hb => ?_⟩
  · show (w.heap.modify p _)[p]? = _
    rw [Array.getElem?_modify, if_pos rfl, h1]
    rfl
  · rw [hoth g (fun e => ?_)]
    · exact ho
    · subst e
      rw [h1] at ho
      exact hne _ (Option.some.inj ho).symm
  · obtain rfl := Option.some.inj e
    exact ⟨_, h1, .inr (.inl ⟨_, rfl⟩)⟩
  · exact hb.setCell h0 _
end Go.Proofs.Ytkpnjehgbehhcaa
