/- The map of versions in memory: what its blocks hold; a look-up; a store behind an append. -/
import Derived.Test.YtkpnjehgbehhcaaSml
import Derived.Maps.Own
import Derived.Maps.AppendAt
import Derived.OwnWalk
namespace Go.Proofs.Ytkpnjehgbehhcaa
open Go.RowKit Go.MapKept Go.ChangeMaps Go.ChangeShapes Go.WideShapes
open Go.WideElems (Fit rd rg pl rd_key rd_val rg_of)
open Go.Maps (Keyed int_keyed fit_look fit_store)

theorem keyI : Keyed Try.prog 3 := int_keyed Try.underlying3
/-- what an element reads as: nothing is asked of it here -/
def R0 (_ : Value) : Option (DataW Unit × List MemPlace) := some (.nil, [])

/-- forty bytes in a block of their own -/
def Dat (w : World) (B : Nat) (v : Value) : Prop := ∃ xs, w.ownsRow B 5 1 v 40 xs ∧ ∀ x ∈ xs, ∃ k, x = .int .u8 k
def flatV (rs : List (Int × Value)) : List Value := rs.flatMap fun r => [.int .i64 r.1, r.2]
theorem flatV_len (rs : List (Int × Value)) : (flatV rs).length = rs.length * 2 := by
  induction rs with
  | nil => rfl
  | cons r rs ih =>
    have e : flatV (r :: rs) = [.int .i64 r.1, r.2] ++ flatV rs := rfl
    rw [e, List.length_append, ih, List.length_cons]; simp; omega
theorem flatV_app (a b : List (Int × Value)) : flatV (a ++ b) = flatV a ++ flatV b := List.flatMap_append
theorem flatV_get (rs : List (Int × Value)) : ∀ i (h : i < rs.length), (flatV rs)[i * 2]? = some (.int .i64 rs[i].1) ∧ (flatV rs)[i * 2 + 1]? = some rs[i].2 := by
  induction rs with
  | nil => intro i hi; simp at hi
  | cons r rs ih =>
    intro i hi
    have e : flatV (r :: rs) = [.int .i64 r.1, r.2] ++ flatV rs := rfl
    rw [e]
    cases i with
    | zero => exact ⟨rfl, rfl⟩
    | succ i =>
      obtain ⟨a, b⟩ := ih i (by simpa using hi)
      refine ⟨?_, ?_⟩
      · rw [List.getElem?_append_right (by simp; omega)]
        simpa [show (i + 1) * 2 - 2 = i * 2 by omega] using a
      · rw [List.getElem?_append_right (by simp; omega)]
        simpa [show (i + 1) * 2 + 1 - 2 = i * 2 + 1 by omega] using b

/-- the slice v is nil, or holds in a block of its own the versions of these times -/
def RowV (w : World) (B : Nat) (v : Value) (ts : List Int) : Prop :=
  ∃ rs : List (Int × Value), rs.map (·.1) = ts ∧ w.ownsRow B 85 2 v rs.length (flatV rs) ∧ ∀ r ∈ rs, Dat w B r.2
theorem RowV.nil (w : World) (B : Nat) : RowV w B (.slice none 0 0) [] := ⟨[], rfl, World.ownsRow_nil w B _ 2, by simp⟩

theorem ownsRow_keep {w w' : World} {B : Nat} {e : TypeId} {k n : Nat} {v : Value} {xs : List Value} (h : w.ownsRow B e k v n xs) (hk : ∀ g, v.ownBlock = some g → w'.heap[g]? = w.heap[g]?) : w'.ownsRow B e k v n xs := by
  obtain ⟨h1, h2 | ⟨g, cap, cur, rfl, h4, h5, h6⟩⟩ := h
  · exact ⟨h1, .inl h2⟩
  · exact ⟨h1, .inr ⟨g, cap, cur, rfl, h4, by rw [hk g rfl]; exact h5, h6⟩⟩
theorem ownsRow_block {w : World} {B : Nat} {e : TypeId} {k n : Nat} {v : Value} {xs : List Value} {g : Nat} (h : w.ownsRow B e k v n xs) (hg : v.ownBlock = some g) : B ≤ g ∧ ∃ cur, w.heap[g]? = some (Obj.cells cur e (0, 0)) := by
  obtain ⟨h1, ⟨rfl, _⟩ | ⟨g', cap, cur, rfl, h4, h5, h6⟩⟩ := h
  · cases hg
  · obtain rfl : g' = g := Option.some.inj hg
    exact ⟨h4, cur, h5⟩
/-- the blocks of bytes stay -/
def KeepB (w w' : World) : Prop := ∀ (g : Nat) (cur : Array Value), w.heap[g]? = some (Obj.cells cur 5 (0, 0)) → w'.heap[g]? = some (Obj.cells cur 5 (0, 0))
theorem Dat.keep {w w' : World} {B : Nat} {v : Value} (h : Dat w B v) (hk : KeepB w w') : Dat w' B v := by
  obtain ⟨xs, h1, h2⟩ := h
  refine ⟨xs, ownsRow_keep h1 fun g hg => ?_, h2⟩
  obtain ⟨_, cur, h3⟩ := ownsRow_block h1 hg
  rw [h3, hk g cur h3]
theorem RowV.keep {w w' : World} {B : Nat} {v : Value} {ts : List Int} (h : RowV w B v ts) (h1 : ∀ g, v.ownBlock = some g → w'.heap[g]? = w.heap[g]?) (h2 : KeepB w w') : RowV w' B v ts := by
  obtain ⟨rs, h3, h4, h5⟩ := h
  exact ⟨rs, h3, ownsRow_keep h4 h1, fun r hr => (h5 r hr).keep h2⟩
theorem RowV.block {w : World} {B : Nat} {v : Value} {ts : List Int} {g : Nat} (h : RowV w B v ts) (hg : v.ownBlock = some g) : B ≤ g ∧ ∃ cur, w.heap[g]? = some (Obj.cells cur 85 (0, 0)) := by
  obtain ⟨rs, _, h4, _⟩ := h
  exact ownsRow_block h4 hg

/-- block b is a map of at most n keys from 0 to 29, at key k the versions of the times V k, each row by itself -/
def Ma (w : World) (B b : Nat) (V : Int → List Int) (n : Nat) : Prop :=
  B ≤ b ∧ ∃ es clock, w.heap[b]? = some (Obj.map es clock) ∧ Fit Try.prog 3 R0 es clock ∧ es.size ≤ n ∧
    (∀ x ∈ es.toList, ∃ k, x.key = .int .i64 k ∧ 0 ≤ k ∧ k < 30 ∧ V k ≠ [] ∧ RowV w B x.val (V k)) ∧
    (∀ k, V k ≠ [] → ∃ x ∈ es.toList, x.key = .int .i64 k) ∧
    (∀ x ∈ es.toList, ∀ y ∈ es.toList, x.key ≠ y.key → x.val.ownBlock ≠ y.val.ownBlock ∨ x.val.ownBlock = none) ∧ ∀ k, (V k).length ≤ n

theorem Ma.keep {w w' : World} {B b : Nat} {V : Int → List Int} {n : Nat} (h : Ma w B b V n) (hk : ∀ g, g < w.heap.size → w'.heap[g]? = w.heap[g]?) : Ma w' B b V n := by
  have lt : ∀ {g : Nat} {o : Obj}, w.heap[g]? = some o → g < w.heap.size := fun h => (Array.getElem?_eq_some_iff.1 h).1
  have kb : KeepB w w' := fun g cur hg => by rw [hk g (lt hg)]; exact hg
  obtain ⟨h0, es, clock, h1, h2, h3, h4, h5⟩ := h
  refine ⟨h0, es, clock, by rw [hk b (lt h1)]; exact h1, h2, h3, fun x hx => ?_, h5⟩
  obtain ⟨k, q1, q2, q3, q4, q5⟩ := h4 x hx
  refine ⟨k, q1, q2, q3, q4, q5.keep (fun g hg => ?_) kb⟩
  obtain ⟨_, cur, q6⟩ := q5.block hg
  exact hk g (lt q6)

/-- the value v lies at key k -/
def AtK (w : World) (b : Nat) (k : Int) (v : Value) : Prop :=
  ∃ es clock, w.heap[b]? = some (Obj.map es clock) ∧ (((∀ x ∈ es.toList, x.key ≠ .int .i64 k) ∧ v = .slice none 0 0) ∨ ∃ e0 ∈ es.toList, e0.key = .int .i64 k ∧ e0.val = v)

theorem keyOf_k {k : Int} (h : 0 ≤ k ∧ k < 30) : keyOf Try.prog 3 (.int .i64 k) = some (.int .i64 k) :=
  Maps.keyOf_int_mk Try.underlying3 (WalkArith.wf_i64 (by omega))
theorem zeroRow (w : World) : (zeroValue 86).run Try.prog w = .ok (.slice none 0 0) w := by kernel_rfl

theorem Ma.look {w : World} {B b : Nat} {V : Int → List Int} {n : Nat} (h : Ma w B b V n) {k : Int} (hk : 0 ≤ k ∧ k < 30) :
    ∃ v, (Instr.lookup 87 (.map (some b)) (.int .i64 k) false).run Try.prog w = .ok v w ∧ RowV w B v (V k) ∧ AtK w b k v := by
  obtain ⟨h0, es, clock, h1, h2, h3, h4, h5, h6⟩ := h
  rcases fit_look false keyI Try.underlying87 (zeroRow w) h1 h2 (keyOf_k hk) with ⟨hrun, hno, _⟩ | ⟨e0, y, hm, he, hrun, _⟩
  · refine ⟨_, hrun, ?_, es, clock, h1, .inl ⟨hno, rfl⟩⟩
    have : V k = [] := by
      by_cases hv : V k = []
      · exact hv
      · obtain ⟨x, hx, hxk⟩ := h5 k hv
        exact absurd hxk (hno x hx)
    rw [this]
    exact RowV.nil w B
  · obtain ⟨k', q1, _, _, _, q5⟩ := h4 e0 hm
    rw [he] at q1
    obtain rfl : k = k' := by simpa using q1
    exact ⟨_, hrun, q5, es, clock, h1, .inr ⟨e0, hm, he, rfl⟩⟩

def upd (V : Int → List Int) (k : Int) (ts : List Int) : Int → List Int := fun j => if j = k then ts else V j

theorem rg_lit {H : Type} {P : Program} {k : TypeId} {R : Value → Option (DataW H × List MemPlace)} {x : MapEntry} {y : Lit × DataW H} (h : rd P k R x = some y) : (rg P k R x).1 = y.1 := by rw [rg_of h]
set_option maxRecDepth 100000 in
theorem Ma.store {w w1 : World} {B b : Nat} {V : Int → List Int} {n : Nat} (h : Ma w B b V n) (hn : n < 1000000) {k : Int} (hk : 0 ≤ k ∧ k < 30) {v v' : Value} (hat : AtK w b k v)
    (hkeep : ∀ g, g < w.heap.size → v.ownBlock ≠ some g → w1.heap[g]? = w.heap[g]?) {ts : List Int} (hrow : RowV w1 B v' ts) (hts : ts ≠ []) (hlen : ts.length ≤ n + 1)
    (hloc : v'.ownBlock = v.ownBlock ∨ ∃ g, v'.ownBlock = some g ∧ w.heap.size ≤ g) :
    ∃ w2, (Instr.mapUpdate 87 (.map (some b)) (.int .i64 k) v').run Try.prog w1 = .ok () w2 ∧ Ma w2 B b (upd V k ts) (n + 1) ∧ w1.grownBy w2 (some b) := by
  have lt : ∀ {w : World} {g : Nat} {o : Obj}, w.heap[g]? = some o → g < w.heap.size := fun h => (Array.getElem?_eq_some_iff.1 h).1
  obtain ⟨h0, es, clock, h1, h2, h3, h4, h5, h6, h7⟩ := h
  obtain ⟨es', clock', h1', hat⟩ := hat
  rw [h1] at h1'
  obtain ⟨rfl, rfl⟩ : es = es' ∧ clock = clock' := by simpa using h1'
  have hvo : ∀ g, v.ownBlock = some g → ∃ cur, w.heap[g]? = some (Obj.cells cur 85 (0, 0)) := fun g hg => by
    rcases hat with ⟨_, rfl⟩ | ⟨e0, he0, _, rfl⟩
    · cases hg
    · obtain ⟨_, _, _, _, _, q⟩ := h4 e0 he0
      exact (q.block hg).2
  have hb1 : w1.heap[b]? = some (Obj.map es clock) := by
    rw [hkeep b (lt h1) (fun e => ?_)]
    · exact h1
    · obtain ⟨cur, hc⟩ := hvo b e
      rw [h1] at hc
      cases hc
  have kb1 : KeepB w w1 := fun g cur hg => by
    rw [hkeep g (lt hg) (fun e => ?_)]
    · exact hg
    · obtain ⟨cur', hc⟩ := hvo g e
      rw [hg] at hc
      simp at hc
  obtain ⟨es', clock', hrun, hF, hput, _, _, hwho⟩ := fit_store (R' := R0) keyI Try.underlying87 hb1 h2 (by unfold maxLen; omega) (fun _ _ _ z hz => hz) (keyOf_k hk) (yv := (.nil, [])) (val := v') rfl
  have hg2 : w1.grownBy (setBlock w1 b (.map es' clock')) (some b) := ⟨rfl, rfl, rfl, by simp [setBlock], fun i _ hi => heap_setBlock_other hb1 _ (fun e1 => hi (by rw [e1]))⟩
  have keep2 : ∀ (g : Nat) (cur : Array Value) (t : TypeId), w1.heap[g]? = some (Obj.cells cur t (0, 0)) → (setBlock w1 b (.map es' clock')).heap[g]? = some (Obj.cells cur t (0, 0)) := fun g cur t hg => by
    rw [hg2.block g (lt hg) (fun e => ?_)]
    · exact hg
    · obtain rfl : g = b := Option.some.inj e
      rw [hb1] at hg
      cases hg
  have kb2 : KeepB w1 (setBlock w1 b (.map es' clock')) := fun g cur hg => keep2 g cur _ hg
  -- an old entry at another key lies apart from v
  have hap : ∀ x ∈ es.toList, x.key ≠ .int .i64 k → ∀ g, x.val.ownBlock = some g → v.ownBlock ≠ some g := fun x hx hne g hg e => by
    rcases hat with ⟨_, rfl⟩ | ⟨e0, he0, hk0, rfl⟩
    · cases e
    · rcases h6 x hx e0 he0 (by rw [hk0]; exact hne) with q | q
      · exact q (by rw [hg, e])
      · rw [hg] at q; cases q
  refine ⟨_, hrun, ⟨h0, es', clock', heap_setBlock_same hb1 _, hF, ?_, ?_, ?_, ?_, ?_⟩, hg2⟩
  · have e1 : es'.size = ((es'.toList.map (rg Try.prog 3 R0)).foldr DataW.insert []).length := by rw [length_sorted]; simp
    rw [e1, hput]
    unfold putKey
    rw [length_insert]
    have e2 := List.length_filter_le (notKey (.int .i64 k)) ((es.toList.map (rg Try.prog 3 R0)).foldr DataW.insert [])
    rw [length_sorted] at e2
    simp at e2
    omega
  · intro x hx
    rcases hwho x hx with ⟨hx0, hxk⟩ | ⟨hxk, hxv⟩
    · obtain ⟨j, q1, q2, q3, q4, q5⟩ := h4 x hx0
      have hjk : j ≠ k := fun e => hxk (by rw [q1, e])
      have e : upd V k ts j = V j := if_neg hjk
      refine ⟨j, q1, q2, q3, by rw [e]; exact q4, by
        rw [e]
        refine (q5.keep (w' := w1) (fun g hg => ?_) kb1).keep (fun g hg => ?_) kb2
        · obtain ⟨_, cur, hc⟩ := q5.block hg
          exact hkeep g (lt hc) (hap x hx0 hxk g hg)
        · obtain ⟨_, cur, hc⟩ := q5.block hg
          have : w1.heap[g]? = some (Obj.cells cur 85 (0, 0)) := by rw [hkeep g (lt hc) (hap x hx0 hxk g hg)]; exact hc
          rw [this, keep2 g _ _ this]⟩
    · have e : upd V k ts k = ts := if_pos rfl
      refine ⟨k, hxk, hk.1, hk.2, by rw [e]; exact hts, ?_⟩
      rw [e, hxv]
      refine hrow.keep (fun g hg => ?_) kb2
      obtain ⟨_, cur, hc⟩ := hrow.block hg
      rw [hc, keep2 g _ _ hc]
  · -- every key that has versions is there
    have inOf : ∀ j, 0 ≤ j ∧ j < 30 → (∃ p ∈ putKey (.int .i64 k) DataW.nil ((es.toList.map (rg Try.prog 3 R0)).foldr DataW.insert []), p.1 = .int .i64 j) → ∃ x ∈ es'.toList, x.key = .int .i64 j := by
      rintro j hj ⟨p, hp, hpj⟩
      rw [← hput] at hp
      obtain ⟨x, hx, rfl⟩ := List.mem_map.1 ((sorted_perm _).mem_iff.1 hp)
      obtain ⟨y, hy⟩ := hF.reads x hx
      have m1 := rd_key hy
      have m2 := (rg_lit hy).symm.trans hpj
      exact ⟨x, hx, keyI.inj (m1.trans (congrArg some m2)) (keyOf_k hj)⟩
    intro j hj
    by_cases hjk : j = k
    · subst hjk
      exact inOf j hk ⟨(.int .i64 j, .nil), by unfold putKey; exact mem_insert_iff.2 (.inl rfl), rfl⟩
    · have e : upd V k ts j = V j := if_neg hjk
      rw [e] at hj
      obtain ⟨x, hx, hxj⟩ := h5 j hj
      have hj30 : 0 ≤ j ∧ j < 30 := by
        obtain ⟨j', q1, q2, q3, _⟩ := h4 x hx
        rw [hxj] at q1
        obtain rfl : j = j' := by simpa using q1
        exact ⟨q2, q3⟩
      refine inOf j hj30 ⟨rg Try.prog 3 R0 x, ?_, ?_⟩
      · unfold putKey
        refine mem_insert_iff.2 (.inr (List.mem_filter.2 ⟨(sorted_perm _).mem_iff.2 (List.mem_map.2 ⟨x, hx, rfl⟩), ?_⟩))
        refine (Maps.notKey_iff (keyI.key (keyOf_k hk))).2 ?_
        obtain ⟨y, hy⟩ := h2.reads x hx
        have m1 := rd_key hy
        have m3 := rg_lit hy
        have m2 : some y.1 = some (.int .i64 j) := m1.symm.trans ((congrArg (keyOf Try.prog 3) hxj).trans (keyOf_k hj30))
        intro e
        have e2 := (Option.some.inj m2).symm.trans (m3.symm.trans e)
        exact hjk (by simpa using e2)
      · obtain ⟨y, hy⟩ := h2.reads x hx
        have m1 := rd_key hy
        have m3 := rg_lit hy
        have m2 : some y.1 = some (.int .i64 j) := m1.symm.trans ((congrArg (keyOf Try.prog 3) hxj).trans (keyOf_k hj30))
        exact m3.trans (Option.some.inj m2)
  · intro x hx y hy hne
    have other : ∀ x ∈ es.toList, x.key ≠ .int .i64 k → x.val.ownBlock ≠ v'.ownBlock ∨ x.val.ownBlock = none := fun x hx hxk => by
      cases hxo : x.val.ownBlock with
      | none => exact .inr rfl
      | some g =>
        refine .inl fun e => ?_
        rcases hloc with q | ⟨g', q1, q2⟩
        · exact hap x hx hxk g hxo (by rw [← q, ← e])
        · rw [q1] at e
          obtain rfl : g = g' := Option.some.inj e
          obtain ⟨_, _, _, _, _, q5⟩ := h4 x hx
          obtain ⟨_, cur, hc⟩ := q5.block hxo
          have := lt hc
          omega
    rcases hwho x hx with ⟨hx0, hxk⟩ | ⟨hxk, hxv⟩ <;> rcases hwho y hy with ⟨hy0, hyk⟩ | ⟨hyk, hyv⟩
    · exact h6 x hx0 y hy0 hne
    · rw [hyv]; exact other x hx0 hxk
    · rw [hxv]
      rcases other y hy0 hyk with q | q
      · exact .inl fun e => q e.symm
      · cases hv : v'.ownBlock with
        | none => exact .inr rfl
        | some g => exact .inl (by rw [q]; simp)
    · exact absurd (hxk.trans hyk.symm) hne
  · intro j
    unfold upd
    split
    · exact hlen
    · have := h7 j; omega
end Go.Proofs.Ytkpnjehgbehhcaa
