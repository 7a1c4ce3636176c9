/- The reference's map: NewMap. The reference's versions: puts merged in; the versions of a map one after another; what Apply leaves. Plain. The reference's map in memory; its Apply. -/
import Derived.Test.YtkpnjehgbehhcaaMgb
namespace Go.Proofs.Ytkpnjehgbehhcaa
open Go.RowKit

/-- NewMap of the reference -/
theorem newmap_any (w : World) : Calls Try.prog 27 #[.int .i64 30] w fun e w' => e = .returned (.tuple #[.pointer (some ⟨w.heap.size, 0, none⟩), .int .i64 0]) ∧ w' = w.alloc (.cells #[.int .i64 30, .slice none 0 0, .int .i64 0] 97) := by
  go_enter Try.func27, Try.ntmps27
  go_wp2
  go_ret2
  exact ⟨rfl, rfl⟩
end Go.Proofs.Ytkpnjehgbehhcaa
namespace Go.Proofs.Ytkpnjehgbehhcaa
open Go.RowKit

/-- puts into versions, each behind those of its LBA -/
def mrg (tm : Int) : List (Int × Int) → List Int → List (Int × Int)
  | [], ps => ps.map fun p => (p, tm)
  | x :: L, [] => x :: L
  | x :: L, p :: ps => if p < x.1 then (p, tm) :: mrg tm (x :: L) ps else x :: mrg tm L (p :: ps)
termination_by L ps => L.length + ps.length

theorem mrg_nil (tm : Int) (L : List (Int × Int)) : mrg tm L [] = L := by cases L <;> simp [mrg]
theorem mrg_none (tm : Int) (ps : List Int) : mrg tm [] ps = ps.map fun p => (p, tm) := by simp [mrg]
theorem mrg_ins {tm : Int} {x : Int × Int} {L : List (Int × Int)} {p : Int} {ps : List Int} (h : p < x.1) : mrg tm (x :: L) (p :: ps) = (p, tm) :: mrg tm (x :: L) ps := by
  rw [mrg, if_pos h]
theorem mrg_go {tm : Int} {x : Int × Int} {L : List (Int × Int)} {p : Int} {ps : List Int} (h : ¬ p < x.1) : mrg tm (x :: L) (p :: ps) = x :: mrg tm L (p :: ps) := by
  rw [mrg, if_neg h]
theorem mrg_len (tm : Int) : ∀ (n : Nat) (L : List (Int × Int)) (ps : List Int), L.length + ps.length = n → (mrg tm L ps).length = L.length + ps.length := by
  intro n
  induction n with
  | zero =>
    intro L ps h
    have h1 : L = [] := List.eq_nil_of_length_eq_zero (by omega)
    have h2 : ps = [] := List.eq_nil_of_length_eq_zero (by omega)
    subst h1 h2
    simp [mrg]
  | succ n ih =>
    intro L ps h
    match L, ps with
    | [], ps => rw [mrg_none]; simp
    | x :: L, [] => rw [mrg_nil]; simp
    | x :: L, p :: ps =>
      by_cases hp : p < x.1
      · rw [mrg_ins hp, List.length_cons, ih (x :: L) ps (by simp at h ⊢; omega)]
        simp; omega
      · rw [mrg_go hp, List.length_cons, ih L (p :: ps) (by simp at h ⊢; omega)]
        simp; omega
theorem mrg_seg {tm : Int} {R : List (Int × Int)} {ps : List Int} : ∀ {X : List (Int × Int)}, (∀ x ∈ X, ∀ p ∈ ps, x.1 ≤ p) → mrg tm (X ++ R) ps = X ++ mrg tm R ps := by
  intro X
  induction X with
  | nil => intro _; rfl
  | cons x X ih =>
    intro h
    cases ps with
    | nil => rw [mrg_nil, mrg_nil]
    | cons p ps =>
      have h1 := h x (by simp) p (by simp)
      rw [List.cons_append, mrg_go (by omega), ih (fun y hy => h y (by simp [hy]))]
      rfl
theorem mrg_head {tm : Int} {R : List (Int × Int)} {p : Int} {ps : List Int} (h : ∀ x ∈ R, p < x.1) : mrg tm R (p :: ps) = (p, tm) :: mrg tm R ps := by
  cases R with
  | nil => simp [mrg]
  | cons x R => exact mrg_ins (h x (by simp))

/-- the versions at the LBAs from a on, one after another -/
def segs (V : Int → List Int) : Nat → Nat → List (Int × Int)
  | _, 0 => []
  | a, n + 1 => (V a).map (fun t => ((a : Int), t)) ++ segs V (a + 1) n
theorem segs_ge {V : Int → List Int} : ∀ {n a : Nat} {x : Int × Int}, x ∈ segs V a n → (a : Int) ≤ x.1 := by
  intro n
  induction n with
  | zero => intro a x h; simp [segs] at h
  | succ n ih =>
    intro a x h
    rw [segs, List.mem_append] at h
    rcases h with h | h
    · obtain ⟨t, _, rfl⟩ := List.mem_map.1 h
      exact Int.le_refl _
    · have := ih h
      omega
theorem segs_congr {V V' : Int → List Int} : ∀ {n a : Nat}, (∀ j : Nat, a ≤ j → j < a + n → V j = V' j) → segs V a n = segs V' a n := by
  intro n
  induction n with
  | zero => intro a _; rfl
  | succ n ih =>
    intro a h
    rw [segs, segs, h a (by omega) (by omega), ih (fun j h1 h2 => h j (by omega) (by omega))]

theorem mrg_segs {tm : Int} {V : Int → List Int} : ∀ (n a : Nat) (ps : List Int), ps.Pairwise (· < ·) → (∀ p ∈ ps, (a : Int) ≤ p ∧ p < a + n) → mrg tm (segs V a n) ps = segs (fun j => if j ∈ ps then V j ++ [tm] else V j) a n := by
  intro n
  induction n with
  | zero =>
    intro a ps _ h
    cases ps with
    | nil => rw [mrg_nil]; rfl
    | cons p ps => have := h p (by simp); omega
  | succ n ih =>
    intro a ps hp h
    rw [segs, segs, mrg_seg (fun x hx p hp => by
      obtain ⟨t, _, rfl⟩ := List.mem_map.1 hx
      exact (h p hp).1)]
    cases ps with
    | nil =>
      rw [mrg_nil]
      simp only [List.not_mem_nil, if_false]
    | cons p ps =>
      obtain ⟨hp1, hp2⟩ := List.pairwise_cons.1 hp
      by_cases e : p = a
      · subst e
        rw [mrg_head (fun x hx => by have := segs_ge hx; omega), ih (a + 1) ps hp2 (fun q hq => by have := hp1 q hq; have := h q (by simp [hq]); omega)]
        rw [if_pos (by simp), List.map_append, List.append_assoc]
        congr 1
        rw [List.map_singleton, List.singleton_append]
        congr 1
        refine segs_congr fun j h1 _ => ?_
        have : ((j : Int) ∈ (a : Int) :: ps) ↔ (j : Int) ∈ ps := by
          rw [List.mem_cons]
          constructor
          · rintro (h | h)
            · omega
            · exact h
          · exact .inr
        simp only [this]
      · have hpa := h p (by simp)
        have hge : ∀ q ∈ p :: ps, ((a + 1 : Nat) : Int) ≤ q := fun q hq => by
          rcases List.mem_cons.1 hq with rfl | hq
          · omega
          · have := hp1 q hq; omega
        rw [ih (a + 1) (p :: ps) hp (fun q hq => by have := hge q hq; have := h q hq; omega), if_neg (fun hm => by have := hge _ hm; omega)]

/-- the LBAs of puts -/
def lbs (l : List Pt) : List Int := l.map (·.1)
theorem lbs_get {l : List Pt} {k : Nat} (hk : k < l.length) : (lbs l)[k]? = some (l.getD k (0, 0)).1 := by
  unfold lbs
  rw [List.getElem?_map, List.getElem?_eq_getElem hk, List.getD_eq_getElem?_getD, List.getElem?_eq_getElem hk]
  rfl
theorem rise_lt {l : List Pt} (h : riseP l = true) : ∀ d k, k + (d + 1) < l.length → (l.getD k (0, 0)).1 < (l.getD (k + (d + 1)) (0, 0)).1 := by
  intro d k hk
  have h1 := rise_mono h d k (by omega)
  have h2 := rise_step h (k + d) (by omega)
  rw [show k + (d + 1) = k + d + 1 by omega]
  omega
theorem lbs_rise {l : List Pt} (h : riseP l = true) : (lbs l).Pairwise (· < ·) := by
  rw [List.pairwise_iff_getElem]
  intro i j hi hj hij
  have hl : (lbs l).length = l.length := by simp [lbs]
  have e1 := lbs_get (l := l) (k := i) (by omega)
  have e2 := lbs_get (l := l) (k := j) (by omega)
  rw [List.getElem?_eq_getElem (by omega)] at e1 e2
  rw [Option.some.inj e1, Option.some.inj e2]
  have := rise_lt h (j - i - 1) i (by omega)
  rwa [show i + (j - i - 1 + 1) = j by omega] at this
theorem addN_eq {V : Int → List Int} {l : List Pt} {tm : Int} (h : riseP l = true) : ∀ k, k ≤ l.length → ∀ j, addN V l tm k j = if j ∈ (lbs l).take k then V j ++ [tm] else V j := by
  intro k
  induction k with
  | zero => intro _ j; simp [addN]
  | succ k ih =>
    intro hk j
    have e1 := lbs_get (l := l) (k := k) (by omega)
    have hnot : (l.getD k (0, 0)).1 ∉ (lbs l).take k := fun hm => by
      obtain ⟨i, hi, e⟩ := List.getElem_of_mem hm
      rw [List.length_take] at hi
      rw [List.getElem_take] at e
      have e2 := lbs_get (l := l) (k := i) (by omega)
      rw [List.getElem?_eq_getElem (by simp [lbs]; omega)] at e2
      have e3 := (Option.some.inj e2).symm.trans e
      have := rise_lt h (k - i - 1) i (by omega)
      rw [show i + (k - i - 1 + 1) = k by omega] at this
      omega
    rw [addN, List.take_add_one, e1]
    unfold upd
    rw [ih (by omega) (l.getD k (0, 0)).1, if_neg hnot]
    by_cases e : j = (l.getD k (0, 0)).1
    · rw [if_pos e, if_pos (by simp [e]), e]
    · rw [if_neg e, ih (by omega) j]
      have : (j ∈ (lbs l).take k ++ (some (l.getD k (0, 0)).1).toList) ↔ j ∈ (lbs l).take k := by
        rw [List.mem_append, Option.toList_some, List.mem_singleton]
        exact or_iff_left e
      simp only [this]

theorem ok_rise {last tm : Int} {l : List Pt} (h : okA last tm l = true) : riseP l = true ∧ last < tm ∧ tm ≤ 1099511627776 := by
  unfold okA at h
  simp only [Bool.and_eq_true, decide_eq_true_eq] at h
  exact ⟨h.1.1.1.2, h.1.1.1.1.1, h.1.1.1.1.2⟩
theorem ok_lbs {last tm : Int} {l : List Pt} (h : okA last tm l = true) : ∀ p ∈ lbs l, (0 : Int) ≤ p ∧ p < 30 := fun p hp => by
  obtain ⟨i, hi, rfl⟩ := List.getElem_of_mem hp
  have hil : i < l.length := by simpa [lbs] using hi
  have e := lbs_get hil
  rw [List.getElem?_eq_getElem hi] at e
  rw [Option.some.inj e]
  exact (okA_in h).1 i hil
theorem ok_short {last tm : Int} {l : List Pt} (h : okA last tm l = true) : l.length ≤ 30 := by
  have hr := (ok_rise h).1
  have h1 : ∀ k, k < l.length → (k : Int) ≤ (l.getD k (0, 0)).1 := by
    intro k
    induction k with
    | zero => intro hk; exact ((okA_in h).1 0 hk).1
    | succ k ih =>
      intro hk
      have := ih (by omega)
      have := rise_step hr k hk
      omega
  rcases Nat.lt_or_ge 30 l.length with h2 | h2
  · have := h1 30 h2
    have := ((okA_in h).1 30 h2).2
    omega
  · exact h2

/-- what Apply of the reference leaves -/
def apR (last tm : Int) (l : List Pt) (L : List (Int × Int)) : List (Int × Int) := if okA last tm l = true then mrg tm L (lbs l) else L
theorem apV_of {last tm : Int} {l : List Pt} {V : Int → List Int} (h : okA last tm l = true) (j : Int) : apV last tm l V j = if j ∈ lbs l then V j ++ [tm] else V j := by
  unfold apV
  rw [if_pos h, addN_eq (ok_rise h).1 l.length (Nat.le_refl _), List.take_of_length_le (by simp [lbs])]
theorem apR_segs {last tm : Int} {l : List Pt} {V : Int → List Int} : apR last tm l (segs V 0 30) = segs (apV last tm l V) 0 30 := by
  unfold apR
  by_cases h : okA last tm l = true
  · rw [if_pos h, mrg_segs 30 0 (lbs l) (lbs_rise (ok_rise h).1) (fun p hp => by have := ok_lbs h p hp; omega)]
    exact segs_congr fun j _ _ => (apV_of h _).symm
  · rw [if_neg h]
    unfold apV
    rw [if_neg h]

/-- versions as they are in a map: they rise, behind 0 up to the last, at LBAs from 0 to 29 -/
def Vok (V : Int → List Int) (last : Int) : Prop := 0 ≤ last ∧ last ≤ 1099511627776 ∧ (∀ j, (V j).Pairwise (· < ·) ∧ ∀ t ∈ V j, 0 < t ∧ t ≤ last) ∧ ∀ j, V j ≠ [] → 0 ≤ j ∧ j < 30
theorem Vok.start : Vok (fun _ => []) 0 := ⟨by decide, by decide, fun _ => ⟨List.Pairwise.nil, by simp⟩, by simp⟩
theorem Vok.app {V : Int → List Int} {last : Int} (h : Vok V last) (tm : Int) (l : List Pt) : Vok (apV last tm l V) (apL last tm l) := by
  by_cases ho : okA last tm l = true
  · obtain ⟨_, h1, h2⟩ := ok_rise ho
    have e : apL last tm l = tm := if_pos ho
    rw [e]
    refine ⟨by have := h.1; omega, h2, fun j => ?_, fun j hj => ?_⟩
    · rw [apV_of ho]
      obtain ⟨q1, q2⟩ := h.2.2.1 j
      split
      · refine ⟨List.pairwise_append.2 ⟨q1, List.pairwise_singleton _ _, fun a ha b hb => ?_⟩, fun t ht => ?_⟩
        · have := q2 a ha
          obtain rfl : b = tm := by simpa using hb
          omega
        · rcases List.mem_append.1 ht with ht | ht
          · have := q2 t ht; omega
          · obtain rfl : t = tm := by simpa using ht
            have := h.1; omega
      · exact ⟨q1, fun t ht => by have := q2 t ht; omega⟩
    · rw [apV_of ho] at hj
      split at hj
      · rename_i hm; exact ok_lbs ho j hm
      · exact h.2.2.2 j hj
  · have e1 : apL last tm l = last := if_neg ho
    have e2 : apV last tm l V = V := by unfold apV; rw [if_neg ho]
    rw [e1, e2]
    exact h

/-- a map and its greatest time behind the first k transactions -/
def stV (T : List Tx) : Nat → (Int → List Int) × Int
  | 0 => (fun _ => [], 0)
  | k + 1 => (apV (stV T k).2 (T.getD k (0, [])).1 (T.getD k (0, [])).2 (stV T k).1, apL (stV T k).2 (T.getD k (0, [])).1 (T.getD k (0, [])).2)
theorem stV_ok (T : List Tx) : ∀ k, Vok (stV T k).1 (stV T k).2
  | 0 => Vok.start
  | k + 1 => (stV_ok T k).app _ _
theorem app_any2 {B p : Nat} {V : Int → List Int} {last : Int} {n : Nat} (tm : Int) (a : Option Addr) (cap : Nat) (l : List Pt) (w : World) (h : Mp w B p V last n) (hl : ∀ w', Hid (Below B w w') → SlP w' (.slice a l.length cap) l) (hB : B ≤ w.heap.size)
    (hnn : n + 30 < 1000000) :
    Calls Try.prog 28 #[.pointer (some ⟨p, 0, none⟩), .agg #[.int .i64 tm, .slice a l.length cap]] w fun e w' => (∃ r, e = .returned (.int .i64 r)) ∧ Mp w' B p (apV last tm l V) (apL last tm l) (n + 30) ∧ KeepF w w' ∧ Below B w w' := by
  by_cases ho : okA last tm l = true
  · have hs := ok_short ho
    exact (app_any tm a cap l w h hl hB (by omega)).mono fun e w' ⟨q1, q2, q3⟩ => ⟨q1, q2.mono (by omega), q3⟩
  · have hf : okA last tm l = false := by simpa using ho
    have e1 : apV last tm l V = V := by unfold apV; rw [if_neg ho]
    have e2 : apL last tm l = last := if_neg ho
    rw [e1, e2]
    exact (app_no tm a cap l w h (hl w (Below.refl _ _)) hf).mono fun e w' ⟨q1, q2⟩ => ⟨q1, (h.below q2).mono (by omega), KeepF.below q2, q2.mono hB⟩
end Go.Proofs.Ytkpnjehgbehhcaa
namespace Go.Proofs.Ytkpnjehgbehhcaa
open Go.RowKit

/-- a version of the reference: LBA, time, and the value that its data are -/
abbrev Rv : Type := (Int × Int) × Value
def flatR (rs : List Rv) : List Value := rs.flatMap fun r => [.int .i64 r.1.1, .int .i64 r.1.2, r.2]
theorem flatR_app (a b : List Rv) : flatR (a ++ b) = flatR a ++ flatR b := List.flatMap_append
theorem flatR_len (rs : List Rv) : (flatR rs).length = rs.length * 3 := by
  induction rs with
  | nil => rfl
  | cons r rs ih =>
    have e : flatR (r :: rs) = [.int .i64 r.1.1, .int .i64 r.1.2, r.2] ++ flatR rs := rfl
    rw [e, List.length_append, ih, List.length_cons]; simp; omega
theorem flatR_get (rs : List Rv) : ∀ i (h : i < rs.length), (flatR rs)[i * 3]? = some (.int .i64 rs[i].1.1) ∧ (flatR rs)[i * 3 + 1]? = some (.int .i64 rs[i].1.2) ∧ (flatR rs)[i * 3 + 2]? = some rs[i].2 := by
  induction rs with
  | nil => intro i hi; simp at hi
  | cons r rs ih =>
    intro i hi
    have e : flatR (r :: rs) = [.int .i64 r.1.1, .int .i64 r.1.2, r.2] ++ flatR rs := rfl
    rw [e]
    cases i with
    | zero => exact ⟨rfl, rfl, rfl⟩
    | succ i =>
      obtain ⟨a, b, c⟩ := ih i (by simpa using hi)
      refine ⟨?_, ?_, ?_⟩
      · rw [List.getElem?_append_right (by simp; omega)]
        simpa [show (i + 1) * 3 - 3 = i * 3 by omega] using a
      · rw [List.getElem?_append_right (by simp; omega)]
        simpa [show (i + 1) * 3 + 1 - 3 = i * 3 + 1 by omega] using b
      · rw [List.getElem?_append_right (by simp; omega)]
        simpa [show (i + 1) * 3 + 2 - 3 = i * 3 + 2 by omega] using c
/-- a row of one's own that holds these versions -/
def OwnV (w : World) (B : Nat) (v : Value) (rs : List Rv) : Prop := w.ownsRow B 99 3 v rs.length (flatR rs)
theorem infoRv : (Try.prog.info? 99).map (fun i => (i.zero, i.size, i.bytes)) = some (some (.agg #[.int .i64 0, .int .i64 0, .slice none 0 0]), 3, 40) := by kernel_rfl
/-- a slice's value -/
def IsSl (v : Value) : Prop := ∃ a n c, v = .slice a n c
theorem IsSl.one {v : Value} (h : IsSl v) : v.oneCell' = true := by obtain ⟨_, _, _, rfl⟩ := h; rfl
theorem ownsRow_form {w : World} {B n k : Nat} {e : TypeId} {v : Value} {xs : List Value} (h : w.ownsRow B e k v n xs) : ∃ a c, v = .slice a n c := by
  obtain ⟨_, ⟨rfl, rfl⟩ | ⟨g, cap, _, rfl, _⟩⟩ := h
  · exact ⟨_, _, rfl⟩
  · exact ⟨_, _, rfl⟩
/-- the reference's map at p: at most n versions L, the greatest time last -/
def Rm (w : World) (B p : Nat) (L : List (Int × Int)) (last : Int) (n : Nat) : Prop :=
  B ≤ p ∧ L.length ≤ n ∧ ∃ v, w.heap[p]? = some (Obj.cells #[.int .i64 30, v, .int .i64 last] 97 (0, 0)) ∧ ∃ rs : List Rv, rs.map (·.1) = L ∧ (∀ r ∈ rs, IsSl r.2) ∧ OwnV w B v rs
theorem Rm.keepF {w w' : World} {B p : Nat} {L : List (Int × Int)} {last : Int} {n : Nat} (h : Rm w B p L last n) (hk : KeepF w w') : Rm w' B p L last n := by
  obtain ⟨h0, hn, v, h1, rs, h2, h3, h4⟩ := h
  refine ⟨h0, hn, v, hk.2 p _ h1 (by intro _ _ e; cases e) (by intro _ e; simp at e) (by intro _ e; simp at e), rs, h2, h3, ownsRow_keep h4 fun g hg => ?_⟩
  obtain ⟨_, cur, h5⟩ := ownsRow_block h4 hg
  rw [h5]
  exact hk.2 g _ h5 (by intro _ _ e; cases e) (by intro _ e; simp at e) (by intro _ e; simp at e)
theorem Rm.below {w w' : World} {B p : Nat} {L : List (Int × Int)} {last : Int} {n : Nat} (h : Rm w B p L last n) (hb : Below w.heap.size w w') : Rm w' B p L last n := h.keepF (KeepF.below hb)
theorem Rm.mono {w : World} {B p : Nat} {L : List (Int × Int)} {last : Int} {n n' : Nat} (h : Rm w B p L last n) (hn : n ≤ n') : Rm w B p L last n' := ⟨h.1, Nat.le_trans h.2.1 hn, h.2.2⟩
theorem OwnV.form {w : World} {B : Nat} {v : Value} {rs : List Rv} (h : OwnV w B v rs) : ∃ a c, v = .slice a rs.length c ∧ rs.length ≤ 9223372036854775807 ∧ ∀ i (hi : i < rs.length), ∃ g, a = some ⟨g, 0, none⟩ ∧ g < w.heap.size ∧
    w.cell? ⟨g, i * 3, none⟩ = some (.int .i64 rs[i].1.1) ∧ w.cell? ⟨g, i * 3 + 1, none⟩ = some (.int .i64 rs[i].1.2) ∧ w.cell? ⟨g, i * 3 + 2, none⟩ = some rs[i].2 := by
  have h' := h
  obtain ⟨h3, ⟨rfl, h4⟩ | ⟨g, cap, cur, rfl, _, h5, h6, h7, _⟩⟩ := h
  · have : rs = [] := List.eq_nil_of_length_eq_zero h4
    subst this
    exact ⟨none, 0, rfl, by decide, fun i hi => absurd hi (Nat.not_lt_zero _)⟩
  · refine ⟨some ⟨g, 0, none⟩, cap, rfl, by simp only [maxLen] at h7; omega, fun i hi => ?_⟩
    obtain ⟨f0, f1, f2⟩ := flatR_get rs i hi
    refine ⟨g, rfl, (Array.getElem?_eq_some_iff.1 h5).1, ?_, ?_, ?_⟩
    · rw [World.ownsRow.cellAt h' (i * 3) (by omega), f0]
    · rw [World.ownsRow.cellAt h' (i * 3 + 1) (by omega), f1]
    · rw [World.ownsRow.cellAt h' (i * 3 + 2) (by omega), f2]

/-- what Apply reads -/
def RaS (A p : Nat) (tm last : Int) (pv rv : Value) (w : World) : Prop :=
  w.cell? ⟨A, 0, none⟩ = some (.int .i64 tm) ∧ w.cell? ⟨A, 1, none⟩ = some pv ∧ w.cell? ⟨p, 0, none⟩ = some (.int .i64 30) ∧ w.cell? ⟨p, 1, none⟩ = some rv ∧ w.cell? ⟨p, 2, none⟩ = some (.int .i64 last)
theorem RaS.keep {A p : Nat} {tm last : Int} {pv rv : Value} {w w' : World} (h : RaS A p tm last pv rv w) (hb : Below w.heap.size w w') : RaS A p tm last pv rv w' :=
  ⟨cell_keep h.1 hb, cell_keep h.2.1 hb, cell_keep h.2.2.1 hb, cell_keep h.2.2.2.1 hb, cell_keep h.2.2.2.2 hb⟩

/-- where the loops of Apply stand: os was put out, the versions from i on and the puts from k on are left -/
def MgS (tm : Int) (L : List (Int × Int)) (ps : List Int) (i k : Nat) (os : List Rv) : Prop :=
  os.map (·.1) ++ mrg tm (L.drop i) (ps.drop k) = mrg tm L ps ∧ (∀ r ∈ os, IsSl r.2) ∧ (i = L.length + 1 → k = ps.length)
theorem MgS.start (tm : Int) (L : List (Int × Int)) (ps : List Int) : MgS tm L ps 0 0 [] := ⟨rfl, by simp, fun e => by omega⟩
theorem MgS.len {tm : Int} {L : List (Int × Int)} {ps : List Int} {i k : Nat} {os : List Rv} (h : MgS tm L ps i k os) : os.length ≤ L.length + ps.length := by
  have := congrArg List.length h.1
  rw [List.length_append, List.length_map, mrg_len tm _ _ _ rfl, mrg_len tm _ _ _ rfl] at this
  omega
theorem MgS.put {tm : Int} {L : List (Int × Int)} {ps : List Int} {i k : Nat} {os : List Rv} (h : MgS tm L ps i k os) (hi : i ≤ L.length) {p : Int} (hk : ps[k]? = some p) (hlt : ∀ x, L[i]? = some x → p < x.1) (d : Value) (hd : IsSl d) : MgS tm L ps i (k + 1) (os ++ [((p, tm), d)]) := by
  obtain ⟨h1, h2, h3⟩ := h
  refine ⟨?_, fun r hr => ?_, fun e => by omega⟩
  · obtain ⟨hkl, hkp⟩ := List.getElem?_eq_some_iff.1 hk
    rw [List.drop_eq_getElem_cons hkl, hkp] at h1
    have : mrg tm (L.drop i) (p :: ps.drop (k + 1)) = (p, tm) :: mrg tm (L.drop i) (ps.drop (k + 1)) := by
      rcases Nat.lt_or_ge i L.length with hil | hil
      · rw [List.drop_eq_getElem_cons hil]
        exact mrg_ins (hlt _ (List.getElem?_eq_getElem hil))
      · rw [List.drop_eq_nil_of_le hil, mrg_none, mrg_none]
        rfl
    rw [this] at h1
    rw [List.map_append, List.append_assoc]
    exact h1
  · rcases List.mem_append.1 hr with hr | hr
    · exact h2 r hr
    · obtain rfl : r = ((p, tm), d) := by simpa using hr
      exact hd
theorem MgS.old {tm : Int} {L : List (Int × Int)} {ps : List Int} {i k : Nat} {os : List Rv} (h : MgS tm L ps i k os) {x : Int × Int} (hi : L[i]? = some x) (hge : ∀ p, ps[k]? = some p → ¬ p < x.1) (d : Value) (hd : IsSl d) : MgS tm L ps (i + 1) k (os ++ [(x, d)]) := by
  obtain ⟨h1, h2, h3⟩ := h
  obtain ⟨hil, hix⟩ := List.getElem?_eq_some_iff.1 hi
  refine ⟨?_, fun r hr => ?_, fun e => by omega⟩
  · rw [List.drop_eq_getElem_cons hil, hix] at h1
    have : mrg tm (x :: L.drop (i + 1)) (ps.drop k) = x :: mrg tm (L.drop (i + 1)) (ps.drop k) := by
      rcases Nat.lt_or_ge k ps.length with hkl | hkl
      · rw [List.drop_eq_getElem_cons hkl]
        exact mrg_go (hge _ (List.getElem?_eq_getElem hkl))
      · rw [List.drop_eq_nil_of_le hkl, mrg_nil, mrg_nil]
    rw [this] at h1
    rw [List.map_append, List.append_assoc]
    exact h1
  · rcases List.mem_append.1 hr with hr | hr
    · exact h2 r hr
    · obtain rfl : r = (x, d) := by simpa using hr
      exact hd
theorem MgS.last {tm : Int} {L : List (Int × Int)} {ps : List Int} {k : Nat} {os : List Rv} (h : MgS tm L ps L.length k os) (hk : k = ps.length) : MgS tm L ps (L.length + 1) k os := by
  obtain ⟨h1, h2, _⟩ := h
  refine ⟨?_, h2, fun _ => hk⟩
  rw [List.drop_eq_nil_of_le (Nat.le_succ _)]
  rw [List.drop_eq_nil_of_le (Nat.le_refl _)] at h1
  exact h1
theorem MgS.done {tm : Int} {L : List (Int × Int)} {ps : List Int} {k : Nat} {os : List Rv} (h : MgS tm L ps (L.length + 1) k os) : os.map (·.1) = mrg tm L ps := by
  obtain ⟨h1, _, h3⟩ := h
  rw [h3 rfl, List.drop_eq_nil_of_le (Nat.le_succ _), List.drop_eq_nil_of_le (Nat.le_refl _), mrg_nil, List.append_nil] at h1
  exact h1
/-- all blocks but p stay -/
def KeepR (p : Nat) (w w' : World) : Prop := w.heap.size ≤ w'.heap.size ∧ ∀ g, g < w.heap.size → g ≠ p → w'.heap[g]? = w.heap[g]?
theorem KeepR.below {p : Nat} {a b : World} (h : Below a.heap.size a b) : KeepR p a b := ⟨h.size, fun g hg _ => h.block g hg⟩
theorem Rm.set {w0 w : World} {B p : Nat} {L L' : List (Int × Int)} {last : Int} {n n' : Nat} (h : Rm w0 B p L last n) (hb : Below w0.heap.size w0 w) (hB : B ≤ w0.heap.size) (t : Int) {v : Value} {rs : List Rv} (hv : OwnV w w0.heap.size v rs) (hrs : rs.map (·.1) = L') (h1 : ∀ r ∈ rs, IsSl r.2) (hn : L'.length ≤ n') :
    Rm ((w.setCell ⟨p, 1, none⟩ v).setCell ⟨p, 2, none⟩ (.int .i64 t)) B p L' t n' ∧ KeepR p w0 ((w.setCell ⟨p, 1, none⟩ v).setCell ⟨p, 2, none⟩ (.int .i64 t)) ∧ Below B w0 ((w.setCell ⟨p, 1, none⟩ v).setCell ⟨p, 2, none⟩ (.int .i64 t)) := by
  obtain ⟨h0, _, v0, hp0, _⟩ := h
  have hplt : p < w0.heap.size := (Array.getElem?_eq_some_iff.1 hp0).1
  have hp : w.heap[p]? = some (Obj.cells #[.int .i64 30, v0, .int .i64 last] 97 (0, 0)) := (hb.block p hplt).trans hp0
  have hoth : ∀ g, g ≠ p → ((w.setCell ⟨p, 1, none⟩ v).setCell ⟨p, 2, none⟩ (.int .i64 t)).heap[g]? = w.heap[g]? := fun g hg => by
    rw [heap_setCell_other _ ⟨p, 2, none⟩ g _ hg, heap_setCell_other _ ⟨p, 1, none⟩ g _ hg]
  refine ⟨⟨h0, hn, v, ?_, rs, hrs, h1, ?_⟩, ⟨?_, fun g hg hgp => (hoth g hgp).trans (hb.block g hg)⟩, ?_⟩
  · have a1 : (w.setCell ⟨p, 1, none⟩ v).heap[p]? = some (Obj.cells #[.int .i64 30, v, .int .i64 last] 97 (0, 0)) := by
      show (w.heap.modify p _)[p]? = _
      rw [Array.getElem?_modify, if_pos rfl, hp]
      rfl
    show ((w.setCell ⟨p, 1, none⟩ v).heap.modify p _)[p]? = _
    rw [Array.getElem?_modify, if_pos rfl, a1]
    rfl
  · have h2 : OwnV w B v rs := ownsRow_mono hv hB
    refine ownsRow_keep h2 fun g hg => hoth g (fun e => ?_)
    have := (ownsRow_block hv hg).1
    omega
  · exact (((hb.mono hB).setCell h0 _).setCell h0 _).size
  · exact ((hb.mono hB).setCell h0 _).setCell h0 _
theorem Mp.keepR {w w' : World} {B q p : Nat} {V : Int → List Int} {last : Int} {n : Nat} (h : Mp w B q V last n) (hk : KeepR p w w') (hp : ∃ cs, w.heap[p]? = some (Obj.cells cs 97 (0, 0))) : Mp w' B q V last n := by
  have K : ∀ (g : Nat) (o : Obj), w.heap[g]? = some o → (∀ cur, o ≠ Obj.cells cur 97 (0, 0)) → w'.heap[g]? = some o := fun g o hg hne => by
    rw [hk.2 g (Array.getElem?_eq_some_iff.1 hg).1 (fun e => ?_)]
    · exact hg
    · obtain ⟨cs, hc⟩ := hp
      rw [e, hc] at hg
      exact hne cs (Option.some.inj hg).symm
  have kb : KeepB w w' := fun g cur hg => K g _ hg (by intro c h; simp at h)
  obtain ⟨h00, b, hq, h0, es, clock, h1, h2, h3, h4, h5⟩ := h
  refine ⟨h00, b, K q _ hq (by intro c h; simp at h), h0, es, clock, K b _ h1 (by intro c h; cases h), h2, h3, fun x hx => ?_, h5⟩
  obtain ⟨k, q1, q2, q3, q4, q5⟩ := h4 x hx
  refine ⟨k, q1, q2, q3, q4, q5.keep (fun g hg => ?_) kb⟩
  obtain ⟨_, cur, q6⟩ := q5.block hg
  rw [q6, K g _ q6 (by intro c h; simp at h)]
end Go.Proofs.Ytkpnjehgbehhcaa
