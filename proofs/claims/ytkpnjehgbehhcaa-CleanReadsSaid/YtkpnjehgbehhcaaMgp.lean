/- The reference's versions: puts merged in; the versions of a map one after another; what Apply leaves. Plain. -/
import Derived.Test.YtkpnjehgbehhcaaAp5
namespace Go.Proofs.Ytkpnjehgbehhcaa
open Go.RowKit

/-- puts into versions, each behind those of its LBA -/
def mrg (tm : Int) : List (Int × Int) → List Int → List (Int × Int)
  | [], ps => ps.map fun p => (p, tm)
  | x :: L, [] => x :: L
  | x :: L, p :: ps => if p < x.1 then (p, tm) :: mrg tm (x :: L) ps else x :: mrg tm L (p :: ps)
termination_by L ps => L.length + ps.length

theorem mrg_nil (tm : Int) (L : List (Int × Int)) : mrg tm L [] = L := by cases L <;> simp [mrg]
theorem mrg_none (tm : Int) (ps : List Int) : mrg tm [] ps = ps.map fun p => (p, tm) := by simp [mrg]
theorem mrg_ins {tm : Int} {x : Int × Int} {L : List (Int × Int)} {p : Int} {ps : List Int} (h : p < x.1) : mrg tm (x :: L) (p :: ps) = (p, tm) :: mrg tm (x :: L) ps := by
  rw [mrg, if_pos h]
theorem mrg_go {tm : Int} {x : Int × Int} {L : List (Int × Int)} {p : Int} {ps : List Int} (h : ¬ p < x.1) : mrg tm (x :: L) (p :: ps) = x :: mrg tm L (p :: ps) := by
  rw [mrg, if_neg h]
theorem mrg_len (tm : Int) : ∀ (n : Nat) (L : List (Int × Int)) (ps : List Int), L.length + ps.length = n → (mrg tm L ps).length = L.length + ps.length := by
  intro n
  induction n with
  | zero =>
    intro L ps h
    have h1 : L = [] := List.eq_nil_of_length_eq_zero (by omega)
    have h2 : ps = [] := List.eq_nil_of_length_eq_zero (by omega)
    subst h1 h2
    simp [mrg]
  | succ n ih =>
    intro L ps h
    match L, ps with
    | [], ps => rw [mrg_none]; simp
    | x :: L, [] => rw [mrg_nil]; simp
    | x :: L, p :: ps =>
      by_cases hp : p < x.1
      · rw [mrg_ins hp, List.length_cons, ih (x :: L) ps (by simp at h ⊢; omega)]
        simp; omega
      · rw [mrg_go hp, List.length_cons, ih L (p :: ps) (by simp at h ⊢; omega)]
        simp; omega
theorem mrg_seg {tm : Int} {R : List (Int × Int)} {ps : List Int} : ∀ {X : List (Int × Int)}, (∀ x ∈ X, ∀ p ∈ ps, x.1 ≤ p) → mrg tm (X ++ R) ps = X ++ mrg tm R ps := by
  intro X
  induction X with
  | nil => intro _; rfl
  | cons x X ih =>
    intro h
    cases ps with
    | nil => rw [mrg_nil, mrg_nil]
    | cons p ps =>
      have h1 := h x (by simp) p (by simp)
      rw [List.cons_append, mrg_go (by omega), ih (fun y hy => h y (by simp [hy]))]
      rfl
theorem mrg_head {tm : Int} {R : List (Int × Int)} {p : Int} {ps : List Int} (h : ∀ x ∈ R, p < x.1) : mrg tm R (p :: ps) = (p, tm) :: mrg tm R ps := by
  cases R with
  | nil => simp [mrg]
  | cons x R => exact mrg_ins (h x (by simp))

/-- the versions at the LBAs from a on, one after another -/
def segs (V : Int → List Int) : Nat → Nat → List (Int × Int)
  | _, 0 => []
  | a, n + 1 => (V a).map (fun t => ((a : Int), t)) ++ segs V (a + 1) n
theorem segs_ge {V : Int → List Int} : ∀ {n a : Nat} {x : Int × Int}, x ∈ segs V a n → (a : Int) ≤ x.1 := by
  intro n
  induction n with
  | zero => intro a x h; simp [segs] at h
  | succ n ih =>
    intro a x h
    rw [segs, List.mem_append] at h
    rcases h with h | h
    · obtain ⟨t, _, rfl⟩ := List.mem_map.1 h
      exact Int.le_refl _
    · have := ih h
      omega
theorem segs_congr {V V' : Int → List Int} : ∀ {n a : Nat}, (∀ j : Nat, a ≤ j → j < a + n → V j = V' j) → segs V a n = segs V' a n := by
  intro n
  induction n with
  | zero => intro a _; rfl
  | succ n ih =>
    intro a h
    rw [segs, segs, h a (by omega) (by omega), ih (fun j h1 h2 => h j (by omega) (by omega))]

theorem mrg_segs {tm : Int} {V : Int → List Int} : ∀ (n a : Nat) (ps : List Int), ps.Pairwise (· < ·) → (∀ p ∈ ps, (a : Int) ≤ p ∧ p < a + n) → mrg tm (segs V a n) ps = segs (fun j => if j ∈ ps then V j ++ [tm] else V j) a n := by
  intro n
  induction n with
  | zero =>
    intro a ps _ h
    cases ps with
    | nil => rw [mrg_nil]; rfl
    | cons p ps => have := h p (by simp); omega
  | succ n ih =>
    intro a ps hp h
    rw [segs, segs, mrg_seg (fun x hx p hp => by
      obtain ⟨t, _, rfl⟩ := List.mem_map.1 hx
      exact (h p hp).1)]
    cases ps with
    | nil =>
      rw [mrg_nil]
      simp only [List.not_mem_nil, if_false]
    | cons p ps =>
      obtain ⟨hp1, hp2⟩ := List.pairwise_cons.1 hp
      by_cases e : p = a
      · subst e
        rw [mrg_head (fun x hx => by have := segs_ge hx; omega), ih (a + 1) ps hp2 (fun q hq => by have := hp1 q hq; have := h q (by simp [hq]); omega)]
        rw [if_pos (by simp), List.map_append, List.append_assoc]
        congr 1
        rw [List.map_singleton, List.singleton_append]
        congr 1
        refine segs_congr fun j h1 _ => ?_
        have : ((j : Int) ∈ (a : Int) :: ps) ↔ (j : Int) ∈ ps := by
          rw [List.mem_cons]
          constructor
          · rintro (h | h)
            · omega
            · exact h
          · exact .inr
        simp only [this]
      · have hpa := h p (by simp)
        have hge : ∀ q ∈ p :: ps, ((a + 1 : Nat) : Int) ≤ q := fun q hq => by
          rcases List.mem_cons.1 hq with rfl | hq
          · omega
          · have := hp1 q hq; omega
        rw [ih (a + 1) (p :: ps) hp (fun q hq => by have := hge q hq; have := h q hq; omega), if_neg (fun hm => by have := hge _ hm; omega)]

/-- the LBAs of puts -/
def lbs (l : List Pt) : List Int := l.map (·.1)
theorem lbs_get {l : List Pt} {k : Nat} (hk : k < l.length) : (lbs l)[k]? = some (l.getD k (0, 0)).1 := by
  unfold lbs
  rw [List.getElem?_map, List.getElem?_eq_getElem hk, List.getD_eq_getElem?_getD, List.getElem?_eq_getElem hk]
  rfl
theorem rise_lt {l : List Pt} (h : riseP l = true) : ∀ d k, k + (d + 1) < l.length → (l.getD k (0, 0)).1 < (l.getD (k + (d + 1)) (0, 0)).1 := by
  intro d k hk
  have h1 := rise_mono h d k (by omega)
  have h2 := rise_step h (k + d) (by omega)
  rw [show k + (d + 1) = k + d + 1 by omega]
  omega
theorem lbs_rise {l : List Pt} (h : riseP l = true) : (lbs l).Pairwise (· < ·) := by
  rw [List.pairwise_iff_getElem]
  intro i j hi hj hij
  have hl : (lbs l).length = l.length := by simp [lbs]
  have e1 := lbs_get (l := l) (k := i) (by omega)
  have e2 := lbs_get (l := l) (k := j) (by omega)
  rw [List.getElem?_eq_getElem (by omega)] at e1 e2
  rw [Option.some.inj e1, Option.some.inj e2]
  have := rise_lt h (j - i - 1) i (by omega)
  rwa [show i + (j - i - 1 + 1) = j by omega] at this
theorem addN_eq {V : Int → List Int} {l : List Pt} {tm : Int} (h : riseP l = true) : ∀ k, k ≤ l.length → ∀ j, addN V l tm k j = if j ∈ (lbs l).take k then V j ++ [tm] else V j := by
  intro k
  induction k with
  | zero => intro _ j; simp [addN]
  | succ k ih =>
    intro hk j
    have e1 := lbs_get (l := l) (k := k) (by omega)
    have hnot : (l.getD k (0, 0)).1 ∉ (lbs l).take k := fun hm => by
      obtain ⟨i, hi, e⟩ := List.getElem_of_mem hm
      rw [List.length_take] at hi
      rw [List.getElem_take] at e
      have e2 := lbs_get (l := l) (k := i) (by omega)
      rw [List.getElem?_eq_getElem (by simp [lbs]; omega)] at e2
      have e3 := (Option.some.inj e2).symm.trans e
      have := rise_lt h (k - i - 1) i (by omega)
      rw [show i + (k - i - 1 + 1) = k by omega] at this
      omega
    rw [addN, List.take_add_one, e1]
    unfold upd
    rw [ih (by omega) (l.getD k (0, 0)).1, if_neg hnot]
    by_cases e : j = (l.getD k (0, 0)).1
    · rw [if_pos e, if_pos (by simp [e]), e]
    · rw [if_neg e, ih (by omega) j]
      have : (j ∈ (lbs l).take k ++ (some (l.getD k (0, 0)).1).toList) ↔ j ∈ (lbs l).take k := by
        rw [List.mem_append, Option.toList_some, List.mem_singleton]
        exact or_iff_left e
      simp only [this]

theorem ok_rise {last tm : Int} {l : List Pt} (h : okA last tm l = true) : riseP l = true ∧ last < tm ∧ tm ≤ 1099511627776 := by
  unfold okA at h
  simp only [Bool.and_eq_true, decide_eq_true_eq] at h
  exact ⟨h.1.1.1.2, h.1.1.1.1.1, h.1.1.1.1.2⟩
theorem ok_lbs {last tm : Int} {l : List Pt} (h : okA last tm l = true) : ∀ p ∈ lbs l, (0 : Int) ≤ p ∧ p < 30 := fun p hp => by
  obtain ⟨i, hi, rfl⟩ := List.getElem_of_mem hp
  have hil : i < l.length := by simpa [lbs] using hi
  have e := lbs_get hil
  rw [List.getElem?_eq_getElem hi] at e
  rw [Option.some.inj e]
  exact (okA_in h).1 i hil
theorem ok_short {last tm : Int} {l : List Pt} (h : okA last tm l = true) : l.length ≤ 30 := by
  have hr := (ok_rise h).1
  have h1 : ∀ k, k < l.length → (k : Int) ≤ (l.getD k (0, 0)).1 := by
    intro k
    induction k with
    | zero => intro hk; exact ((okA_in h).1 0 hk).1
    | succ k ih =>
      intro hk
      have := ih (by omega)
      have := rise_step hr k hk
      omega
  rcases Nat.lt_or_ge 30 l.length with h2 | h2
  · have := h1 30 h2
    have := ((okA_in h).1 30 h2).2
    omega
  · exact h2

/-- what Apply of the reference leaves -/
def apR (last tm : Int) (l : List Pt) (L : List (Int × Int)) : List (Int × Int) := if okA last tm l = true then mrg tm L (lbs l) else L
theorem apV_of {last tm : Int} {l : List Pt} {V : Int → List Int} (h : okA last tm l = true) (j : Int) : apV last tm l V j = if j ∈ lbs l then V j ++ [tm] else V j := by
  unfold apV
  rw [if_pos h, addN_eq (ok_rise h).1 l.length (Nat.le_refl _), List.take_of_length_le (by simp [lbs])]
theorem apR_segs {last tm : Int} {l : List Pt} {V : Int → List Int} : apR last tm l (segs V 0 30) = segs (apV last tm l V) 0 30 := by
  unfold apR
  by_cases h : okA last tm l = true
  · rw [if_pos h, mrg_segs 30 0 (lbs l) (lbs_rise (ok_rise h).1) (fun p hp => by have := ok_lbs h p hp; omega)]
    exact segs_congr fun j _ _ => (apV_of h _).symm
  · rw [if_neg h]
    unfold apV
    rw [if_neg h]

/-- versions as they are in a map: they rise, behind 0 up to the last, at LBAs from 0 to 29 -/
def Vok (V : Int → List Int) (last : Int) : Prop := 0 ≤ last ∧ last ≤ 1099511627776 ∧ (∀ j, (V j).Pairwise (· < ·) ∧ ∀ t ∈ V j, 0 < t ∧ t ≤ last) ∧ ∀ j, V j ≠ [] → 0 ≤ j ∧ j < 30
theorem Vok.start : Vok (fun _ => []) 0 := ⟨by decide, by decide, fun _ => ⟨List.Pairwise.nil, by simp⟩, by simp⟩
theorem Vok.app {V : Int → List Int} {last : Int} (h : Vok V last) (tm : Int) (l : List Pt) : Vok (apV last tm l V) (apL last tm l) := by
  by_cases ho : okA last tm l = true
  · obtain ⟨_, h1, h2⟩ := ok_rise ho
    have e : apL last tm l = tm := if_pos ho
    rw [e]
    refine ⟨by have := h.1; omega, h2, fun j => ?_, fun j hj => ?_⟩
    · rw [apV_of ho]
      obtain ⟨q1, q2⟩ := h.2.2.1 j
      split
      · refine ⟨List.pairwise_append.2 ⟨q1, List.pairwise_singleton _ _, fun a ha b hb => ?_⟩, fun t ht => ?_⟩
        · have := q2 a ha
          obtain rfl : b = tm := by simpa using hb
          omega
        · rcases List.mem_append.1 ht with ht | ht
          · have := q2 t ht; omega
          · obtain rfl : t = tm := by simpa using ht
            have := h.1; omega
      · exact ⟨q1, fun t ht => by have := q2 t ht; omega⟩
    · rw [apV_of ho] at hj
      split at hj
      · rename_i hm; exact ok_lbs ho j hm
      · exact h.2.2.2 j hj
  · have e1 : apL last tm l = last := if_neg ho
    have e2 : apV last tm l V = V := by unfold apV; rw [if_neg ho]
    rw [e1, e2]
    exact h

/-- a map and its greatest time behind the first k transactions -/
def stV (T : List Tx) : Nat → (Int → List Int) × Int
  | 0 => (fun _ => [], 0)
  | k + 1 => (apV (stV T k).2 (T.getD k (0, [])).1 (T.getD k (0, [])).2 (stV T k).1, apL (stV T k).2 (T.getD k (0, [])).1 (T.getD k (0, [])).2)
theorem stV_ok (T : List Tx) : ∀ k, Vok (stV T k).1 (stV T k).2
  | 0 => Vok.start
  | k + 1 => (stV_ok T k).app _ _
theorem app_any2 {B p : Nat} {V : Int → List Int} {last : Int} {n : Nat} (tm : Int) (a : Option Addr) (cap : Nat) (l : List Pt) (w : World) (h : Mp w B p V last n) (hl : ∀ w', Hid (Below B w w') → SlP w' (.slice a l.length cap) l) (hB : B ≤ w.heap.size)
    (hnn : n + 30 < 1000000) :
    Calls Try.prog 28 #[.pointer (some ⟨p, 0, none⟩), .agg #[.int .i64 tm, .slice a l.length cap]] w fun e w' => (∃ r, e = .returned (.int .i64 r)) ∧ Mp w' B p (apV last tm l V) (apL last tm l) (n + 30) ∧ KeepF w w' ∧ Below B w w' := by
  by_cases ho : okA last tm l = true
  · have hs := ok_short ho
    exact (app_any tm a cap l w h hl hB (by omega)).mono fun e w' ⟨q1, q2, q3⟩ => ⟨q1, q2.mono (by omega), q3⟩
  · have hf : okA last tm l = false := by simpa using ho
    have e1 : apV last tm l V = V := by unfold apV; rw [if_neg ho]
    have e2 : apL last tm l = last := if_neg ho
    rw [e1, e2]
    exact (app_no tm a cap l w h (hl w (Below.refl _ _)) hf).mono fun e w' ⟨q1, q2⟩ => ⟨q1, (h.below q2).mono (by omega), KeepF.below q2, q2.mono hB⟩
end Go.Proofs.Ytkpnjehgbehhcaa
