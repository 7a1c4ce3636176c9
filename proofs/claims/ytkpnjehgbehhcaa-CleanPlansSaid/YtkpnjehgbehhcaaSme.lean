/- The compensated sum at the edges: NaN, infinities, -0, and no running over for numbers up to 1e300. -/
import Derived.Test.YtkpnjehgbehhcaaSm
namespace Fl

def ninfW : Nat := 18442240474082181120
theorem ninf_is : isInf ninfW = true ∧ sg ninfW = true := by decide

def bigE : Nat := 2071
/-- 2^997 -/
def bigB : Rat := 2 ^ (997 : Int)
theorem bigB_pos : 0 < bigB := zpow_pos' _
theorem rep_big (k : Nat) (h : k ≤ 67108864) : Rep ((k : Rat) * bigB) := by
  have h1 := rep_grid k bigE (by omega) (by
    have e : 2^52 * 2^topE = 2^27 * 2^bigE := by
      rw [← Nat.pow_add, ← Nat.pow_add, show 52 + topE = 27 + bigE from rfl]
    rw [e]
    exact Nat.mul_lt_mul_of_pos_right (by omega) (Nat.two_pow_pos _))
  rwa [show (((bigE : Nat) : Int) - 1074) = 997 from by decide] at h1
theorem ab_between {q b : Rat} (h : ab q ≤ b) : -b ≤ q ∧ q ≤ b := by unfold ab at h; grind
theorem ab_of_between {q b : Rat} (h1 : -b ≤ q) (h2 : q ≤ b) : ab q ≤ b := by unfold ab; grind

/-- a rounded number stays within a bound that the format has -/
theorem RN.big {q : Rat} {z k : Nat} (h : RN q z) (hk : k ≤ 67108864) (hq : ab q ≤ (k : Rat) * bigB) : fin z ∧ ab (rv z) ≤ (k : Rat) * bigB := by
  obtain ⟨h1, h2⟩ := ab_between hq
  obtain ⟨a, b, c⟩ := h.between (rep_big k hk).neg (rep_big k hk) h1 h2
  exact ⟨a, ab_of_between b c⟩

theorem ab_add_le {p q a b : Rat} (h1 : ab p ≤ a) (h2 : ab q ≤ b) : ab (p + q) ≤ a + b := by unfold ab at *; grind
theorem ab_sub_le {p q a b : Rat} (h1 : ab p ≤ a) (h2 : ab q ≤ b) : ab (p - q) ≤ a + b := by unfold ab at *; grind
theorem natB (m n : Nat) : ((m + n : Nat) : Rat) * bigB = (m : Rat) * bigB + (n : Rat) * bigB := by rw [Rat.natCast_add, Rat.add_mul]

/-! infinities in a sum -/
theorem fin_read {x : Nat} (h : fin x) : ∃ m i, D.read x = .number (sg x) m i := by
  obtain ⟨m, i, h1, _⟩ := read_fin h; exact ⟨m, i, h1⟩
theorem write_inf (s : Bool) : D.write (.infinity s) = if s then ninfW else infW := by cases s <;> decide
theorem add_inf_fin {x : Nat} (h : fin x) (s : Bool) : fadd (if s then ninfW else infW) x = (if s then ninfW else infW) := by
  obtain ⟨m, i, hr⟩ := fin_read h
  have hi : D.read (if s then ninfW else infW) = .infinity s := by
    cases s
    · have := read_inf inf_is.1; rwa [inf_is.2] at this
    · have := read_inf ninf_is.1; rwa [ninf_is.2] at this
  unfold fadd Ieee.Format.add
  rw [hi, hr]
  simp only [Ieee.Datum.sum, Option.map_some, Option.getD_some]
  exact write_inf s
theorem add_fin_inf {x : Nat} (h : fin x) (s : Bool) : fadd x (if s then ninfW else infW) = (if s then ninfW else infW) := by
  obtain ⟨m, i, hr⟩ := fin_read h
  have hi : D.read (if s then ninfW else infW) = .infinity s := by
    cases s
    · have := read_inf inf_is.1; rwa [inf_is.2] at this
    · have := read_inf ninf_is.1; rwa [ninf_is.2] at this
  unfold fadd Ieee.Format.add
  rw [hi, hr]
  simp only [Ieee.Datum.sum, Option.map_some, Option.getD_some]
  exact write_inf s
theorem nan_fadd_l {x : Nat} (y : Nat) (h : isNaN x = true) : fadd x y = cN := by unfold fadd; rw [nan_add_l y h]; rfl
theorem nan_fadd_r {y : Nat} (x : Nat) (h : isNaN y = true) : fadd x y = cN := by unfold fadd; rw [nan_add_r x h]; rfl
theorem nan_fsub_l {x : Nat} (y : Nat) (h : isNaN x = true) : fsub x y = cN := by unfold fsub; rw [nan_sub_l y h]; rfl
theorem nan_fsub_r {y : Nat} (x : Nat) (h : isNaN y = true) : fsub x y = cN := by unfold fsub; rw [nan_sub_r x h]; rfl
theorem isNaN_fadd_l {x : Nat} (y : Nat) (h : isNaN x = true) : isNaN (fadd x y) = true := by rw [nan_fadd_l y h]; exact cN_nan
theorem isNaN_fadd_r {y : Nat} (x : Nat) (h : isNaN y = true) : isNaN (fadd x y) = true := by rw [nan_fadd_r x h]; exact cN_nan

/-- a NaN stays -/
theorem foldS_nan (l : List Nat) (h : ∃ x ∈ l, isNaN x = true) : isNaN (foldS l).1 = true := by
  induction hn : l.length generalizing l with
  | zero => have : l = [] := List.eq_nil_of_length_eq_zero hn
            subst this; obtain ⟨x, hx, _⟩ := h; simp at hx
  | succ n ih =>
    rcases snoc_cases l with rfl | ⟨l', x, rfl⟩
    · simp at hn
    · rw [foldS_snoc]
      unfold sstep
      simp only
      obtain ⟨y, hy, hyn⟩ := h
      rcases List.mem_append.1 hy with h' | h'
      · exact isNaN_fadd_l _ (ih l' ⟨y, h', hyn⟩ (by simpa using hn))
      · have : y = x := by simpa using h'
        subst this
        exact isNaN_fadd_r _ hyn

theorem inf_minus_inf (s : Bool) : fsub (if s then ninfW else infW) (if s then ninfW else infW) = cN := by cases s <;> decide
theorem inf_plus_inf (s : Bool) : fadd (if s then ninfW else infW) (if s then ninfW else infW) = (if s then ninfW else infW) := by cases s <;> decide
theorem inf_other1 : fadd infW ninfW = cN := by decide
theorem inf_other2 : fadd ninfW infW = cN := by decide

theorem fge_fin_inf {x : Nat} (h : fin x) (s : Bool) : fge (rung x) (rung (if s then ninfW else infW)) = false := by
  obtain ⟨m, i, hr⟩ := fin_read (fin_rung h)
  have hi : D.read (rung (if s then ninfW else infW)) = .infinity false := by cases s <;> decide
  unfold fge Ieee.Format.order
  rw [hi, hr]; rfl
theorem fge_inf_fin {x : Nat} (h : fin x) (s : Bool) : fge (rung (if s then ninfW else infW)) (rung x) = true := by
  obtain ⟨m, i, hr⟩ := fin_read (fin_rung h)
  have hi : D.read (rung (if s then ninfW else infW)) = .infinity false := by cases s <;> decide
  unfold fge Ieee.Format.order
  rw [hi, hr]; rfl

/-- what an element may be here -/
def tame (x : Nat) : Prop := (fin x ∧ ab (rv x) ≤ bigB) ∨ x = infW ∨ x = ninfW

structure Edge (l : List Nat) (s c : Nat) : Prop where
  none : infW ∉ l → ninfW ∉ l → fin s ∧ ab (rv s) ≤ (l.length : Rat) * bigB ∧ fin c ∧ ab (rv c) ≤ ((l.length * (l.length + 1) : Nat) : Rat) * bigB
  up : infW ∈ l → ninfW ∉ l → s = infW ∧ isNaN c = true
  down : infW ∉ l → ninfW ∈ l → s = ninfW ∧ isNaN c = true
  both : infW ∈ l → ninfW ∈ l → isNaN s = true

theorem one_inf (s : Bool) {x : Nat} (hx : (fin x) ∨ x = (if s then ninfW else infW)) (c : Nat) (hc : isNaN c = true) :
    (sstep ((if s then ninfW else infW), c) x).1 = (if s then ninfW else infW) ∧ isNaN (sstep ((if s then ninfW else infW), c) x).2 = true := by
  have e : fadd (if s then ninfW else infW) x = (if s then ninfW else infW) := by
    rcases hx with h | h
    · exact add_inf_fin h s
    · rw [h]; exact inf_plus_inf s
  generalize (if s then ninfW else infW) = W at *
  unfold sstep
  simp only
  refine ⟨e, ?_⟩
  split <;> exact isNaN_fadd_l _ hc

theorem first_inf (s : Bool) (a c : Nat) (ha : fin a) :
    (sstep (a, c) (if s then ninfW else infW)).1 = (if s then ninfW else infW) ∧ isNaN (sstep (a, c) (if s then ninfW else infW)).2 = true := by
  unfold sstep
  simp only
  rw [add_fin_inf ha s, fge_fin_inf ha s, inf_minus_inf]
  refine ⟨rfl, ?_⟩
  simp only [Bool.false_eq_true, if_false]
  exact isNaN_fadd_r _ (isNaN_fadd_l _ cN_nan)

theorem fin_not_infW {x : Nat} (h : fin x) : x ≠ infW ∧ x ≠ ninfW := by
  constructor
  · intro e; subst e; have := fin_not_inf h; rw [inf_is.1] at this; cases this
  · intro e; subst e; have := fin_not_inf h; rw [ninf_is.1] at this; cases this

theorem foldS_edges (l : List Nat) (hl : l.length ≤ 300) (h : ∀ x ∈ l, tame x) : Edge l (foldS l).1 (foldS l).2 := by
  induction hn : l.length generalizing l with
  | zero =>
    have : l = [] := List.eq_nil_of_length_eq_zero hn
    subst this
    have hz : ab (rv 0) ≤ 0 := by rw [zero_fin.2]; unfold ab; grind
    refine ⟨fun _ _ => ⟨zero_fin.1, ?_, zero_fin.1, ?_⟩, fun h _ => by simp at h, fun _ h => by simp at h, fun h _ => by simp at h⟩
    · show ab (rv 0) ≤ ((0 : Nat) : Rat) * bigB
      rw [show ((0 : Nat) : Rat) = 0 from rfl, Rat.zero_mul]; exact hz
    · show ab (rv 0) ≤ ((0 : Nat) : Rat) * bigB
      rw [show ((0 : Nat) : Rat) = 0 from rfl, Rat.zero_mul]; exact hz
  | succ n ih =>
    rcases snoc_cases l with rfl | ⟨l', x, rfl⟩
    · simp at hn
    · have hl' : l'.length = n := by simpa using hn
      have hx := h x (by simp)
      have E := ih l' (by omega) (fun y hy => h y (by simp [hy])) hl'
      have hlen : (l' ++ [x]).length = n + 1 := hn
      have mem : ∀ y, y ∈ l' ++ [x] ↔ y ∈ l' ∨ y = x := fun y => by simp
      rw [foldS_snoc]
      generalize foldS l' = st at *
      obtain ⟨s, c⟩ := st
      simp only at E
      obtain ⟨E1, E2, E3, E4⟩ := E
      rw [hl'] at E1
      refine ⟨?_, ?_, ?_, ?_⟩
      · intro h1 h2
        rw [mem] at h1 h2
        simp only [not_or] at h1 h2
        obtain ⟨a1, a2, a3, a4⟩ := E1 h1.1 h2.1
        have hx' : fin x ∧ ab (rv x) ≤ bigB := by
          rcases hx with h | h | h
          · exact h
          · exact absurd h.symm h1.2
          · exact absurd h.symm h2.2
        obtain ⟨x1, x2⟩ := hx'
        have one : (((1 : Nat) : Rat)) * bigB = bigB := by rw [show ((1 : Nat) : Rat) = 1 from rfl, Rat.one_mul]
        have xb : ab (rv x) ≤ ((1 : Nat) : Rat) * bigB := by rw [one]; exact x2
        obtain ⟨t1, t2⟩ := (fadd_rn a1 x1).big (k := n + 1) (by omega) (by rw [natB]; exact ab_add_le a2 xb)
        rw [hlen]
        unfold sstep
        simp only
        generalize fadd s x = t at *
        refine ⟨t1, t2, ?_⟩
        have hk : n * (n + 1) ≤ 300 * 301 := Nat.mul_le_mul (by omega) (by omega)
        have ek : n * (n + 1) + (2 * n + 2) = (n + 1) * (n + 1 + 1) := by rw [Nat.add_mul, Nat.mul_add, Nat.mul_add, Nat.mul_add]; omega
        have key : ∀ d, fin d → ab (rv d) ≤ ((2 * n + 2 : Nat) : Rat) * bigB → fin (fadd c d) ∧ ab (rv (fadd c d)) ≤ (((n + 1) * (n + 1 + 1) : Nat) : Rat) * bigB := by
          intro d d1 d2
          refine (fadd_rn a3 d1).big (by omega) ?_
          rw [← ek, natB]
          exact ab_add_le a4 d2
        split
        · obtain ⟨u1, u2⟩ := (fsub_rn a1 t1).big (k := n + (n + 1)) (by omega) (by rw [natB]; exact ab_sub_le a2 t2)
          obtain ⟨v1, v2⟩ := (fadd_rn u1 x1).big (k := n + (n + 1) + 1) (by omega) (by rw [natB]; exact ab_add_le u2 xb)
          exact key _ v1 (by rw [show 2 * n + 2 = n + (n + 1) + 1 by omega]; exact v2)
        · obtain ⟨u1, u2⟩ := (fsub_rn x1 t1).big (k := 1 + (n + 1)) (by omega) (by rw [natB]; exact ab_sub_le xb t2)
          obtain ⟨v1, v2⟩ := (fadd_rn u1 a1).big (k := 1 + (n + 1) + n) (by omega) (by rw [natB]; exact ab_add_le u2 a2)
          exact key _ v1 (by rw [show 2 * n + 2 = 1 + (n + 1) + n by omega]; exact v2)
      · intro h1 h2
        rw [mem] at h1 h2
        simp only [not_or] at h2
        by_cases hin : infW ∈ l'
        · obtain ⟨rfl, hc⟩ := E2 hin h2.1
          have := one_inf false (x := x) (by
            rcases hx with h | h | h
            · exact .inl h.1
            · exact .inr h
            · exact absurd h.symm h2.2) c hc
          simpa using this
        · have hx' : x = infW := by
            rcases h1 with h | h
            · exact absurd h hin
            · exact h.symm
          subst hx'
          have := first_inf false s c (E1 hin h2.1).1
          simpa using this
      · intro h1 h2
        rw [mem] at h1 h2
        simp only [not_or] at h1
        by_cases hin : ninfW ∈ l'
        · obtain ⟨rfl, hc⟩ := E3 h1.1 hin
          have := one_inf true (x := x) (by
            rcases hx with h | h | h
            · exact .inl h.1
            · exact absurd h.symm h1.2
            · exact .inr h) c hc
          simpa using this
        · have hx' : x = ninfW := by
            rcases h2 with h | h
            · exact absurd h hin
            · exact h.symm
          subst hx'
          have := first_inf true s c (E1 h1.1 hin).1
          simpa using this
      · intro h1 h2
        rw [mem] at h1 h2
        unfold sstep
        simp only
        by_cases hu : infW ∈ l'
        · by_cases hd : ninfW ∈ l'
          · exact isNaN_fadd_l _ (E4 hu hd)
          · have hx' : x = ninfW := by
              rcases h2 with h | h
              · exact absurd h hd
              · exact h.symm
            subst hx'
            rw [(E2 hu hd).1, inf_other1]; exact cN_nan
        · have hx' : infW = x := by
            rcases h1 with h | h
            · exact absurd h hu
            · exact h
          have hd : ninfW ∈ l' := by
            rcases h2 with h | h
            · exact h
            · rw [← hx'] at h; exact absurd h (show ninfW ≠ infW by decide)
          subst hx'
          rw [(E3 hu hd).1, inf_other2]; exact cN_nan

/-! ## the law's tests -/
def w1e300 : Nat := 9094988921128908188
def nw1e300 : Nat := 18318360957983683996
/-- a finite number that is too great -/
def isGreat (x : Nat) : Bool := feq (fsub x x) 0 && (fgt x w1e300 || flt x nw1e300)

def expE : Nat := 2019
theorem w1e300_bound : fin w1e300 ∧ fin nw1e300 ∧ rv w1e300 ≤ bigB ∧ -bigB ≤ rv nw1e300 := by
  have hB : VR (2020 * 2^52) = bigB := by
    unfold VR bigB U
    have e : expE = 2019 := rfl
    have h := V_eq expE (2^52) (by omega) (by omega)
    rw [show 2020 * 2^52 = expE * 2^52 + 2^52 from by rw [e], h, ← Nat.pow_add, natPow, ← zpow_add', show ((52 + expE : Nat) : Int) + -1074 = 997 from by rw [e]; rfl]
  have h1 : VR (rung w1e300) ≤ bigB := by rw [← hB]; exact VR_le (by decide)
  have h2 : rung nw1e300 = rung w1e300 := by decide
  refine ⟨by decide, by decide, ?_, ?_⟩
  · unfold rv; rw [show sg w1e300 = false from by decide]; unfold sv; simp; exact h1
  · unfold rv; rw [show sg nw1e300 = true from by decide, h2]; unfold sv; simp; grind

theorem fgt_fin {x y : Nat} (hx : fin x) (hy : fin y) : fgt x y = decide (rv y < rv x) := by
  unfold fgt; rw [order_fin hx hy]
  by_cases h1 : rv x < rv y
  · rw [if_pos h1]; have : ¬ rv y < rv x := by grind
    simp [this]
  · rw [if_neg h1]; by_cases h2 : rv x = rv y
    · simp [h2]
    · have : rv y < rv x := by grind
      simp [h2, this]

theorem self_sub {x : Nat} (h : fin x) : fin (fsub x x) ∧ rv (fsub x x) = 0 := by
  have := fsub_rn h h
  rw [show rv x - rv x = 0 by grind] at this
  exact this.exact Rep.zero

theorem isInf_cases {x : Nat} (hx : x < 2^64) (h : isInf x = true) : x = infW ∨ x = ninfW := by
  have h1 : rung x = 2047 * 2^52 := by simpa [isInf] using h
  rw [word_split hx, h1]
  cases sg x
  · left; decide
  · right; decide

theorem tame_of {x : Nat} (hx : x < 2^64) (hn : isNaN x = false) (hg : isGreat x = false) : tame x := by
  rcases kinds x with ⟨h, _, _⟩ | ⟨_, hi, _⟩ | ⟨_, _, h⟩
  · left
    refine ⟨h, ?_⟩
    obtain ⟨b1, b2, b3, b4⟩ := w1e300_bound
    unfold isGreat at hg
    obtain ⟨z1, z2⟩ := self_sub h
    rw [feq_zero z1, z2, fgt_fin h b1, flt_fin h b2] at hg
    simp only [decide_true, Bool.true_and, Bool.or_eq_false_iff, decide_eq_false_iff_not] at hg
    obtain ⟨g1, g2⟩ := hg
    exact ab_of_between (by grind) (by grind)
  · right; exact isInf_cases hx hi
  · rw [hn] at h; cases h

theorem canon_eq_negZ {x : Nat} (h : canon x = negZ) : x = negZ := eq_of_canon h (by decide)

theorem allNegZ_iff (l : List Nat) : allNegZ l = true ↔ l ≠ [] ∧ ∀ x ∈ l, x = negZ := by
  unfold allNegZ
  rw [Bool.and_eq_true]
  constructor
  · intro ⟨h1, h2⟩
    refine ⟨by intro h; subst h; simp at h1, fun x hx => ?_⟩
    have := List.all_eq_true.1 h2 x hx
    exact canon_eq_negZ (by simpa using this)
  · intro ⟨h1, h2⟩
    refine ⟨by cases l <;> simp at h1 ⊢, List.all_eq_true.2 fun x hx => ?_⟩
    rw [h2 x hx]; decide

theorem sum_bad (l : List Nat) (h : ∃ x ∈ l, isNaN x = true) : sumF l = cN := by
  have h1 := foldS_nan l h
  have hz : allNegZ l = false := by
    cases hz : allNegZ l
    · rfl
    · obtain ⟨_, h2⟩ := (allNegZ_iff l).1 hz
      obtain ⟨x, hx, hn⟩ := h
      rw [h2 x hx] at hn; revert hn; decide
  unfold sumF
  rw [hz, if_neg (by simp)]
  split
  · have := (foldS_canonical l).1
    rw [← this, canon_of_nan h1]
  · exact nan_fadd_l _ h1

theorem not_allNegZ {l : List Nat} {x : Nat} (hx : x ∈ l) (h : x ≠ negZ) : allNegZ l = false := by
  cases hz : allNegZ l
  · rfl
  · exact absurd (((allNegZ_iff l).1 hz).2 x hx) h

theorem sum_edges (l : List Nat) (hl : l.length ≤ 300) (h : ∀ x ∈ l, tame x) :
    (infW ∈ l → ninfW ∈ l → sumF l = cN) ∧ (infW ∈ l → ninfW ∉ l → sumF l = infW) ∧ (infW ∉ l → ninfW ∈ l → sumF l = ninfW) ∧
    (infW ∉ l → ninfW ∉ l → allNegZ l = true → sumF l = negZ) ∧ (infW ∉ l → ninfW ∉ l → allNegZ l = false → fin (sumF l)) := by
  have E := foldS_edges l hl h
  have c := foldS_canonical l
  unfold sumF
  generalize foldS l = st at *
  obtain ⟨s, d⟩ := st
  simp only at E c ⊢
  refine ⟨?_, ?_, ?_, ?_, ?_⟩
  · intro h1 h2
    rw [not_allNegZ h1 (by decide), if_neg (by simp)]
    have := E.both h1 h2
    split
    · rw [← c.1, canon_of_nan this]
    · exact nan_fadd_l _ this
  · intro h1 h2
    rw [not_allNegZ h1 (by decide), if_neg (by simp)]
    obtain ⟨e1, e2⟩ := E.up h1 h2
    rw [if_pos e2, e1]
  · intro h1 h2
    rw [not_allNegZ h2 (by decide), if_neg (by simp)]
    obtain ⟨e1, e2⟩ := E.down h1 h2
    rw [if_pos e2, e1]
  · intro _ _ hz
    rw [if_pos hz]
  · intro h1 h2 hz
    rw [hz, if_neg (by simp)]
    obtain ⟨a1, a2, a3, a4⟩ := E.none h1 h2
    rw [if_neg (by rw [fin_not_nan a3]; simp)]
    have hk : l.length * (l.length + 1) ≤ 300 * 301 := Nat.mul_le_mul (by omega) (by omega)
    exact ((fadd_rn a1 a3).big (k := l.length + l.length * (l.length + 1)) (by omega) (by rw [natB]; exact ab_add_le a2 a4)).1
end Fl
