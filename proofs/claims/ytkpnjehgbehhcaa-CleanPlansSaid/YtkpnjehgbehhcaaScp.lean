/- Plain facts on a zone's use and worth: the rounded quotients stay in their bounds, rise and fall as the exact ones do. -/
import Derived.Test.YtkpnjehgbehhcaaFw
namespace Fl

/-- live / size -/
def useF (l s : Int) : Nat := fdiv (ofInt l) (ofInt s)
theorem canon_useF (l s : Int) : canon (useF l s) = useF l s := canon_fdiv _ _
/-- the bits of infinity -/
def infW : Nat := 9218868437227405312
/-- the bits of 1 -/
def oneW : Nat := 4607182418800017408
/-- ((1 - u) a) / (1 + u) -/
def worthF (u : Nat) (a : Int) : Nat := fdiv (fmul (fsub oneW u) (ofInt a)) (fadd oneW u)
theorem canon_worthF (u : Nat) (a : Int) : canon (worthF u a) = worthF u a := canon_fdiv _ _

theorem fin_not_nan {x : Nat} (h : fin x) : isNaN x = false := by
  rcases kinds x with ⟨_, _, h3⟩ | ⟨h1, _, _⟩ | ⟨h1, _, _⟩
  · exact h3
  · exact absurd h h1
  · exact absurd h h1
theorem fin_not_inf {x : Nat} (h : fin x) : isInf x = false := by
  rcases kinds x with ⟨_, h2, _⟩ | ⟨h1, _, _⟩ | ⟨h1, _, _⟩
  · exact h2
  · exact absurd h h1
  · exact absurd h h1

theorem rv_ne_rung {x : Nat} (h : rv x ≠ 0) : rung x ≠ 0 := by
  intro h0; apply h; unfold rv; rw [h0, VR_zero]; grind
theorem rv_eq_zero {x : Nat} : rv x = 0 ↔ rung x = 0 := by
  constructor
  · intro h
    rcases Nat.eq_zero_or_pos (rung x) with h' | h'
    · exact h'
    · exfalso
      have := VR_lt h'
      rw [VR_zero] at this
      unfold rv sv at h
      split at h <;> grind
  · intro h; unfold rv; rw [h, VR_zero]; grind

theorem one_fin : fin oneW ∧ rv oneW = 1 := by
  have h : oneW = ofInt 1 := by decide
  rw [h]
  exact ofInt_fin 1 (by decide)
theorem rep_one : Rep 1 := rep_int 1 (by decide)
theorem rep_two : Rep 2 := rep_int 2 (by decide)

/-- 1 / 2^30 -/
def tiny : Rat := 2 ^ (-30 : Int)
theorem tiny_pos : 0 < tiny := zpow_pos' _
theorem tiny_mul : tiny * 1073741824 = 1 := by
  have h : (1073741824 : Rat) = 2 ^ (30 : Int) := by rw [show (30 : Int) = ((30 : Nat) : Int) from rfl, ← natPow]; rfl
  unfold tiny
  rw [h, ← zpow_add', show (-30 : Int) + 30 = 0 from rfl, Rat.zpow_zero]
theorem rep_tiny : Rep tiny := by
  have h := rep_grid' 1 1044 (by omega) (by omega)
  rwa [show (((1044 : Nat) : Int) - 1074) = -30 from by decide, show ((1 : Nat) : Rat) = 1 from rfl, Rat.one_mul] at h
theorem rep_below_one : Rep (1 - tiny) := by
  have h := rep_grid' (2^30 - 1) 1044 (by omega) (by omega)
  rw [show (((1044 : Nat) : Int) - 1074) = -30 from by decide] at h
  have e : ((2^30 - 1 : Nat) : Rat) = 1073741824 - 1 := by
    have : ((2^30 - 1 : Nat) : Rat) + ((1 : Nat) : Rat) = ((2^30 : Nat) : Rat) := by rw [← Rat.natCast_add]
    have e1 : ((1 : Nat) : Rat) = 1 := rfl
    have e2 : ((2^30 : Nat) : Rat) = 1073741824 := rfl
    rw [e1, e2] at this
    grind
  rw [e] at h
  have := tiny_mul
  unfold tiny at *
  rw [show (1073741824 - 1) * (2 : Rat) ^ (-30 : Int) = 1 - 2 ^ (-30 : Int) by grind] at h
  exact h

theorem div_le_one' {a b : Rat} (hb : 0 < b) (h : a ≤ b) : a / b ≤ 1 := by
  rcases lt_or_le 1 (a / b) with h1 | h1
  · rw [Rat.lt_div_iff hb] at h1; grind
  · exact h1
theorem le_div {a b c : Rat} (hb : 0 < b) (h : c * b ≤ a) : c ≤ a / b := by
  rcases lt_or_le (a / b) c with h1 | h1
  · rw [Rat.div_lt_iff hb] at h1; grind
  · exact h1
theorem div_le {a b c : Rat} (hb : 0 < b) (h : a ≤ c * b) : a / b ≤ c := by
  rcases lt_or_le c (a / b) with h1 | h1
  · rw [Rat.lt_div_iff hb] at h1; grind
  · exact h1
theorem div_le_div {a b c d : Rat} (hb : 0 < b) (hd : 0 < d) (h : a * d ≤ c * b) : a / b ≤ c / d := by
  refine div_le hb ?_
  refine Rat.le_of_mul_le_mul_right (c := d) ?_ hd
  have : c / d * d = c := Rat.div_mul_cancel (by grind)
  rw [show c / d * b * d = c / d * d * b by grind, this]
  exact h
theorem ofInt_pos {n : Int} (h1 : 0 < n) (h2 : n ≤ 9007199254740992) : fin (ofInt n) ∧ rv (ofInt n) = n ∧ rung (ofInt n) ≠ 0 := by
  obtain ⟨h3, h4⟩ := ofInt_fin n (by omega)
  refine ⟨h3, h4, rv_ne_rung ?_⟩
  rw [h4]
  have := Rat.intCast_pos.2 h1
  grind

/-! ## the use -/
theorem use_rn {l s : Int} (h0 : 0 ≤ l) (h1 : l ≤ s) (h2 : 1 ≤ s) (h3 : s ≤ 1073741824) : RN ((l : Rat) / s) (useF l s) := by
  obtain ⟨a1, a2⟩ := ofInt_fin l (by omega)
  obtain ⟨b1, b2, b3⟩ := ofInt_pos (n := s) (by omega) (by omega)
  have := fdiv_rn a1 b1 b3
  rwa [a2, b2] at this

theorem use_bounds {l s : Int} (h0 : 0 ≤ l) (h1 : l ≤ s) (h2 : 1 ≤ s) (h3 : s ≤ 1073741824) :
    fin (useF l s) ∧ 0 ≤ rv (useF l s) ∧ rv (useF l s) ≤ 1 := by
  have hs : (0 : Rat) < (s : Rat) := Rat.intCast_pos.2 (by omega)
  refine (use_rn h0 h1 h2 h3).between Rep.zero rep_one ?_ ?_
  · exact le_div hs (by rw [Rat.zero_mul]; exact Rat.intCast_nonneg.2 h0)
  · exact div_le_one' hs (Rat.intCast_le_intCast.2 h1)

theorem use_pos {l s : Int} (h0 : 1 ≤ l) (h1 : l ≤ s) (h3 : s ≤ 1073741824) : tiny ≤ rv (useF l s) := by
  have hs : (0 : Rat) < (s : Rat) := Rat.intCast_pos.2 (by omega)
  refine ((use_rn (by omega) h1 (by omega) h3).between rep_tiny rep_one ?_ ?_).2.1
  · refine le_div hs ?_
    have e1 : (1 : Rat) ≤ (l : Rat) := by have := Rat.intCast_le_intCast.2 h0; exact this
    have e2 : (s : Rat) ≤ 1073741824 := by have := Rat.intCast_le_intCast.2 h3; exact this
    have := Rat.mul_le_mul_of_nonneg_left e2 (Rat.le_of_lt tiny_pos)
    have := tiny_mul
    grind
  · exact div_le_one' hs (Rat.intCast_le_intCast.2 h1)

theorem use_lt_one {l s : Int} (h0 : 0 ≤ l) (h1 : l < s) (h3 : s ≤ 1073741824) : rv (useF l s) ≤ 1 - tiny := by
  have hs : (0 : Rat) < (s : Rat) := Rat.intCast_pos.2 (by omega)
  refine ((use_rn h0 (by omega) (by omega) h3).between Rep.zero rep_below_one ?_ ?_).2.2
  · exact le_div hs (by rw [Rat.zero_mul]; exact Rat.intCast_nonneg.2 h0)
  · refine div_le hs ?_
    have e1 : (l : Rat) + 1 ≤ (s : Rat) := by
      have : l + 1 ≤ s := by omega
      have := Rat.intCast_le_intCast.2 this
      rwa [Rat.intCast_add] at this
    have e2 : (s : Rat) ≤ 1073741824 := by have := Rat.intCast_le_intCast.2 h3; exact this
    have := Rat.mul_le_mul_of_nonneg_left e2 (Rat.le_of_lt tiny_pos)
    have := tiny_mul
    grind

theorem use_zero {s : Int} (h2 : 1 ≤ s) (h3 : s ≤ 1073741824) : rv (useF 0 s) = 0 := by
  have hz : ((0 : Int) : Rat) / s = 0 := by rw [show ((0 : Int) : Rat) = 0 from rfl, Rat.div_def, Rat.zero_mul]
  have h := use_rn (l := 0) (by omega) (by omega) h2 h3
  rw [hz] at h
  exact (h.exact Rep.zero).2

theorem use_full {s : Int} (h2 : 1 ≤ s) (h3 : s ≤ 1073741824) : rv (useF s s) = 1 := by
  have hs : (0 : Rat) < (s : Rat) := Rat.intCast_pos.2 (by omega)
  have hz : (s : Rat) / s = 1 := by have := Rat.mul_div_cancel (a := 1) (b := (s : Rat)) (by grind); rwa [Rat.one_mul] at this
  have h := use_rn (l := s) (by omega) (by omega) h2 h3
  rw [hz] at h
  exact (h.exact rep_one).2

theorem use_mono {l m s : Int} (h0 : 0 ≤ l) (h : l ≤ m) (h1 : m ≤ s) (h2 : 1 ≤ s) (h3 : s ≤ 1073741824) : rv (useF l s) ≤ rv (useF m s) := by
  have hs : (0 : Rat) < (s : Rat) := Rat.intCast_pos.2 (by omega)
  refine (use_rn h0 (by omega) h2 h3).mono (use_rn (by omega) h1 h2 h3) (use_bounds h0 (by omega) h2 h3).1 (use_bounds (by omega) h1 h2 h3).1 ?_
  exact div_le_div hs hs (Rat.mul_le_mul_of_nonneg_right (Rat.intCast_le_intCast.2 h) (Rat.le_of_lt hs))

/-! ## the worth -/
/-- what is known of its parts -/
theorem worth_parts {u : Nat} {a : Int} (hu : fin u) (h0 : 0 ≤ rv u) (h1 : rv u ≤ 1) (ha : 0 ≤ a) (hb : a ≤ 1099511627776) :
    (fin (fsub oneW u) ∧ 0 ≤ rv (fsub oneW u) ∧ rv (fsub oneW u) ≤ 1) ∧
    (fin (fmul (fsub oneW u) (ofInt a)) ∧ 0 ≤ rv (fmul (fsub oneW u) (ofInt a)) ∧ rv (fmul (fsub oneW u) (ofInt a)) ≤ a) ∧
    (fin (fadd oneW u) ∧ 1 ≤ rv (fadd oneW u) ∧ rv (fadd oneW u) ≤ 2) ∧
    (fin (worthF u a) ∧ 0 ≤ rv (worthF u a) ∧ rv (worthF u a) ≤ a) := by
  obtain ⟨o1, o2⟩ := one_fin
  obtain ⟨a1, a2⟩ := ofInt_fin a (by omega)
  have ha' : (0 : Rat) ≤ (a : Rat) := Rat.intCast_nonneg.2 ha
  have ra : Rep (a : Rat) := rep_int a (by omega)
  have p1 : fin (fsub oneW u) ∧ 0 ≤ rv (fsub oneW u) ∧ rv (fsub oneW u) ≤ 1 := by
    refine (fsub_rn o1 hu).between Rep.zero rep_one ?_ ?_ <;> rw [o2] <;> grind
  have p2 : fin (fmul (fsub oneW u) (ofInt a)) ∧ 0 ≤ rv (fmul (fsub oneW u) (ofInt a)) ∧ rv (fmul (fsub oneW u) (ofInt a)) ≤ a := by
    refine (fmul_rn p1.1 a1).between Rep.zero ra ?_ ?_ <;> rw [a2]
    · exact Rat.mul_nonneg p1.2.1 ha'
    · have := Rat.mul_le_mul_of_nonneg_right p1.2.2 ha'
      rwa [Rat.one_mul] at this
  have p3 : fin (fadd oneW u) ∧ 1 ≤ rv (fadd oneW u) ∧ rv (fadd oneW u) ≤ 2 := by
    refine (fadd_rn o1 hu).between rep_one rep_two ?_ ?_ <;> rw [o2] <;> grind
  refine ⟨p1, p2, p3, ?_⟩
  have hq : (0 : Rat) < rv (fadd oneW u) := by grind
  refine (fdiv_rn p2.1 p3.1 (rv_ne_rung (by grind))).between Rep.zero ra ?_ ?_
  · exact le_div hq (by rw [Rat.zero_mul]; exact p2.2.1)
  · refine div_le hq ?_
    have := Rat.mul_le_mul_of_nonneg_left p3.2.1 ha'
    grind

theorem worth_mono {u v : Nat} {a b : Int} (hu : fin u) (hv : fin v) (h0 : 0 ≤ rv v) (h1 : rv u ≤ 1) (h : rv v ≤ rv u) (ha : 0 ≤ a) (hab : a ≤ b) (hb : b ≤ 1099511627776) :
    rv (worthF u a) ≤ rv (worthF v b) := by
  obtain ⟨o1, o2⟩ := one_fin
  obtain ⟨a1, a2⟩ := ofInt_fin a (by omega)
  obtain ⟨b1, b2⟩ := ofInt_fin b (by omega)
  have ha' : (0 : Rat) ≤ (a : Rat) := Rat.intCast_nonneg.2 ha
  have hab' : (a : Rat) ≤ (b : Rat) := Rat.intCast_le_intCast.2 hab
  obtain ⟨p1, p2, p3, p4⟩ := worth_parts hu (by grind) h1 ha (by omega)
  obtain ⟨q1, q2, q3, q4⟩ := worth_parts hv h0 (by grind) (by omega) hb
  have m1 : rv (fsub oneW u) ≤ rv (fsub oneW v) := (fsub_rn o1 hu).mono (fsub_rn o1 hv) p1.1 q1.1 (by grind)
  have m2 : rv (fmul (fsub oneW u) (ofInt a)) ≤ rv (fmul (fsub oneW v) (ofInt b)) := by
    refine (fmul_rn p1.1 a1).mono (fmul_rn q1.1 b1) p2.1 q2.1 ?_
    rw [a2, b2]
    have e1 := Rat.mul_le_mul_of_nonneg_right m1 ha'
    have e2 := Rat.mul_le_mul_of_nonneg_left hab' q1.2.1
    grind
  have m3 : rv (fadd oneW v) ≤ rv (fadd oneW u) := (fadd_rn o1 hv).mono (fadd_rn o1 hu) q3.1 p3.1 (by grind)
  have hp : (0 : Rat) < rv (fadd oneW u) := by grind
  have hq : (0 : Rat) < rv (fadd oneW v) := by grind
  refine (fdiv_rn p2.1 p3.1 (rv_ne_rung (by grind))).mono (fdiv_rn q2.1 q3.1 (rv_ne_rung (by grind))) p4.1 q4.1 ?_
  refine div_le_div hp hq ?_
  have e1 := Rat.mul_le_mul_of_nonneg_right m2 (Rat.le_of_lt hp)
  have e2 := Rat.mul_le_mul_of_nonneg_left m3 p2.2.1
  grind

theorem zero_fin : fin 0 ∧ rv 0 = 0 := ⟨by decide, rv_eq_zero.2 (by decide)⟩
theorem feq_zero {x : Nat} (h : fin x) : feq x 0 = decide (rv x = 0) := by
  rw [feq_fin h zero_fin.1, zero_fin.2]

theorem eq_of_canon {z x : Nat} (h : canon z = x) (hx : isNaN x = false) : z = x := by
  have h1 : isNaN z = false := by rw [← isNaN_canon, h]; exact hx
  rw [← h, canon_of_not h1]

theorem inf_is : isInf infW = true ∧ sg infW = false := by decide
theorem fge_inf {y : Nat} (h : isNaN y = false) : fge infW y = true := by
  unfold fge Ieee.Format.order
  rw [read_inf inf_is.1, inf_is.2]
  rcases kinds y with ⟨hy, iy, ny⟩ | ⟨_, iy, ny⟩ | ⟨_, _, ny⟩
  · obtain ⟨m, i, hr, _⟩ := rv_read hy
    rw [hr]; rfl
  · rw [read_inf iy]; cases sg y <;> rfl
  · rw [h] at ny; cases ny
theorem fge_fin {x y : Nat} (hx : fin x) (hy : fin y) : fge x y = decide (rv y ≤ rv x) := by rw [fge_eq, fle_fin hy hx]

/-- an unsized zone's use is the NaN -/
theorem use_unsized : useF 0 0 = cN := by decide
theorem worth_nan (a : Int) : worthF cN a = cN := by
  have h1 : fsub oneW cN = cN := by decide
  have h2 : fadd oneW cN = cN := by decide
  unfold worthF
  rw [h1, h2]
  unfold fdiv
  rw [nan_div_r _ cN_nan]; rfl
end Fl
