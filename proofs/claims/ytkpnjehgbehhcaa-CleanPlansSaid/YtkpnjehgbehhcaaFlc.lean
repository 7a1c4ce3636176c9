import Derived.Test.YtkpnjehgbehhcaaFlb
namespace Fl

/-! ## words -/
def rung (x : Nat) : Nat := x % 2^63
def sg (x : Nat) : Bool := x / 2^63 % 2 == 1
def fin (x : Nat) : Prop := rung x < 2047 * 2^52
instance (x : Nat) : Decidable (fin x) := inferInstanceAs (Decidable (_ < _))
def isNaN (x : Nat) : Bool := decide (2047 * 2^52 < rung x)
def isInf (x : Nat) : Bool := rung x == 2047 * 2^52
/-- the NaN's bits -/
def cN : Nat := 0x7ff8000000000000
/-- any NaN as the one -/
def canon (x : Nat) : Nat := if isNaN x then cN else x

def sv (s : Bool) : Rat := if s then -1 else 1
/-- the number that a (finite) word stands for -/
def rv (x : Nat) : Rat := sv (sg x) * VR (rung x)

def ab (q : Rat) : Rat := if q < 0 then -q else q

theorem signWeight_eq : D.signWeight = 2^63 := by decide
theorem binade_eq : D.binade = 2^52 := by decide
theorem leastPlace_eq : D.leastPlace = -1074 := by decide

theorem rung_word (s : Bool) {r : Nat} (h : r < 2^63) : rung (D.word s r) = r := by
  unfold rung Ieee.Format.word
  rw [signWeight_eq]
  cases s <;> simp <;> omega
theorem sg_word (s : Bool) {r : Nat} (h : r < 2^63) : sg (D.word s r) = s := by
  unfold sg Ieee.Format.word
  rw [signWeight_eq]
  cases s <;> simp <;> omega
theorem word_split {x : Nat} (h : x < 2^64) : x = D.word (sg x) (rung x) := by
  unfold sg rung Ieee.Format.word
  rw [signWeight_eq]
  by_cases hs : x / 2^63 % 2 = 1
  · simp [hs]; omega
  · simp [hs]; omega

theorem read_fin {x : Nat} (h : fin x) : ∃ m i, D.read x = .number (sg x) m i ∧ -1074 ≤ i ∧ (m : Rat) * 2 ^ i = VR (rung x) ∧ (m = 0 ↔ rung x = 0) := by
  unfold fin at h
  unfold Ieee.Format.read
  simp only [signWeight_eq, binade_eq, leastPlace_eq, infRung_eq]
  change ∃ m i, (if rung x < 2^52 then _ else if rung x < 2047 * 2^52 then _ else if rung x = 2047 * 2^52 then _ else _) = _ ∧ _
  by_cases hs : rung x < 2^52
  · rw [if_pos hs]
    refine ⟨rung x, -1074, rfl, by omega, ?_, Iff.rfl⟩
    unfold VR; rw [V_small hs]; rfl
  · rw [if_neg hs, if_pos h]
    refine ⟨2^52 + rung x % 2^52, -1074 + ((rung x / 2^52 - 1 : Nat) : Int), rfl, by omega, ?_, by omega⟩
    unfold VR V
    rw [if_neg hs, Rat.natCast_mul, natPow, Int.add_comm, zpow_add', ← Rat.mul_assoc]; rfl

theorem read_inf {x : Nat} (h : isInf x = true) : D.read x = .infinity (sg x) := by
  have h : rung x = 2047 * 2^52 := by simpa [isInf] using h
  unfold Ieee.Format.read
  simp only [signWeight_eq, binade_eq, leastPlace_eq, infRung_eq]
  change (if rung x < 2^52 then _ else if rung x < 2047 * 2^52 then _ else if rung x = 2047 * 2^52 then _ else _) = _
  rw [if_neg (by omega), if_neg (by omega), if_pos h]; rfl

theorem read_nan {x : Nat} (h : isNaN x = true) : ∃ t, D.read x = .nan (sg x) t := by
  have h : 2047 * 2^52 < rung x := by simpa [isNaN] using h
  unfold Ieee.Format.read
  simp only [signWeight_eq, binade_eq, leastPlace_eq, infRung_eq]
  refine ⟨rung x - 2047 * 2^52, ?_⟩
  change (if rung x < 2^52 then _ else if rung x < 2047 * 2^52 then _ else if rung x = 2047 * 2^52 then _ else _) = _
  rw [if_neg (by omega), if_neg (by omega), if_neg (by omega)]; rfl

theorem kinds (x : Nat) : (fin x ∧ isInf x = false ∧ isNaN x = false) ∨ (¬ fin x ∧ isInf x = true ∧ isNaN x = false) ∨ (¬ fin x ∧ isInf x = false ∧ isNaN x = true) := by
  unfold fin isInf isNaN
  rcases Nat.lt_trichotomy (rung x) (2047 * 2^52) with h | h | h
  · left; refine ⟨h, ?_, ?_⟩ <;> simp <;> omega
  · right; left; refine ⟨by omega, ?_, ?_⟩ <;> simp <;> omega
  · right; right; refine ⟨by omega, ?_, ?_⟩ <;> simp <;> omega

/-! ## what an operation gives: z is q, rounded -/
def RN (q : Rat) (z : Nat) : Prop :=
  ∃ r s, z = D.word s (min r D.infRung) ∧ Rnd (ab q) r ∧ (q < 0 → s = true) ∧ (0 < q → s = false)

theorem sv_mul (s t : Bool) : sv (s ^^ t) = sv s * sv t := by cases s <;> cases t <;> simp [sv] <;> grind
theorem sv_sq (s : Bool) : sv s * sv s = 1 := by cases s <;> simp [sv] <;> grind

theorem ab_sv (s : Bool) {q : Rat} (h : 0 ≤ q) : ab (sv s * q) = q := by
  unfold ab sv; cases s <;> simp <;> grind

theorem sv_neg (s : Bool) {q : Rat} (h : 0 ≤ q) : (sv s * q < 0 → s = true) ∧ (0 < sv s * q → s = false) := by
  unfold sv; cases s <;> simp <;> grind

theorem signed_eq (s : Bool) (m k : Nat) : ((Ieee.signed s m k : Int) : Rat) = sv s * ((m : Rat) * 2 ^ (k : Int)) := by
  unfold Ieee.signed sv
  rw [Nat.shiftLeft_eq]
  cases s
  · simp only [Bool.false_eq_true, if_false]
    rw [Rat.intCast_natCast, Rat.natCast_mul, natPow]; grind
  · simp only [if_true]
    rw [Rat.intCast_neg, Rat.intCast_natCast, Rat.natCast_mul, natPow]; grind

theorem ab_intCast (n : Int) : ((n.natAbs : Nat) : Rat) = ab (n : Rat) := by
  unfold ab
  by_cases h : n < 0
  · rw [if_pos (Rat.intCast_neg_iff.2 h), ← Rat.intCast_neg, ← Rat.intCast_natCast]; congr 1; omega
  · rw [if_neg (fun h' => h (Rat.intCast_neg_iff.1 h')), ← Rat.intCast_natCast]; congr 1; omega

theorem ab_mul_pos (q : Rat) {c : Rat} (h : 0 < c) : ab (q * c) = ab q * c := by
  unfold ab
  by_cases hq : q < 0
  · have : q * c < 0 := (Rat.mul_neg_iff_of_pos_right h).2 hq
    rw [if_pos hq, if_pos this]; grind
  · have : ¬ q * c < 0 := fun h' => hq ((Rat.mul_neg_iff_of_pos_right h).1 h')
    rw [if_neg hq, if_neg this]

theorem zpow_pos' (n : Int) : (0 : Rat) < 2 ^ n := Rat.zpow_pos two_pos

/-- the sum of two data that are numbers, written -/
theorem sum_rn (s t : Bool) (m n : Nat) (i j : Int) : ∃ d, (Ieee.Datum.number s m i).sum (.number t n j) = some d ∧
    RN (sv s * ((m : Rat) * 2 ^ i) + sv t * ((n : Rat) * 2 ^ j)) (D.write d) := by
  refine ⟨_, rfl, ?_⟩
  simp only [Ieee.Format.write]
  have e1 : sv s * ((m : Rat) * 2 ^ i) + sv t * ((n : Rat) * 2 ^ j) = ((Ieee.signed s m (i - min i j).toNat + Ieee.signed t n (j - min i j).toNat : Int) : Rat) * 2 ^ (min i j) := by
    rw [Rat.intCast_add, signed_eq, signed_eq, Rat.add_mul]
    have h1 : (2 : Rat) ^ i = 2 ^ ((i - min i j).toNat : Int) * 2 ^ (min i j) := by rw [← zpow_add']; congr 1; omega
    have h2 : (2 : Rat) ^ j = 2 ^ ((j - min i j).toNat : Int) * 2 ^ (min i j) := by rw [← zpow_add']; congr 1; omega
    rw [h1, h2]; grind
  rw [e1]
  generalize Ieee.signed s m (i - min i j).toNat + Ieee.signed t n (j - min i j).toNat = total
  obtain ⟨r, hr, hR⟩ := nearest_rnd (if total = 0 then s && t else total < 0) total.natAbs (min i j)
  refine ⟨r, _, hr, ?_, ?_, ?_⟩
  · rw [ab_mul_pos _ (zpow_pos' _), ← ab_intCast]; exact hR
  · intro h
    have := Rat.intCast_neg_iff.1 ((Rat.mul_neg_iff_of_pos_right (zpow_pos' _)).1 h)
    rw [if_neg (by omega)]; simpa using this
  · intro h
    have := Rat.intCast_pos.1 ((Rat.mul_pos_iff_of_pos_right (zpow_pos' _)).1 h)
    rw [if_neg (by omega)]; simp; omega

theorem product_rn (s t : Bool) (m n : Nat) (i j : Int) : ∃ d, (Ieee.Datum.number s m i).product (.number t n j) = some d ∧
    RN ((sv s * ((m : Rat) * 2 ^ i)) * (sv t * ((n : Rat) * 2 ^ j))) (D.write d) := by
  refine ⟨_, rfl, ?_⟩
  simp only [Ieee.Format.write]
  have hz : 0 ≤ ((m * n : Nat) : Rat) * 2 ^ (i + j) := Rat.mul_nonneg Rat.natCast_nonneg (Rat.le_of_lt (zpow_pos' _))
  have e1 : (sv s * ((m : Rat) * 2 ^ i)) * (sv t * ((n : Rat) * 2 ^ j)) = sv (s ^^ t) * (((m * n : Nat) : Rat) * 2 ^ (i + j)) := by
    rw [sv_mul, Rat.natCast_mul, zpow_add']; grind
  rw [e1]
  obtain ⟨r, hr, hR⟩ := nearest_rnd (s ^^ t) (m * n) (i + j)
  refine ⟨r, _, hr, ?_, (sv_neg _ hz).1, (sv_neg _ hz).2⟩
  rw [ab_sv _ hz]; exact hR

theorem ofInt_rn (n : Int) : RN n (D.write (.number (n < 0) n.natAbs 0)) := by
  simp only [Ieee.Format.write]
  obtain ⟨r, hr, hR⟩ := nearest_rnd (n < 0) n.natAbs 0
  refine ⟨r, _, hr, ?_, ?_, ?_⟩
  · rw [← ab_intCast]; rwa [Rat.zpow_zero, Rat.mul_one] at hR
  · intro h; simpa using Rat.intCast_neg_iff.1 h
  · intro h; have := Rat.intCast_pos.1 h; simp; omega

theorem ab_nonneg_eq {q : Rat} (h : 0 ≤ q) : ab q = q := by unfold ab; rw [if_neg (by grind)]

theorem quotient_rn (s t : Bool) (m n : Nat) (i j : Int) (hn : n ≠ 0) : ∃ d, (Ieee.Datum.number s m i).quotient 54 (.number t n j) = some d ∧
    RN ((sv s * ((m : Rat) * 2 ^ i)) / (sv t * ((n : Rat) * 2 ^ j))) (D.write d) := by
  have e0 : (Ieee.Datum.number s m i).quotient 54 (.number t n j) = some (.number (s ^^ t) (2 * (m <<< (54 + n.log2 - m.log2) / n) + (m <<< (54 + n.log2 - m.log2) % n != 0).toNat) (i - j - (54 + n.log2 - m.log2 : Nat) - 1)) := by
    simp only [Ieee.Datum.quotient]
    rw [if_neg hn]
  refine ⟨_, e0, ?_⟩
  simp only [Ieee.Format.write]
  have hnp : (0 : Rat) < n := Rat.natCast_pos.2 (by omega)
  have hsvt : sv t * sv t = 1 := sv_sq t
  have hj : (0 : Rat) < 2 ^ j := zpow_pos' j
  have hdiv : (sv s * ((m : Rat) * 2 ^ i)) / (sv t * ((n : Rat) * 2 ^ j)) = sv (s ^^ t) * (((m : Rat) / n) * 2 ^ (i - j)) := by
    have hne : sv t * ((n : Rat) * 2 ^ j) ≠ 0 := by
      intro h
      rcases Rat.mul_eq_zero.1 h with h | h
      · rw [h] at hsvt; grind
      · rcases Rat.mul_eq_zero.1 h with h | h
        · grind
        · grind
    have e1 : (2 : Rat) ^ i = 2 ^ (i - j) * 2 ^ j := by rw [← zpow_add']; congr 1; omega
    rw [sv_mul, e1]
    have h2 : (m : Rat) / n * n = m := Rat.div_mul_cancel (by grind)
    rw [show sv s * ((m : Rat) * (2 ^ (i - j) * 2 ^ j)) = (sv s * sv t * ((m : Rat) / n * 2 ^ (i - j))) * (sv t * ((n : Rat) * 2 ^ j)) from by
      rw [show sv s * sv t * ((m : Rat) / n * 2 ^ (i - j)) * (sv t * ((n : Rat) * 2 ^ j)) = sv s * (sv t * sv t) * ((m : Rat) / n * n) * (2 ^ (i - j) * 2 ^ j) by grind, h2, hsvt]; grind]
    rw [Rat.mul_div_cancel hne]
  rw [hdiv]
  by_cases hm : m = 0
  · subst hm
    rw [Nat.zero_shiftLeft, Nat.zero_div, Nat.zero_mod]
    have ez : ((0 : Nat) : Rat) / n * 2 ^ (i - j) = 0 := by rw [show ((0 : Nat) : Rat) = 0 from rfl]; grind
    rw [ez]
    refine ⟨0, s ^^ t, by simp [Ieee.Format.nearest], ?_, by grind, by grind⟩
    rw [Rat.mul_zero]
    have : ab 0 = VR 0 := by rw [VR_zero]; unfold ab; grind
    rw [this]; exact Rnd.exact 0
  · generalize hmore : 54 + n.log2 - m.log2 = more
    have hw : 2^53 ≤ m <<< more / n := by
      rw [Nat.shiftLeft_eq, Nat.le_div_iff_mul_le (by omega)]
      have h1 := Nat.log2_self_le hm
      have h2 : n < 2^(n.log2 + 1) := Nat.lt_log2_self
      calc 2^53 * n ≤ 2^53 * 2^(n.log2 + 1) := Nat.mul_le_mul_left _ (by omega)
        _ = 2^(n.log2 + 54) := by rw [← Nat.pow_add]; congr 1; omega
        _ ≤ 2^(m.log2 + more) := Nat.pow_le_pow_right (by omega) (by omega)
        _ = 2^m.log2 * 2^more := Nat.pow_add 2 _ _
        _ ≤ m * 2^more := Nat.mul_le_mul_right _ h1
    obtain ⟨r, hr, hR⟩ := nearest_sticky (s ^^ t) (m <<< more) n (i - j - (more : Nat) - 1) hn hw
    have hz : 0 ≤ (m : Rat) / n * 2 ^ (i - j) := by
      refine Rat.mul_nonneg ?_ (Rat.le_of_lt (zpow_pos' _))
      rw [Rat.div_def]
      exact Rat.mul_nonneg Rat.natCast_nonneg (Rat.le_of_lt (Rat.inv_pos.2 hnp))
    refine ⟨r, _, hr, ?_, (sv_neg _ hz).1, (sv_neg _ hz).2⟩
    rw [ab_sv _ hz]
    have e3 : 2 * (((m <<< more : Nat) : Rat) / n) * 2 ^ (i - j - (more : Nat) - 1) = (m : Rat) / n * 2 ^ (i - j) := by
      rw [Nat.shiftLeft_eq, Rat.natCast_mul, natPow]
      have e4 : (2 : Rat) ^ (i - j) = 2 * 2 ^ (more : Int) * 2 ^ (i - j - (more : Nat) - 1) := by
        rw [show (2 : Rat) * 2 ^ (more : Int) = 2 ^ (1 + (more : Int)) from by rw [zpow_add', Rat.zpow_one], ← zpow_add']; congr 1; omega
      rw [e4, Rat.div_def, Rat.div_def]; grind
    rw [e3] at hR; exact hR

/-! ## the operations on words; a NaN result is the one -/
def fadd (x y : Nat) : Nat := (D.add x y).getD cN
def fsub (x y : Nat) : Nat := (D.sub x y).getD cN
def fmul (x y : Nat) : Nat := (D.mul x y).getD cN
def fdiv (x y : Nat) : Nat := (D.div x y).getD cN
def ofInt (n : Int) : Nat := D.write (.number (n < 0) n.natAbs 0)

theorem rv_read {x : Nat} (h : fin x) : ∃ m i, D.read x = .number (sg x) m i ∧ sv (sg x) * ((m : Rat) * 2 ^ i) = rv x ∧ (m = 0 ↔ rung x = 0) := by
  obtain ⟨m, i, h1, _, h2, h3⟩ := read_fin h
  exact ⟨m, i, h1, by rw [h2]; rfl, h3⟩

theorem fadd_rn {x y : Nat} (hx : fin x) (hy : fin y) : RN (rv x + rv y) (fadd x y) := by
  obtain ⟨m, i, h1, h2, _⟩ := rv_read hx
  obtain ⟨n, j, h3, h4, _⟩ := rv_read hy
  obtain ⟨d, h5, h6⟩ := sum_rn (sg x) (sg y) m n i j
  unfold fadd Ieee.Format.add
  rw [h1, h3, h5, ← h2, ← h4]
  exact h6

theorem sv_not (s : Bool) : sv (!s) = - sv s := by cases s <;> simp [sv] <;> grind

theorem fsub_rn {x y : Nat} (hx : fin x) (hy : fin y) : RN (rv x - rv y) (fsub x y) := by
  obtain ⟨m, i, h1, h2, _⟩ := rv_read hx
  obtain ⟨n, j, h3, h4, _⟩ := rv_read hy
  obtain ⟨d, h5, h6⟩ := sum_rn (sg x) (!sg y) m n i j
  unfold fsub Ieee.Format.sub
  rw [h1, h3]
  simp only [Ieee.Datum.opposite]
  rw [h5]
  rw [sv_not, h2, show -sv (sg y) * ((n : Rat) * 2 ^ j) = - rv y by rw [← h4]; grind, ← Rat.sub_eq_add_neg] at h6
  exact h6

theorem fmul_rn {x y : Nat} (hx : fin x) (hy : fin y) : RN (rv x * rv y) (fmul x y) := by
  obtain ⟨m, i, h1, h2, _⟩ := rv_read hx
  obtain ⟨n, j, h3, h4, _⟩ := rv_read hy
  obtain ⟨d, h5, h6⟩ := product_rn (sg x) (sg y) m n i j
  unfold fmul Ieee.Format.mul
  rw [h1, h3, h5, ← h2, ← h4]
  exact h6

theorem fdiv_rn {x y : Nat} (hx : fin x) (hy : fin y) (h0 : rung y ≠ 0) : RN (rv x / rv y) (fdiv x y) := by
  obtain ⟨m, i, h1, h2, _⟩ := rv_read hx
  obtain ⟨n, j, h3, h4, h5⟩ := rv_read hy
  obtain ⟨d, h6, h7⟩ := quotient_rn (sg x) (sg y) m n i j (fun h => h0 (h5.1 h))
  unfold fdiv Ieee.Format.div
  rw [h1, h3]
  change RN _ ((Option.map D.write ((Ieee.Datum.number (sg x) m i).quotient 54 (.number (sg y) n j))).getD cN)
  rw [h6, ← h2, ← h4]
  exact h7

/-! ## the order -/
theorem order_fin {x y : Nat} (hx : fin x) (hy : fin y) :
    D.order x y = some (if rv x < rv y then .lt else if rv x = rv y then .eq else .gt) := by
  obtain ⟨m, i, h1, h2, _⟩ := rv_read hx
  obtain ⟨n, j, h3, h4, _⟩ := rv_read hy
  unfold Ieee.Format.order
  rw [h1, h3]
  simp only [Ieee.Datum.order]
  have hp : (0 : Rat) < 2 ^ (min i j) := zpow_pos' _
  have e1 : rv x = ((Ieee.signed (sg x) m (i - min i j).toNat : Int) : Rat) * 2 ^ (min i j) := by
    rw [signed_eq, ← h2]
    have h1 : (2 : Rat) ^ i = 2 ^ ((i - min i j).toNat : Int) * 2 ^ (min i j) := by rw [← zpow_add']; congr 1; omega
    rw [h1]; grind
  have e2 : rv y = ((Ieee.signed (sg y) n (j - min i j).toNat : Int) : Rat) * 2 ^ (min i j) := by
    rw [signed_eq, ← h4]
    have h1 : (2 : Rat) ^ j = 2 ^ ((j - min i j).toNat : Int) * 2 ^ (min i j) := by rw [← zpow_add']; congr 1; omega
    rw [h1]; grind
  rw [e1, e2]
  generalize Ieee.signed (sg x) m (i - min i j).toNat = a
  generalize Ieee.signed (sg y) n (j - min i j).toNat = b
  have c1 : ((a : Rat) * 2 ^ min i j < (b : Rat) * 2 ^ min i j) ↔ a < b := by
    rw [Rat.mul_lt_mul_right hp]; exact Rat.intCast_lt_intCast
  have c2 : ((a : Rat) * 2 ^ min i j = (b : Rat) * 2 ^ min i j) ↔ a = b := by
    constructor
    · intro h
      have h1 : ((a : Rat) - b) * 2 ^ min i j = 0 := by grind
      rcases Rat.mul_eq_zero.1 h1 with h | h
      · exact Rat.intCast_inj.1 (by grind)
      · grind
    · intro h; rw [h]
  have e3 : compare a b = if a < b then .lt else if a = b then .eq else .gt := rfl
  rw [e3]
  simp only [c1, c2]
end Fl
