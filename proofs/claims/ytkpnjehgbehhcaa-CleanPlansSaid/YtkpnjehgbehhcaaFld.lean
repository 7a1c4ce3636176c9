import Derived.Test.YtkpnjehgbehhcaaFlc
namespace Fl

/-! ## what may be said of a result -/

theorem lt_or_le (a b : Rat) : a < b ∨ b ≤ a := by
  by_cases h : a < b
  · exact Or.inl h
  · exact Or.inr (Rat.not_lt.1 h)

/-- a number that some finite word stands for -/
def Rep (q : Rat) : Prop := ∃ g, g < 2047 * 2^52 ∧ ab q = VR g

theorem ab_nonneg (q : Rat) : 0 ≤ ab q := by unfold ab; grind
theorem ab_neg (q : Rat) : ab (-q) = ab q := by unfold ab; grind
theorem ab_cases (q : Rat) : (0 ≤ q ∧ ab q = q) ∨ (q < 0 ∧ ab q = -q) := by unfold ab; grind
theorem ab_mul (p q : Rat) : ab (p * q) = ab p * ab q := by
  rcases ab_cases p with ⟨hp, ep⟩ | ⟨hp, ep⟩ <;> rcases ab_cases q with ⟨hq, eq⟩ | ⟨hq, eq⟩ <;> rw [ep, eq]
  · exact ab_nonneg_eq (Rat.mul_nonneg hp hq)
  · have h := Rat.mul_nonneg hp (show 0 ≤ -q by grind)
    have h1 : p * -q = -(p * q) := by grind
    rw [h1] at h ⊢; rw [← ab_neg]; exact ab_nonneg_eq h
  · have h := Rat.mul_nonneg (show 0 ≤ -p by grind) hq
    have h1 : -p * q = -(p * q) := by grind
    rw [h1] at h ⊢; rw [← ab_neg]; exact ab_nonneg_eq h
  · have h := Rat.mul_nonneg (show 0 ≤ -p by grind) (show 0 ≤ -q by grind)
    have h1 : -p * -q = p * q := by grind
    rw [h1] at h ⊢; exact ab_nonneg_eq h

theorem Rep.neg {q : Rat} (h : Rep q) : Rep (-q) := by
  obtain ⟨g, h1, h2⟩ := h; exact ⟨g, h1, by rw [ab_neg, h2]⟩
theorem Rep.zero : Rep 0 := ⟨0, by omega, by rw [VR_zero]; unfold ab; grind⟩

theorem rep_rv {x : Nat} (h : fin x) : Rep (rv x) := ⟨rung x, h, by unfold rv; exact ab_sv _ (VR_nonneg _)⟩

theorem word_fin (s : Bool) {r : Nat} (h : r < 2047 * 2^52) : fin (D.word s r) ∧ rv (D.word s r) = sv s * VR r := by
  have h2 : r < 2^63 := by omega
  unfold fin rv
  rw [rung_word s h2, sg_word s h2]
  exact ⟨h, rfl⟩

/-- a result whose rung is below infinity's -/
theorem RN.of_rung {q : Rat} {z r : Nat} {s : Bool} (hz : z = D.word s (min r D.infRung)) (hr : r < 2047 * 2^52) (hR : Rnd (ab q) r) (h1 : q < 0 → s = true) (h2 : 0 < q → s = false) :
    fin z ∧ rv z = (if q < 0 then - VR r else VR r) := by
  rw [infRung_eq, Nat.min_eq_left (by omega)] at hz
  obtain ⟨a, b⟩ := word_fin s hr
  rw [hz]
  refine ⟨a, ?_⟩
  rw [b]
  rcases lt_or_le q 0 with h | h
  · rw [h1 h, if_pos h]; simp [sv]; grind
  · rw [if_neg (by grind)]
    rcases Rat.le_iff_lt_or_eq.1 h with h | h
    · rw [h2 h]; simp [sv]
    · subst h
      have : ab (0 : Rat) = VR 0 := by rw [VR_zero]; unfold ab; grind
      have := hR.eq_of_grid this
      subst this
      rw [VR_zero]; grind

/-- THE LAW OF ROUNDING: between two numbers of the format a result stays between them -/
theorem RN.between {q a b : Rat} {z : Nat} (h : RN q z) (ha : Rep a) (hb : Rep b) (h1 : a ≤ q) (h2 : q ≤ b) :
    fin z ∧ a ≤ rv z ∧ rv z ≤ b := by
  obtain ⟨r, s, hz, hR, hn, hp⟩ := h
  obtain ⟨ga, hga, hga'⟩ := ha
  obtain ⟨gb, hgb, hgb'⟩ := hb
  have Ra : Rnd (ab a) ga := by rw [hga']; exact Rnd.exact ga
  have Rb : Rnd (ab b) gb := by rw [hgb']; exact Rnd.exact gb
  rcases lt_or_le q 0 with hq | hq
  · have hle : ab q ≤ ab a := by unfold ab; grind
    have hr := hR.mono Ra hle
    obtain ⟨hf, hv⟩ := RN.of_rung hz (by omega) hR hn hp
    rw [if_pos hq] at hv
    refine ⟨hf, ?_, ?_⟩
    · have := VR_le hr
      have ea : ab a = -a := by unfold ab; grind
      rw [hv]; grind
    · rw [hv]
      rcases lt_or_le b 0 with hb | hb
      · have hle : ab b ≤ ab q := by unfold ab; grind
        have := VR_le (Rb.mono hR hle)
        have eb : ab b = -b := by unfold ab; grind
        grind
      · have := VR_nonneg r; grind
  · have hle : ab q ≤ ab b := by unfold ab; grind
    have hr := hR.mono Rb hle
    obtain ⟨hf, hv⟩ := RN.of_rung hz (by omega) hR hn hp
    rw [if_neg (by grind)] at hv
    refine ⟨hf, ?_, ?_⟩
    · rw [hv]
      rcases lt_or_le 0 a with ha | ha
      · have hle : ab a ≤ ab q := by unfold ab; grind
        have := VR_le (Ra.mono hR hle)
        have ea : ab a = a := by unfold ab; grind
        grind
      · have := VR_nonneg r; grind
    · have := VR_le hr
      have eb : ab b = b := by unfold ab; grind
      rw [hv]; grind

/-- a number of the format is not turned -/
theorem RN.exact {q : Rat} {z : Nat} (h : RN q z) (hq : Rep q) : fin z ∧ rv z = q := by
  obtain ⟨a, b, c⟩ := h.between hq hq Rat.le_refl Rat.le_refl
  exact ⟨a, Rat.le_antisymm c b⟩

theorem RN.mono {p q : Rat} {x y : Nat} (hp : RN p x) (hq : RN q y) (hx : fin x) (hy : fin y) (h : p ≤ q) : rv x ≤ rv y := by
  obtain ⟨r, s, hz, hR, hn, hp⟩ := hp
  obtain ⟨r', s', hz', hR', hn', hp'⟩ := hq
  have hr : r < 2047 * 2^52 := by
    unfold fin at hx
    rw [hz, rung_word s (by rw [infRung_eq]; omega), infRung_eq] at hx; omega
  have hr' : r' < 2047 * 2^52 := by
    unfold fin at hy
    rw [hz', rung_word s' (by rw [infRung_eq]; omega), infRung_eq] at hy; omega
  obtain ⟨_, e1⟩ := RN.of_rung hz hr hR hn hp
  obtain ⟨_, e2⟩ := RN.of_rung hz' hr' hR' hn' hp'
  rw [e1, e2]
  have n1 := VR_nonneg r
  have n2 := VR_nonneg r'
  by_cases h1 : p < 0 <;> by_cases h2 : q < 0
  · rw [if_pos h1, if_pos h2]
    have := VR_le (hR'.mono hR (by unfold ab; grind)); grind
  · rw [if_pos h1, if_neg h2]; grind
  · grind
  · rw [if_neg h1, if_neg h2]
    have := VR_le (hR.mono hR' (by unfold ab; grind)); grind

/-! ## which numbers the format has -/
def topE : Nat := 2046
theorem V_top : V (2047 * 2^52) = 2^52 * 2^topE := by
  have e : topE = 2046 := rfl
  have h := V_eq topE (2^52) (by omega) (by omega)
  rwa [show topE * 2^52 + 2^52 = 2047 * 2^52 from by rw [e]] at h

theorem rep_grid (n e : Nat) (hn : n ≤ 2^53) (hv : n * 2^e < 2^52 * 2^topE) : Rep ((n : Rat) * 2 ^ ((e : Int) - 1074)) := by
  obtain ⟨g, hg⟩ := V_grid n e hn
  refine ⟨g, ?_, ?_⟩
  · rw [← V_lt_iff, hg, V_top]; exact hv
  · unfold VR
    rw [hg, Rat.natCast_mul, natPow, Rat.mul_assoc]
    unfold U
    rw [← zpow_add', ← Int.sub_eq_add_neg]
    exact ab_nonneg_eq (Rat.mul_nonneg Rat.natCast_nonneg (Rat.le_of_lt (zpow_pos' _)))

theorem rep_grid' (n e : Nat) (hn : n ≤ 2^53) (he : e < 2045) : Rep ((n : Rat) * 2 ^ ((e : Int) - 1074)) := by
  refine rep_grid n e hn ?_
  have h1 : n * 2^e ≤ 2^53 * 2^e := Nat.mul_le_mul_right _ hn
  have h2 : 2^53 * 2^e = 2^52 * 2^(e + 1) := by rw [Nat.pow_succ 2 e, show 2^53 = 2^52 * 2 from rfl, Nat.mul_assoc, Nat.mul_comm 2]
  have h3 : 2^52 * 2^(e + 1) < 2^52 * 2^topE := Nat.mul_lt_mul_of_pos_left (Nat.pow_lt_pow_right (by omega) (show e + 1 < topE from by unfold topE; omega)) (by omega)
  exact Nat.lt_of_le_of_lt (h2 ▸ h1) h3

theorem rep_nat (n : Nat) (h : n ≤ 2^53) : Rep (n : Rat) := by
  have h1 := rep_grid' n 1074 h (by omega)
  rwa [show (((1074 : Nat) : Int) - 1074) = 0 from by decide, Rat.zpow_zero, Rat.mul_one] at h1

theorem rep_int (n : Int) (h : n.natAbs ≤ 2^53) : Rep (n : Rat) := by
  obtain ⟨g, h1, h2⟩ := rep_nat n.natAbs h
  refine ⟨g, h1, ?_⟩
  rw [← h2, ab_intCast, ab_nonneg_eq (ab_nonneg _)]

theorem ofInt_fin (n : Int) (h : n.natAbs ≤ 2^53) : fin (ofInt n) ∧ rv (ofInt n) = n := (ofInt_rn n).exact (rep_int n h)
end Fl
