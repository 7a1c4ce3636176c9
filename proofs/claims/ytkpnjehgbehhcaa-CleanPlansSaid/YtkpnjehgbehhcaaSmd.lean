/- Twice each number is twice the sum, to the last bit: rounding a sum of two words goes along with doubling. -/
import Derived.Test.YtkpnjehgbehhcaaSme
namespace Fl

/-! ## signs -/
theorem nearest_sg (neg : Bool) (m : Nat) (p : Int) : sg (D.nearest neg m p) = neg := by
  obtain ⟨r, h, _⟩ := nearest_rnd neg m p
  rw [h]
  exact sg_word neg (by rw [infRung_eq]; omega)

theorem sum_sg (s t : Bool) (m n : Nat) (i j : Int) : ∃ d, (Ieee.Datum.number s m i).sum (.number t n j) = some d ∧
    sg (D.write d) = if sv s * ((m : Rat) * 2 ^ i) + sv t * ((n : Rat) * 2 ^ j) = 0 then s && t else decide (sv s * ((m : Rat) * 2 ^ i) + sv t * ((n : Rat) * 2 ^ j) < 0) := by
  refine ⟨_, rfl, ?_⟩
  simp only [Ieee.Format.write]
  rw [nearest_sg]
  have e1 : sv s * ((m : Rat) * 2 ^ i) + sv t * ((n : Rat) * 2 ^ j) = ((Ieee.signed s m (i - min i j).toNat + Ieee.signed t n (j - min i j).toNat : Int) : Rat) * 2 ^ (min i j) := by
    rw [Rat.intCast_add, signed_eq, signed_eq, Rat.add_mul]
    have h1 : (2 : Rat) ^ i = 2 ^ ((i - min i j).toNat : Int) * 2 ^ (min i j) := by rw [← zpow_add']; congr 1; omega
    have h2 : (2 : Rat) ^ j = 2 ^ ((j - min i j).toNat : Int) * 2 ^ (min i j) := by rw [← zpow_add']; congr 1; omega
    rw [h1, h2]; grind
  rw [e1]
  generalize Ieee.signed s m (i - min i j).toNat + Ieee.signed t n (j - min i j).toNat = total
  have hp := zpow_pos' (min i j)
  have hz : ((total : Rat) * 2 ^ min i j = 0) ↔ total = 0 := by
    rw [Rat.mul_eq_zero]
    constructor
    · rintro (h | h)
      · exact Rat.intCast_eq_zero_iff.1 h
      · grind
    · intro h; left; exact Rat.intCast_eq_zero_iff.2 h
  have hn : ((total : Rat) * 2 ^ min i j < 0) ↔ total < 0 := by
    rw [Rat.mul_neg_iff_of_pos_right hp, Rat.intCast_neg_iff]
  by_cases h : total = 0
  · rw [if_pos h, if_pos (hz.2 h)]
  · rw [if_neg h, if_neg (fun h' => h (hz.1 h'))]
    rw [Bool.eq_iff_iff, decide_eq_true_eq, decide_eq_true_eq, hn]

theorem fadd_sg {x y : Nat} (hx : fin x) (hy : fin y) : sg (fadd x y) = if rv x + rv y = 0 then sg x && sg y else decide (rv x + rv y < 0) := by
  obtain ⟨m, i, h1, h2, _⟩ := rv_read hx
  obtain ⟨n, j, h3, h4, _⟩ := rv_read hy
  obtain ⟨d, h5, h6⟩ := sum_sg (sg x) (sg y) m n i j
  unfold fadd Ieee.Format.add
  rw [h1, h3, h5]
  rw [h2, h4] at h6
  exact h6

theorem fsub_sg {x y : Nat} (hx : fin x) (hy : fin y) : sg (fsub x y) = if rv x - rv y = 0 then sg x && !sg y else decide (rv x - rv y < 0) := by
  obtain ⟨m, i, h1, h2, _⟩ := rv_read hx
  obtain ⟨n, j, h3, h4, _⟩ := rv_read hy
  obtain ⟨d, h5, h6⟩ := sum_sg (sg x) (!sg y) m n i j
  unfold fsub Ieee.Format.sub
  rw [h1, h3]
  simp only [Ieee.Datum.opposite]
  rw [h5]
  rw [sv_not, h2, show -sv (sg y) * ((n : Rat) * 2 ^ j) = - rv y by rw [← h4]; grind, ← Rat.sub_eq_add_neg] at h6
  exact h6

theorem rv_sign {x : Nat} (h : rv x ≠ 0) : decide (rv x < 0) = sg x := by
  have hv : 0 < VR (rung x) := by
    have := VR_nonneg (rung x)
    rcases Rat.le_iff_lt_or_eq.1 this with h' | h'
    · exact h'
    · exfalso; apply h; unfold rv; rw [← h']; grind
  unfold rv sv at *
  cases hs : sg x
  · simp only [Bool.false_eq_true, if_false]; rw [decide_eq_false_iff_not]; grind
  · simp only [if_true]; rw [decide_eq_true_eq]; grind

theorem word_ext {x y : Nat} (hx : x < 2^64) (hy : y < 2^64) (h : rv x = rv y) (hs : sg x = sg y) : x = y := by
  have h1 : VR (rung x) = VR (rung y) := by
    have := congrArg ab h
    unfold rv at this
    rwa [ab_sv _ (VR_nonneg _), ab_sv _ (VR_nonneg _)] at this
  rw [word_split hx, word_split hy, VR_inj h1, hs]

theorem fadd_lt64 (x y : Nat) : fadd x y < 2^64 := by
  unfold fadd
  cases h : D.add x y with
  | none => exact (by decide : cN < 2^64)
  | some r => exact D.add_lt h
theorem fsub_lt64 (x y : Nat) : fsub x y < 2^64 := by
  unfold fsub
  cases h : D.sub x y with
  | none => exact (by decide : cN < 2^64)
  | some r => exact D.sub_lt h
theorem fmul_lt64 (x y : Nat) : fmul x y < 2^64 := by
  unfold fmul
  cases h : D.mul x y with
  | none => exact (by decide : cN < 2^64)
  | some r => exact D.mul_lt h

/-! ## rounding and doubling -/
theorem V_double (r : Nat) (h : 2^52 ≤ r) : V (r + 2^52) = 2 * V r ∧ V (r + 2^52 + 1) = 2 * V (r + 1) := by
  obtain ⟨e, k, h1, h2, rfl, hv⟩ := V_split r h
  constructor
  · rw [hv, show e * 2^52 + k + 2^52 = (e + 1) * 2^52 + k by omega, V_eq _ _ h1 (by omega), Nat.pow_succ]
    rw [← Nat.mul_assoc, Nat.mul_comm]
  · rw [show e * 2^52 + k + 2^52 + 1 = (e + 1) * 2^52 + (k + 1) by omega, show e * 2^52 + k + 1 = e * 2^52 + (k + 1) by omega,
      V_eq _ _ (by omega) (by omega), V_eq _ _ (by omega) (by omega), Nat.pow_succ]
    rw [← Nat.mul_assoc, Nat.mul_comm]

theorem two_nat (n : Nat) : ((2 * n : Nat) : Rat) = 2 * (n : Rat) := by rw [Rat.natCast_mul]; rfl

theorem Rnd.double {a : Rat} {r : Nat} {n : Nat} (ha : a = (n : Rat) * U) (h : Rnd a r) : ∃ r', Rnd (2 * a) r' ∧ VR r' = 2 * VR r := by
  have hU := U_pos
  have cancel : ∀ x y : Rat, x * U < y * U → x < y := fun x y h => (Rat.mul_lt_mul_right hU).1 h
  have cancel' : ∀ x y : Rat, x * U = y * U → x = y := by
    intro x y h
    have h1 : (x - y) * U = 0 := by grind
    rcases Rat.mul_eq_zero.1 h1 with h | h
    · grind
    · grind
  -- what the thresholds say of whole numbers
  have low : ∀ s, thr s a → V s + V (s + 1) ≤ 2 * n := by
    intro s hs
    have : ((V s + V (s + 1) : Nat) : Rat) ≤ ((2 * n : Nat) : Rat) := by
      rw [Rat.natCast_add, two_nat]
      unfold thr VR at hs
      rw [ha] at hs
      rcases hs with hs | ⟨hs, _⟩
      · have := cancel ((V s : Rat) + (V (s + 1) : Rat)) (2 * (n : Rat)) (by grind); grind
      · have := cancel' ((V s : Rat) + (V (s + 1) : Rat)) (2 * (n : Rat)) (by grind); grind
    exact Rat.natCast_le_natCast.1 this
  have high : ∀ s, ¬ thr s a → 2 * n ≤ V s + V (s + 1) := by
    intro s hs
    have : ((2 * n : Nat) : Rat) ≤ ((V s + V (s + 1) : Nat) : Rat) := by
      rw [Rat.natCast_add, two_nat]
      rcases lt_or_le ((V s : Rat) + (V (s + 1) : Rat)) (2 * (n : Rat)) with h | h
      · exfalso; apply hs; left; unfold VR; rw [ha]
        have := Rat.mul_lt_mul_of_pos_right h hU
        grind
      · exact h
    exact Rat.natCast_le_natCast.1 this
  have h2 := high r h.2
  by_cases hr : r < 2^52
  · -- a is the rung's own value
    have hn : n = V r := by
      have e1 : V r = r := V_small hr
      have e2 : V (r + 1) = r + 1 := by
        by_cases h' : r + 1 < 2^52
        · exact V_small h'
        · have : r + 1 = 0 * 2^52 + 2^52 := by omega
          rw [this, V_eq 0 _ (by omega) (by omega)]
      rw [e1, e2] at h2
      rw [e1]
      rcases Nat.eq_zero_or_pos r with h0 | h0
      · omega
      · have h1 := low (r - 1) (h.1 (r - 1) (by omega))
        rw [V_small (show r - 1 < 2^52 by omega), show r - 1 + 1 = r by omega, e1] at h1
        omega
    obtain ⟨g, hg⟩ := V_grid r 1 (by omega)
    have e : VR g = 2 * VR r := by
      unfold VR; rw [hg, V_small hr, Nat.pow_one, Nat.mul_comm, two_nat]; grind
    refine ⟨g, ?_, e⟩
    have : 2 * a = VR g := by rw [e, ha, hn]; rfl
    rw [this]; exact Rnd.exact g
  · obtain ⟨d1, d2⟩ := V_double r (by omega)
    have e1 : VR (r + 2^52) = 2 * VR r := by unfold VR; rw [d1, two_nat]; grind
    have e2 : VR (r + 2^52 + 1) = 2 * VR (r + 1) := by unfold VR; rw [d2, two_nat]; grind
    refine ⟨r + 2^52, ⟨?_, ?_⟩, e1⟩
    · intro s hs
      by_cases hr2 : r = 2^52
      · left
        have h1 := low (2^52 - 1) (h.1 (2^52 - 1) (by omega))
        have v1 : V (2^52 - 1) = 2^52 - 1 := V_small (by omega)
        have v2 : V (2^52 - 1 + 1) = 2^52 := by
          have := V_eq 0 (2^52) (by omega) (by omega)
          rw [show 2^52 - 1 + 1 = 0 * 2^52 + 2^52 by omega, this]
        rw [v1, v2] at h1
        have hle : VR r ≤ a := by
          rw [ha]; unfold VR
          refine Rat.mul_le_mul_of_nonneg_right (Rat.natCast_le_natCast.2 ?_) (Rat.le_of_lt hU)
          rw [hr2, show 2^52 = 0 * 2^52 + 2^52 by omega, V_eq 0 _ (by omega) (by omega)]; omega
        have := VR_lt (show s < r + 2^52 by omega)
        rw [← hs]
        grind
      · have hs' : s = (r - 1) + 2^52 := by omega
        obtain ⟨f1, f2⟩ := V_double (r - 1) (by omega)
        have ht := h.1 (r - 1) (by omega)
        have g1 : VR s = 2 * VR (r - 1) := by unfold VR; rw [hs', f1, two_nat]; grind
        have g2 : VR (s + 1) = 2 * VR (r - 1 + 1) := by unfold VR; rw [hs', f2, two_nat]; grind
        unfold thr at ht ⊢
        rw [g1, g2]
        rcases ht with ht | ⟨ht, hp⟩
        · left; grind
        · right; exact ⟨by grind, by omega⟩
    · intro ht
      apply h.2
      unfold thr at ht ⊢
      rw [e1, e2] at ht
      rcases ht with ht | ⟨ht, hp⟩
      · left; grind
      · right; exact ⟨by grind, by omega⟩

/-- every finite word is a whole number of units -/
theorem rv_units (x : Nat) : ∃ n : Int, rv x = (n : Rat) * U := by
  refine ⟨if sg x then -(V (rung x) : Int) else (V (rung x) : Int), ?_⟩
  unfold rv VR sv
  cases sg x
  · simp only [Bool.false_eq_true, if_false]; rw [Rat.intCast_natCast]; grind
  · simp only [if_true]; rw [Rat.intCast_neg, Rat.intCast_natCast]; grind

theorem ab_units {q : Rat} {n : Int} (h : q = (n : Rat) * U) : ab q = (n.natAbs : Rat) * U := by
  rw [h, ab_mul_pos _ U_pos, ab_intCast]

/-- a sum of words and the doubled one, rounded -/
theorem RN.double {q : Rat} {n : Int} {z z' : Nat} (hq : q = (n : Rat) * U) (h : RN q z) (h' : RN (2 * q) z') (hf : fin z) (hf' : fin z') : rv z' = 2 * rv z := by
  obtain ⟨r, s, hz, hR, hn, hp⟩ := h
  obtain ⟨r', s', hz', hR', hn', hp'⟩ := h'
  have hr : r < 2047 * 2^52 := by
    unfold fin at hf
    rw [hz, rung_word s (by rw [infRung_eq]; omega), infRung_eq] at hf; omega
  have hr' : r' < 2047 * 2^52 := by
    unfold fin at hf'
    rw [hz', rung_word s' (by rw [infRung_eq]; omega), infRung_eq] at hf'; omega
  obtain ⟨_, e1⟩ := RN.of_rung hz hr hR hn hp
  obtain ⟨_, e2⟩ := RN.of_rung hz' hr' hR' hn' hp'
  obtain ⟨g, hg, hv⟩ := Rnd.double (ab_units hq) hR
  have e3 : ab (2 * q) = 2 * ab q := by unfold ab; grind
  rw [e3] at hR'
  have := hg.unique hR'
  subst this
  rw [e1, e2, hv]
  by_cases h : q < 0
  · rw [if_pos h, if_pos (by grind)]; grind
  · rw [if_neg h, if_neg (by grind)]

/-- a word twice -/
def dbl (x : Nat) : Nat := fadd x x

/-- a finite word within k * 2^997 -/
def Lim (k : Nat) (x : Nat) : Prop := fin x ∧ ab (rv x) ≤ (k : Rat) * bigB

theorem Lim.add {j k : Nat} {x y : Nat} (hx : Lim j x) (hy : Lim k y) (h : j + k ≤ 67108864) : Lim (j + k) (fadd x y) :=
  (fadd_rn hx.1 hy.1).big h (by rw [natB]; exact ab_add_le hx.2 hy.2)
theorem Lim.sub {j k : Nat} {x y : Nat} (hx : Lim j x) (hy : Lim k y) (h : j + k ≤ 67108864) : Lim (j + k) (fsub x y) :=
  (fsub_rn hx.1 hy.1).big h (by rw [natB]; exact ab_sub_le hx.2 hy.2)
theorem Lim.mono {j k : Nat} {x : Nat} (hx : Lim j x) (h : j ≤ k) : Lim k x := by
  refine ⟨hx.1, Rat.le_trans hx.2 ?_⟩
  exact Rat.mul_le_mul_of_nonneg_right (Rat.natCast_le_natCast.2 h) (Rat.le_of_lt bigB_pos)

theorem word_rnd {x : Nat} (h : fin x) : RN (rv x) (D.word (sg x) (rung x)) := by
  unfold fin at h
  refine ⟨rung x, sg x, by rw [infRung_eq, Nat.min_eq_left (by omega)], ?_, ?_, ?_⟩
  · rw [show ab (rv x) = VR (rung x) from by unfold rv; exact ab_sv _ (VR_nonneg _)]; exact Rnd.exact _
  · intro hq
    have := rv_sign (x := x) (by grind)
    rw [← this]; exact decide_eq_true hq
  · intro hq
    have := rv_sign (x := x) (by grind)
    rw [← this]; exact decide_eq_false (by grind)

theorem dbl_facts {k x : Nat} (h : Lim k x) (hk : 2 * k ≤ 67108864) : Lim (2 * k) (dbl x) ∧ rv (dbl x) = 2 * rv x ∧ sg (dbl x) = sg x := by
  have hl : Lim (2 * k) (dbl x) := by have := h.add h (by omega); rwa [show k + k = 2 * k by omega] at this
  obtain ⟨n, hn⟩ := rv_units x
  have hw := word_rnd h.1
  have hf := (word_fin (sg x) (r := rung x) h.1)
  have hr : rv (dbl x) = 2 * rv x := by
    have hd := fadd_rn h.1 h.1
    rw [show rv x + rv x = 2 * rv x by grind] at hd
    have := RN.double hn hw hd hf.1 hl.1
    rw [hf.2] at this
    exact this
  refine ⟨hl, hr, ?_⟩
  unfold dbl
  rw [fadd_sg h.1 h.1]
  by_cases hz : rv x = 0
  · rw [if_pos (by rw [hz]; grind)]; simp
  · rw [if_neg (by grind), ← rv_sign hz]
    rw [Bool.eq_iff_iff, decide_eq_true_eq, decide_eq_true_eq]
    constructor <;> intro <;> grind

theorem hom_add {j k x y : Nat} (hx : Lim j x) (hy : Lim k y) (h : 2 * (j + k) ≤ 67108864) : fadd (dbl x) (dbl y) = dbl (fadd x y) := by
  obtain ⟨x1, x2, x3⟩ := dbl_facts hx (by omega)
  obtain ⟨y1, y2, y3⟩ := dbl_facts hy (by omega)
  have hs := hx.add hy (by omega)
  obtain ⟨s1, s2, s3⟩ := dbl_facts hs h
  have hS := x1.add y1 (by omega)
  obtain ⟨n, hn⟩ := rv_units x
  obtain ⟨m, hm⟩ := rv_units y
  have hq : rv x + rv y = ((n + m : Int) : Rat) * U := by rw [Rat.intCast_add, hn, hm]; grind
  have hd := fadd_rn x1.1 y1.1
  rw [x2, y2, show 2 * rv x + 2 * rv y = 2 * (rv x + rv y) by grind] at hd
  have hr := RN.double hq (fadd_rn hx.1 hy.1) hd hs.1 hS.1
  refine word_ext (fadd_lt64 _ _) (fadd_lt64 _ _) ?_ ?_
  · rw [s2, hr]
  · rw [s3, fadd_sg x1.1 y1.1, fadd_sg hx.1 hy.1, x2, y2, x3, y3]
    by_cases hz : rv x + rv y = 0
    · rw [if_pos hz, if_pos (by grind)]
    · rw [if_neg hz, if_neg (by grind), Bool.eq_iff_iff, decide_eq_true_eq, decide_eq_true_eq]
      constructor <;> intro <;> grind

theorem hom_sub {j k x y : Nat} (hx : Lim j x) (hy : Lim k y) (h : 2 * (j + k) ≤ 67108864) : fsub (dbl x) (dbl y) = dbl (fsub x y) := by
  obtain ⟨x1, x2, x3⟩ := dbl_facts hx (by omega)
  obtain ⟨y1, y2, y3⟩ := dbl_facts hy (by omega)
  have hs := hx.sub hy (by omega)
  obtain ⟨s1, s2, s3⟩ := dbl_facts hs h
  have hS := x1.sub y1 (by omega)
  obtain ⟨n, hn⟩ := rv_units x
  obtain ⟨m, hm⟩ := rv_units y
  have hq : rv x - rv y = ((n - m : Int) : Rat) * U := by rw [Rat.intCast_sub, hn, hm]; grind
  have hd := fsub_rn x1.1 y1.1
  rw [x2, y2, show 2 * rv x - 2 * rv y = 2 * (rv x - rv y) by grind] at hd
  have hr := RN.double hq (fsub_rn hx.1 hy.1) hd hs.1 hS.1
  refine word_ext (fsub_lt64 _ _) (fadd_lt64 _ _) ?_ ?_
  · rw [s2, hr]
  · rw [s3, fsub_sg x1.1 y1.1, fsub_sg hx.1 hy.1, x2, y2, x3, y3]
    by_cases hz : rv x - rv y = 0
    · rw [if_pos hz, if_pos (by grind)]
    · rw [if_neg hz, if_neg (by grind), Bool.eq_iff_iff, decide_eq_true_eq, decide_eq_true_eq]
      constructor <;> intro <;> grind

theorem hom_fge {k j x y : Nat} (hx : Lim k x) (hy : Lim j y) (h : 2 * k ≤ 67108864) (h' : 2 * j ≤ 67108864) : fge (rung (dbl x)) (rung (dbl y)) = fge (rung x) (rung y) := by
  obtain ⟨x1, x2, _⟩ := dbl_facts hx h
  obtain ⟨y1, y2, _⟩ := dbl_facts hy h'
  rw [fge_fin (fin_rung x1.1) (fin_rung y1.1), fge_fin (fin_rung hx.1) (fin_rung hy.1), rv_rung, rv_rung, rv_rung, rv_rung, x2, y2]
  rw [Bool.eq_iff_iff, decide_eq_true_eq, decide_eq_true_eq]
  have e : ∀ q : Rat, ab (2 * q) = 2 * ab q := fun q => by unfold ab; grind
  rw [e, e]
  constructor <;> intro <;> grind

theorem foldS_double (l : List Nat) (hl : l.length ≤ 300) (h : ∀ x ∈ l, Lim 1 x) :
    Lim l.length (foldS l).1 ∧ Lim (l.length * (l.length + 1)) (foldS l).2 ∧ (foldS (l.map dbl)).1 = dbl (foldS l).1 ∧ (foldS (l.map dbl)).2 = dbl (foldS l).2 := by
  induction hn : l.length generalizing l with
  | zero =>
    have : l = [] := List.eq_nil_of_length_eq_zero hn
    subst this
    have hz : Lim 0 0 := ⟨zero_fin.1, by rw [zero_fin.2, show ((0 : Nat) : Rat) = 0 from rfl, Rat.zero_mul]; unfold ab; grind⟩
    exact ⟨hz, hz, by decide, by decide⟩
  | succ n ih =>
    rcases snoc_cases l with rfl | ⟨l', x, rfl⟩
    · simp at hn
    · have hl' : l'.length = n := by simpa using hn
      have hn300 : n + 1 ≤ 300 := by rw [← hn]; exact hl
      have hx := h x (by simp)
      obtain ⟨a1, a2, a3, a4⟩ := ih l' (by omega) (fun y hy => h y (by simp [hy])) hl'
      rw [List.map_append, List.map_cons, List.map_nil, foldS_snoc, foldS_snoc]
      generalize foldS l' = st at *
      generalize foldS (l'.map dbl) = st' at *
      obtain ⟨s, c⟩ := st
      obtain ⟨s', c'⟩ := st'
      simp only at a1 a2 a3 a4
      subst a3 a4
      have hk : n * (n + 1) ≤ 300 * 301 := Nat.mul_le_mul (by omega) (by omega)
      have ek : n * (n + 1) + (2 * n + 2) = (n + 1) * (n + 1 + 1) := by rw [Nat.add_mul, Nat.mul_add, Nat.mul_add, Nat.mul_add]; omega
      have ht := a1.add hx (by omega)
      unfold sstep
      simp only
      rw [hom_add a1 hx (by omega), hom_fge a1 hx (by omega) (by omega)]
      refine ⟨ht, ?_⟩
      split
      · have hd := (a1.sub ht (by omega)).add hx (by omega)
        have hc := a2.add hd (by omega)
        rw [hom_sub a1 ht (by omega), hom_add (a1.sub ht (by omega)) hx (by omega), hom_add a2 hd (by omega)]
        exact ⟨hc.mono (by omega), rfl, rfl⟩
      · have hd := (hx.sub ht (by omega)).add a1 (by omega)
        have hc := a2.add hd (by omega)
        rw [hom_sub hx ht (by omega), hom_add (hx.sub ht (by omega)) a1 (by omega), hom_add a2 hd (by omega)]
        exact ⟨hc.mono (by omega), rfl, rfl⟩

theorem allNegZ_double (l : List Nat) (h : ∀ x ∈ l, Lim 1 x ∧ x < 2^64) : allNegZ (l.map dbl) = allNegZ l := by
  have key : ∀ x ∈ l, (dbl x = negZ ↔ x = negZ) := by
    intro x hx
    obtain ⟨h1, h2⟩ := h x hx
    obtain ⟨d1, d2, d3⟩ := dbl_facts h1 (by omega)
    have hz : rv negZ = 0 := rv_eq_zero.2 (by decide)
    constructor
    · intro e
      rw [e] at d2 d3
      refine word_ext h2 (by decide) ?_ ?_
      · rw [hz] at d2 ⊢; grind
      · rw [← d3]
    · intro e; subst e; decide
  rw [Bool.eq_iff_iff, allNegZ_iff, allNegZ_iff]
  constructor
  · intro ⟨h1, h2⟩
    exact ⟨by intro e; subst e; simp at h1, fun x hx => (key x hx).1 (h2 _ (List.mem_map_of_mem hx))⟩
  · intro ⟨h1, h2⟩
    refine ⟨by cases l <;> simp at h1 ⊢, fun y hy => ?_⟩
    obtain ⟨x, hx, rfl⟩ := List.mem_map.1 hy
    exact (key x hx).2 (h2 x hx)

/-- TWICE EACH NUMBER IS TWICE THE SUM -/
theorem sum_double (l : List Nat) (hl : l.length ≤ 300) (h : ∀ x ∈ l, Lim 1 x ∧ x < 2^64) : sumF (l.map dbl) = dbl (sumF l) := by
  obtain ⟨a1, a2, a3, a4⟩ := foldS_double l hl (fun x hx => (h x hx).1)
  have hk : l.length * (l.length + 1) ≤ 300 * 301 := Nat.mul_le_mul (by omega) (by omega)
  unfold sumF
  rw [allNegZ_double l h, a3, a4]
  split
  · decide
  · obtain ⟨d1, _⟩ := dbl_facts a2 (by omega)
    rw [if_neg (by rw [fin_not_nan d1.1]; simp), if_neg (by rw [fin_not_nan a2.1]; simp)]
    exact hom_add a1 a2 (by omega)
end Fl
