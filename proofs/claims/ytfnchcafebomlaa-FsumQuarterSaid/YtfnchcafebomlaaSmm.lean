/- Products with ones and noughts; the mean of whole numbers lies between the least and the greatest; the spread is not below 0, and 0 only of numbers that are all one. -/
import Derived.Test.YtfnchcafebomlaaSmd
namespace Fl

/-! ## products -/
theorem fmul_sg {x y : Nat} (hx : fin x) (hy : fin y) : sg (fmul x y) = (sg x ^^ sg y) := by
  obtain ⟨m, i, h1, _⟩ := read_fin hx
  obtain ⟨n, j, h3, _⟩ := read_fin hy
  unfold fmul Ieee.Format.mul
  rw [h1, h3]
  simp only [Ieee.Datum.product, Option.map_some, Option.getD_some, Ieee.Format.write]
  exact nearest_sg _ _ _

theorem fmul_one {x : Nat} (hx : x < 2^64) : fmul x oneW = canon x := by
  rcases kinds x with ⟨h, _, hn⟩ | ⟨_, hi, hn⟩ | ⟨_, _, hn⟩
  · rw [canon_of_not hn]
    obtain ⟨o1, o2⟩ := one_fin
    have h1 := fmul_rn h o1
    rw [o2, show rv x * 1 = rv x by grind] at h1
    obtain ⟨a, b⟩ := h1.exact (rep_rv h)
    refine word_ext (fmul_lt64 _ _) hx b ?_
    rw [fmul_sg h o1, show sg oneW = false from by decide]; simp
  · rw [canon_of_not hn]
    rcases isInf_cases hx hi with rfl | rfl <;> decide
  · rw [canon_of_nan hn]; unfold fmul; rw [nan_mul_l _ hn]; rfl

theorem map_fmul_one (l : List Nat) (h : ∀ x ∈ l, x < 2^64) : l.map (fun x => fmul x oneW) = l.map canon :=
  List.map_congr_left fun x hx => fmul_one (h x hx)

theorem sum_ones (l : List Nat) (h : ∀ x ∈ l, x < 2^64) : sumF (l.map (fun x => fmul x oneW)) = sumF l := by
  rw [map_fmul_one l h]
  refine sumF_congr _ _ ?_
  rw [List.map_map]
  exact List.map_congr_left fun x _ => canon_canon x

theorem fmul_zero {x : Nat} (h : fin x) : fin (fmul x 0) ∧ rv (fmul x 0) = 0 := by
  have h1 := fmul_rn h zero_fin.1
  rw [zero_fin.2, show rv x * 0 = 0 by grind] at h1
  exact h1.exact Rep.zero

/-- a nought of either sign -/
def Nought (x : Nat) : Prop := fin x ∧ rv x = 0
theorem Nought.add {x y : Nat} (hx : Nought x) (hy : Nought y) : Nought (fadd x y) := by
  have h := fadd_rn hx.1 hy.1
  rw [hx.2, hy.2, show (0 : Rat) + 0 = 0 by grind] at h
  exact h.exact Rep.zero
theorem Nought.sub {x y : Nat} (hx : Nought x) (hy : Nought y) : Nought (fsub x y) := by
  have h := fsub_rn hx.1 hy.1
  rw [hx.2, hy.2, show (0 : Rat) - 0 = 0 by grind] at h
  exact h.exact Rep.zero

theorem foldS_noughts (l : List Nat) (h : ∀ x ∈ l, Nought x) : Nought (foldS l).1 ∧ Nought (foldS l).2 := by
  induction hn : l.length generalizing l with
  | zero =>
    have : l = [] := List.eq_nil_of_length_eq_zero hn
    subst this; exact ⟨zero_fin, zero_fin⟩
  | succ n ih =>
    rcases snoc_cases l with rfl | ⟨l', x, rfl⟩
    · simp at hn
    · have hx := h x (by simp)
      obtain ⟨a1, a2⟩ := ih l' (fun y hy => h y (by simp [hy])) (by simpa using hn)
      rw [foldS_snoc]
      unfold sstep
      simp only
      refine ⟨a1.add hx, ?_⟩
      split
      · exact a2.add ((a1.sub (a1.add hx)).add hx)
      · exact a2.add ((hx.sub (a1.add hx)).add a1)

theorem sum_noughts (l : List Nat) (h : ∀ x ∈ l, Nought x) : Nought (sumF l) := by
  obtain ⟨a1, a2⟩ := foldS_noughts l h
  unfold sumF
  split
  · exact ⟨by decide, rv_eq_zero.2 (by decide)⟩
  · rw [if_neg (by rw [fin_not_nan a2.1]; simp)]
    exact a1.add a2

/-- a number less itself is nought just where it is finite -/
theorem odd_iff (x : Nat) : fne (fsub x x) 0 = false ↔ fin x := by
  constructor
  · intro h
    rcases kinds x with ⟨h1, _, _⟩ | ⟨_, hi, _⟩ | ⟨_, _, hn⟩
    · exact h1
    · exfalso
      have : fsub x x = cN := by
        unfold fsub Ieee.Format.sub
        rw [read_inf hi]
        cases sg x <;> rfl
      rw [this] at h; revert h; decide
    · exfalso
      rw [nan_fsub_l _ hn] at h; revert h; decide
  · intro h
    obtain ⟨h1, h2⟩ := self_sub h
    have := feq_zero h1
    rw [h2] at this
    unfold fne; unfold feq at this
    cases he : (D.order (fsub x x) 0 == some Ordering.eq)
    · rw [this] at he; simp at he
    · simpa using he

/-! ## the mean -/
def meanF (l : List Nat) : Nat := fdiv (sumF l) (ofInt l.length)
theorem canon_meanF (l : List Nat) : canon (meanF l) = meanF l := canon_fdiv _ _

theorem isum_le (l : List Int) (b : Int) (h : ∀ x ∈ l, x ≤ b) : isum l ≤ l.length * b := by
  induction hn : l.length generalizing l with
  | zero => have : l = [] := List.eq_nil_of_length_eq_zero hn
            subst this; simp [isum]
  | succ n ih =>
    rcases snoc_cases l with rfl | ⟨l', x, rfl⟩
    · simp at hn
    · rw [isum_snoc]
      have h1 := ih l' (fun y hy => h y (by simp [hy])) (by simpa using hn)
      have h2 := h x (by simp)
      rw [Int.natCast_add, Int.add_mul]; omega
theorem isum_ge (l : List Int) (b : Int) (h : ∀ x ∈ l, b ≤ x) : l.length * b ≤ isum l := by
  induction hn : l.length generalizing l with
  | zero => have : l = [] := List.eq_nil_of_length_eq_zero hn
            subst this; simp [isum]
  | succ n ih =>
    rcases snoc_cases l with rfl | ⟨l', x, rfl⟩
    · simp at hn
    · rw [isum_snoc]
      have h1 := ih l' (fun y hy => h y (by simp [hy])) (by simpa using hn)
      have h2 := h x (by simp)
      rw [Int.natCast_add, Int.add_mul]; omega

theorem mean_between (l : List Int) (low high : Int) (h0 : l ≠ []) (hl : l.length ≤ 300) (hb : ∀ x ∈ l, low ≤ x ∧ x ≤ high) (h1 : -1000000 ≤ low) (h2 : high ≤ 1000000) :
    fin (meanF (l.map ofInt)) ∧ (low : Rat) ≤ rv (meanF (l.map ofInt)) ∧ rv (meanF (l.map ofInt)) ≤ (high : Rat) := by
  have hpos : 0 < l.length := List.length_pos_iff.2 h0
  obtain ⟨s1, s2⟩ := sumF_whole l hl (fun x hx => by have := hb x hx; omega)
  obtain ⟨n1, n2, n3⟩ := ofInt_pos (n := (l.length : Int)) (by omega) (by omega)
  have hlh : low ≤ high := by
    cases l with
    | nil => exact absurd rfl h0
    | cons x l => have := hb x (by simp); omega
  have hn : (0 : Rat) < ((l.length : Int) : Rat) := Rat.intCast_pos.2 (by omega)
  unfold meanF
  rw [List.length_map]
  have hd := fdiv_rn s1 n1 n3
  rw [s2, n2] at hd
  refine hd.between (rep_int low (by omega)) (rep_int high (by omega)) ?_ ?_
  · refine le_div hn ?_
    rw [← Rat.intCast_mul]
    refine Rat.intCast_le_intCast.2 ?_
    have := isum_ge l low (fun x hx => (hb x hx).1)
    rwa [Int.mul_comm]
  · refine div_le hn ?_
    rw [← Rat.intCast_mul]
    refine Rat.intCast_le_intCast.2 ?_
    have := isum_le l high (fun x hx => (hb x hx).2)
    rwa [Int.mul_comm]

/-! ## how far a rounded sum is off -/
theorem Rnd.err {a : Rat} {r n : Nat} (ha : a = (n : Rat) * U) (h : Rnd a r) : ab (VR r - a) * 2147483648 ≤ VR r := by
  have hU := U_pos
  by_cases hr : r < 2^52
  · -- exact
    obtain ⟨g, hg1, hg2⟩ := h.double ha
    have e1 : V r = r := V_small hr
    have e2 : V (r + 1) = r + 1 := by
      by_cases h' : r + 1 < 2^52
      · exact V_small h'
      · have : r + 1 = 0 * 2^52 + 2^52 := by omega
        rw [this, V_eq 0 _ (by omega) (by omega)]
    have up : 2 * n ≤ 2 * r + 1 := by
      have : ((2 * n : Nat) : Rat) ≤ ((2 * r + 1 : Nat) : Rat) := by
        rcases lt_or_le ((2 * r + 1 : Nat) : Rat) ((2 * n : Nat) : Rat) with hc | hc
        · exfalso; apply h.2; left; unfold VR; rw [e1, e2, ha]
          have := Rat.mul_lt_mul_of_pos_right hc hU
          rw [two_nat, Rat.natCast_add, two_nat] at this
          rw [Rat.natCast_add]
          have e : ((1 : Nat) : Rat) = 1 := rfl
          rw [e] at this ⊢
          grind
        · exact hc
      exact Rat.natCast_le_natCast.1 this
    have lo : r ≤ n := by
      rcases Nat.eq_zero_or_pos r with h0 | h0
      · omega
      · have ht := h.1 (r - 1) (by omega)
        have e3 : V (r - 1) = r - 1 := V_small (by omega)
        have e4 : V (r - 1 + 1) = r := by rw [show r - 1 + 1 = r by omega, e1]
        have : ((2 * r - 1 : Nat) : Rat) ≤ ((2 * n : Nat) : Rat) := by
          rcases lt_or_le ((2 * n : Nat) : Rat) ((2 * r - 1 : Nat) : Rat) with hc | hc
          · exfalso
            have hc' := Rat.mul_lt_mul_of_pos_right hc hU
            unfold thr VR at ht
            rw [e3, e4, ha] at ht
            have e5 : ((2 * r - 1 : Nat) : Rat) = ((r - 1 : Nat) : Rat) + (r : Rat) := by rw [← Rat.natCast_add]; congr 1; omega
            rw [e5, two_nat] at hc'
            rcases ht with ht | ⟨ht, _⟩ <;> grind
          · exact hc
        have := Rat.natCast_le_natCast.1 this
        omega
    have : n = r := by omega
    have e : VR r - a = 0 := by rw [ha, this]; unfold VR; rw [e1]; grind
    rw [e]
    have := VR_nonneg r
    unfold ab; grind
  · have g1 : (V (r + 1) - V r) * 2^30 ≤ V r := Nat.le_trans (Nat.mul_le_mul_left _ (by omega)) (V_gap r (by omega))
    have g2' : (V r - V (r - 1)) * 2^52 ≤ V r := by
      by_cases h' : 2^52 ≤ r - 1
      · have := V_gap (r - 1) h'
        rw [show r - 1 + 1 = r by omega] at this
        exact Nat.le_trans this (V_le (by omega))
      · have hr' : r = 2^52 := by omega
        have e1 : V r = 2^52 := by
          have := V_eq 0 (2^52) (by omega) (by omega)
          rw [show r = 0 * 2^52 + 2^52 by omega, this]
        have e2 : 2^52 - (r - 1) = 1 := by omega
        rw [e1, V_small (show r - 1 < 2^52 by omega), e2, Nat.one_mul]; exact Nat.le_refl _
    have g2 : (V r - V (r - 1)) * 2^30 ≤ V r := Nat.le_trans (Nat.mul_le_mul_left _ (by omega)) g2'
    have l1 := V_lt (show r < r + 1 by omega)
    have l2 := V_lt (show r - 1 < r by omega)
    have k1 : (((V (r + 1) - V r) * 2^30 : Nat) : Rat) * U ≤ VR r := by
      unfold VR; exact Rat.mul_le_mul_of_nonneg_right (Rat.natCast_le_natCast.2 g1) (Rat.le_of_lt hU)
    have k2 : (((V r - V (r - 1)) * 2^30 : Nat) : Rat) * U ≤ VR r := by
      unfold VR; exact Rat.mul_le_mul_of_nonneg_right (Rat.natCast_le_natCast.2 g2) (Rat.le_of_lt hU)
    have p52 : ((2^30 : Nat) : Rat) = 1073741824 := rfl
    have s1 : ((V (r + 1) - V r : Nat) : Rat) = (V (r + 1) : Rat) - (V r : Rat) := by
      have : ((V (r + 1) - V r : Nat) : Rat) + (V r : Rat) = (V (r + 1) : Rat) := by rw [← Rat.natCast_add]; congr 1; omega
      grind
    have s2 : ((V r - V (r - 1) : Nat) : Rat) = (V r : Rat) - (V (r - 1) : Rat) := by
      have : ((V r - V (r - 1) : Nat) : Rat) + (V (r - 1) : Rat) = (V r : Rat) := by rw [← Rat.natCast_add]; congr 1; omega
      grind
    rw [Rat.natCast_mul, p52, s1] at k1
    rw [Rat.natCast_mul, p52, s2] at k2
    have hi : 2 * a ≤ VR r + VR (r + 1) := by
      rcases lt_or_le (VR r + VR (r + 1)) (2 * a) with hc | hc
      · exact absurd (.inl hc) h.2
      · exact hc
    have hlo : VR (r - 1) + VR r ≤ 2 * a := by
      have ht := h.1 (r - 1) (by omega)
      unfold thr at ht
      rw [show r - 1 + 1 = r by omega] at ht
      rcases ht with ht | ⟨ht, _⟩ <;> grind
    unfold VR at *
    unfold ab
    split <;> grind

theorem RN.err {q : Rat} {n : Int} {z : Nat} (hq : q = (n : Rat) * U) (h : RN q z) (hf : fin z) : ab (rv z - q) * 2147483648 ≤ ab (rv z) := by
  obtain ⟨r, s, hz, hR, hn, hp⟩ := h
  have hr : r < 2047 * 2^52 := by
    unfold fin at hf
    rw [hz, rung_word s (by rw [infRung_eq]; omega), infRung_eq] at hf; omega
  obtain ⟨_, e1⟩ := RN.of_rung hz hr hR hn hp
  have he := hR.err (ab_units hq)
  have hv := VR_nonneg r
  rw [e1]
  by_cases h : q < 0
  · rw [if_pos h]
    have a1 : ab q = -q := by unfold ab; rw [if_pos h]
    rw [a1] at he
    rw [show -VR r - q = -(VR r - -q) by grind, ab_neg, ab_neg, ab_nonneg_eq hv]
    exact he
  · rw [if_neg h]
    have a1 : ab q = q := by unfold ab; rw [if_neg h]
    rw [a1] at he
    rw [ab_nonneg_eq hv]
    exact he
end Fl
