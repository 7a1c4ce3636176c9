/- Plain theory of binary64 rounding: magnitudes of rungs, and rounding half to even of n / 2^d. -/
import Ieee.Arith
namespace Fl

/-- the magnitude of a rung, in units of the least place -/
def V (r : Nat) : Nat := if r < 2^52 then r else (2^52 + r % 2^52) * 2^(r / 2^52 - 1)

theorem V_small {k : Nat} (h : k < 2^52) : V k = k := by simp [V, h]

theorem V_eq (e k : Nat) (h1 : 2^52 ≤ k) (h2 : k ≤ 2^53) : V (e * 2^52 + k) = k * 2^e := by
  unfold V
  have h : ¬ (e * 2^52 + k < 2^52) := by omega
  rw [if_neg h]
  by_cases hk : k = 2^53
  · subst hk
    have a : (e * 2^52 + 2^53) / 2^52 = e + 2 := by omega
    have b : (e * 2^52 + 2^53) % 2^52 = 0 := by omega
    rw [a, b, show e + 2 - 1 = e + 1 from rfl, Nat.pow_succ]
    omega
  · have a : (e * 2^52 + k) / 2^52 = e + 1 := by omega
    have b : 2^52 + (e * 2^52 + k) % 2^52 = k := by omega
    rw [a, b]; rfl

theorem V_split (r : Nat) (h : 2^52 ≤ r) : ∃ e k, 2^52 ≤ k ∧ k < 2^53 ∧ r = e * 2^52 + k ∧ V r = k * 2^e := by
  refine ⟨r / 2^52 - 1, r % 2^52 + 2^52, by omega, by omega, by omega, ?_⟩
  have := V_eq (r / 2^52 - 1) (r % 2^52 + 2^52) (by omega) (by omega)
  rwa [show (r / 2^52 - 1) * 2^52 + (r % 2^52 + 2^52) = r by omega] at this

theorem V_succ (r : Nat) : V r < V (r + 1) := by
  by_cases h : r < 2^52
  · by_cases h' : r + 1 < 2^52
    · rw [V_small h, V_small h']; omega
    · have : r + 1 = 0 * 2^52 + 2^52 := by omega
      rw [this, V_eq 0 _ (by omega) (by omega), V_small h]; omega
  · obtain ⟨e, k, h1, h2, rfl, hv⟩ := V_split r (by omega)
    rw [hv, Nat.add_assoc, V_eq e (k + 1) (by omega) (by omega)]
    exact Nat.mul_lt_mul_of_pos_right (by omega) (Nat.two_pow_pos e)

theorem V_lt {r s : Nat} (h : r < s) : V r < V s := by
  obtain ⟨d, rfl⟩ := Nat.exists_eq_add_of_lt h
  induction d with
  | zero => exact V_succ r
  | succ d ih => exact Nat.lt_trans (ih (by omega)) (V_succ _)

theorem V_le {r s : Nat} (h : r ≤ s) : V r ≤ V s := by
  rcases Nat.lt_or_eq_of_le h with h | h
  · exact Nat.le_of_lt (V_lt h)
  · rw [h]; exact Nat.le_refl _

theorem V_inj {r s : Nat} (h : V r = V s) : r = s := by
  rcases Nat.lt_trichotomy r s with h' | h' | h'
  · have := V_lt h'; omega
  · exact h'
  · have := V_lt h'; omega

theorem V_lt_iff {r s : Nat} : V r < V s ↔ r < s := by
  constructor
  · intro h
    rcases Nat.lt_or_ge r s with h' | h'
    · exact h'
    · have := V_le h'; omega
  · exact V_lt

theorem V_le_iff {r s : Nat} : V r ≤ V s ↔ r ≤ s := by
  constructor
  · intro h
    rcases Nat.lt_or_ge s r with h' | h'
    · have := V_lt h'; omega
    · exact h'
  · exact V_le

theorem V_zero : V 0 = 0 := rfl

/-- the next rung is at most one part in 2^52 away -/
theorem V_gap (r : Nat) (h : 2^52 ≤ r) : (V (r + 1) - V r) * 2^52 ≤ V r := by
  obtain ⟨e, k, h1, h2, rfl, hv⟩ := V_split r h
  rw [hv, Nat.add_assoc, V_eq e (k + 1) (by omega) (by omega), ← Nat.sub_mul]
  have : k + 1 - k = 1 := by omega
  rw [this, Nat.one_mul, Nat.mul_comm]
  exact Nat.mul_le_mul_right _ h1

/-- whole numbers below 2^53, shifted, are magnitudes -/
theorem V_grid (n e : Nat) (h : n ≤ 2^53) : ∃ r, V r = n * 2^e := by
  rcases Nat.eq_zero_or_pos n with rfl | hn
  · exact ⟨0, by simp [V_zero]⟩
  have hl1 := Nat.log2_self_le (by omega : n ≠ 0)
  have hl2 : n < 2^(n.log2 + 1) := Nat.lt_log2_self
  by_cases h53 : n = 2^53
  · subst h53; exact ⟨e * 2^52 + 2^53, V_eq e _ (by omega) (by omega)⟩
  have hlog : n.log2 < 53 := by
    apply Nat.lt_of_not_le; intro hc
    have := Nat.pow_le_pow_right (n := 2) (by omega) hc
    omega
  by_cases hs : n.log2 + e < 52
  · refine ⟨n * 2^e, V_small ?_⟩
    calc n * 2^e < 2^(n.log2 + 1) * 2^e := Nat.mul_lt_mul_of_pos_right hl2 (Nat.two_pow_pos e)
      _ = 2^(n.log2 + 1 + e) := (Nat.pow_add 2 (n.log2 + 1) e).symm
      _ ≤ 2^52 := Nat.pow_le_pow_right (by omega) (by omega)
  · -- mantissa n * 2^(52 - log2), exponent log2 + e - 52
    refine ⟨(n.log2 + e - 52) * 2^52 + n * 2^(52 - n.log2), ?_⟩
    rw [V_eq]
    · rw [Nat.mul_assoc, ← Nat.pow_add]; congr 2; omega
    · calc 2^52 = 2^n.log2 * 2^(52 - n.log2) := by rw [← Nat.pow_add]; congr 1; omega
        _ ≤ n * 2^(52 - n.log2) := Nat.mul_le_mul_right _ hl1
    · calc n * 2^(52 - n.log2) ≤ 2^(n.log2 + 1) * 2^(52 - n.log2) := Nat.mul_le_mul_right _ (by omega)
        _ = 2^53 := by rw [← Nat.pow_add]; congr 1; omega

/-! ## round half to even of n / 2^d -/

def rne (n d : Nat) : Nat :=
  n / 2^d + (if 2^d < 2 * (n % 2^d) ∨ (2^d = 2 * (n % 2^d) ∧ n / 2^d % 2 = 1) then 1 else 0)

theorem cut_eq (neg : Bool) (n d : Nat) : Ieee.Toward.even.cut neg n d = rne n d := by
  unfold Ieee.Toward.cut rne
  simp only [Nat.one_shiftLeft]
  have key : ∀ g, (n / g + (decide (g < 2 * (n % g)) || (g == 2 * (n % g) && n / g % 2 == 1)).toNat) = n / g + (if g < 2 * (n % g) ∨ (g = 2 * (n % g) ∧ n / g % 2 = 1) then 1 else 0) := by
    intro g
    congr 1
    split
    · rename_i h; simp [h]
    · rename_i h
      simp only [not_or, not_and] at h
      have h1 : decide (g < 2 * (n % g)) = false := by simpa using h.1
      rw [h1]
      by_cases h2 : g = 2 * (n % g)
      · have := h.2 h2
        simp [this]
      · have h3 : (g == 2 * (n % g)) = false := by simpa using h2
        simp [h3]
  by_cases h : d ≤ n.log2 + 2
  · rw [Nat.min_eq_left h]; exact key _
  · have h' : n.log2 + 2 ≤ d := by omega
    rw [Nat.min_eq_right h']
    have hl2 : n < 2^(n.log2 + 1) := Nat.lt_log2_self
    have e1 : 2^(n.log2 + 2) = 2 * 2^(n.log2 + 1) := by rw [Nat.pow_succ]; omega
    have e2 : 2^(n.log2 + 2) ≤ 2^d := Nat.pow_le_pow_right (by omega) h'
    have hn1 : n < 2^(n.log2 + 2) := by omega
    have hn2 : n < 2^d := by omega
    rw [key, Nat.div_eq_of_lt hn1, Nat.mod_eq_of_lt hn1, Nat.div_eq_of_lt hn2, Nat.mod_eq_of_lt hn2]
    rw [if_neg (by omega), if_neg (by omega)]

/-- what 'rne' is: the nearest, the even one of two -/
theorem rne_spec (n d : Nat) : 2 * n ≤ 2 * (rne n d * 2^d) + 2^d ∧ 2 * (rne n d * 2^d) ≤ 2 * n + 2^d ∧
    (2 * n = 2 * (rne n d * 2^d) + 2^d → rne n d % 2 = 0) ∧ (2 * (rne n d * 2^d) = 2 * n + 2^d → rne n d % 2 = 0) := by
  unfold rne
  generalize hq : n / 2^d = q
  generalize hr : n % 2^d = r
  have hn : n = q * 2^d + r := by rw [← hq, ← hr, Nat.mul_comm]; exact (Nat.div_add_mod n (2^d)).symm
  have hp : r < 2^d := by rw [← hr]; exact Nat.mod_lt _ (Nat.two_pow_pos d)
  generalize 2^d = g at *
  split
  · rename_i h
    rw [Nat.add_mul, Nat.one_mul]
    generalize q * g = m at *
    omega
  · rename_i h
    rw [Nat.add_zero]
    generalize q * g = m at *
    omega
end Fl
