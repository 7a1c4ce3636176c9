/- Rounding down to a whole number, and a whole number as an integer: plain. -/
import Derived.Test.YtfnchcafebomlaaSmm
import Derived.Laws.FloatArith
namespace Fl
open Go

theorem div_gap (n d : Nat) : n / (1 <<< min d (n.log2 + 2)) = n / 2^d := by
  rw [Nat.one_shiftLeft]
  rcases Nat.le_total d (n.log2 + 2) with h | h
  · rw [Nat.min_eq_left h]
  · rw [Nat.min_eq_right h]
    have h1 : n < 2^(n.log2 + 1) := Nat.lt_log2_self
    have h2 : n < 2^(n.log2 + 2) := Nat.lt_of_lt_of_le h1 (Nat.pow_le_pow_right (by omega) (by omega))
    have h3 : n < 2^d := Nat.lt_of_lt_of_le h2 (Nat.pow_le_pow_right (by omega) h)
    rw [Nat.div_eq_of_lt h2, Nat.div_eq_of_lt h3]
theorem cut_zero (s : Bool) (n d : Nat) : Ieee.Toward.zero.cut s n d = n / 2^d := by
  unfold Ieee.Toward.cut
  simp only [Bool.toNat_false, Nat.add_zero]
  exact div_gap n d
theorem cut_down_pos (n d : Nat) : Ieee.Toward.down.cut false n d = n / 2^d := by
  unfold Ieee.Toward.cut
  simp only [Bool.false_and, Bool.toNat_false, Nat.add_zero]
  exact div_gap n d
theorem cut_down_zero (s : Bool) (d : Nat) : Ieee.Toward.down.cut s 0 d = 0 := by
  unfold Ieee.Toward.cut
  simp

/-- what 'm * 2 ^ i' is, over powers of two that are whole -/
theorem scaled (m : Nat) (i : Int) : ((m : Rat) * 2 ^ i) * ((2 ^ (-i).toNat : Nat) : Rat) = ((m <<< i.toNat : Nat) : Rat) := by
  rw [Nat.shiftLeft_eq, Rat.natCast_mul, natPow, natPow, Rat.mul_assoc, ← zpow_add']
  congr 2
  omega
theorem rat_le_nat {a b : Nat} : (a : Rat) ≤ (b : Rat) ↔ a ≤ b := Rat.natCast_le_natCast
theorem rat_lt_nat {a b : Nat} : (a : Rat) < (b : Rat) ↔ a < b := Rat.natCast_lt_natCast

theorem pow_pos_rat (d : Nat) : (0 : Rat) < ((2^d : Nat) : Rat) := by rw [natPow]; exact zpow_pos' _

theorem floor_div (q : Rat) (N d : Nat) (h : q * ((2^d : Nat) : Rat) = (N : Rat)) : ((N / 2^d : Nat) : Rat) ≤ q ∧ q < ((N / 2^d + 1 : Nat) : Rat) := by
  have hp := pow_pos_rat d
  have h1 : N / 2^d * 2^d ≤ N := Nat.div_mul_le_self _ _
  have h2 : N < (N / 2^d + 1) * 2^d := by
    have := Nat.lt_div_mul_add (a := N) (b := 2^d) (Nat.two_pow_pos d)
    rw [Nat.add_mul, Nat.one_mul]; exact this
  have h1' : ((N / 2^d : Nat) : Rat) * ((2^d : Nat) : Rat) ≤ q * ((2^d : Nat) : Rat) := by
    rw [h, ← Rat.natCast_mul]; exact rat_le_nat.2 h1
  have h2' : q * ((2^d : Nat) : Rat) < ((N / 2^d + 1 : Nat) : Rat) * ((2^d : Nat) : Rat) := by
    rw [h, ← Rat.natCast_mul]; exact rat_lt_nat.2 h2
  exact ⟨Rat.le_of_mul_le_mul_right h1' hp, Rat.lt_of_mul_lt_mul_right h2' (Rat.le_of_lt hp)⟩

/-- rounding down -/
def flW (x : Nat) : Nat := D.write ((D.read x).integral .down)

theorem write_nat (s : Bool) (n : Nat) (hn : n ≤ 2^53) (hs : s = true → n = 0) : fin (D.write (.number s n 0)) ∧ rv (D.write (.number s n 0)) = (n : Rat) := by
  have h : RN (n : Rat) (D.write (.number s n 0)) := by
    simp only [Ieee.Format.write]
    obtain ⟨r, hr, hR⟩ := nearest_rnd s n 0
    refine ⟨r, s, hr, ?_, ?_, ?_⟩
    · rw [Rat.zpow_zero, Rat.mul_one] at hR
      rw [ab_nonneg_eq (by exact_mod_cast Nat.zero_le n)]; exact hR
    · intro h
      exact absurd h (by have : (0 : Rat) ≤ (n : Rat) := by exact_mod_cast Nat.zero_le n
                         grind)
    · intro h
      cases s
      · rfl
      · rw [hs rfl] at h; exact absurd h (by simp)
  exact h.exact (rep_nat n hn)

theorem floor_nat {x : Nat} (hf : fin x) (h0 : 0 ≤ rv x) (hb : rv x < ((2^53 : Nat) : Rat)) :
    ∃ n : Nat, (n : Rat) ≤ rv x ∧ rv x < ((n + 1 : Nat) : Rat) ∧ fin (flW x) ∧ rv (flW x) = (n : Rat) := by
  obtain ⟨m, i, hr, hv, hz⟩ := rv_read hf
  unfold flW
  rw [hr]
  simp only [Ieee.Datum.integral]
  cases hs : sg x
  · rw [hs] at hv
    have hv' : (m : Rat) * 2 ^ i = rv x := by simpa [sv] using hv
    have hfd := floor_div (rv x) (m <<< i.toNat) ((-i).toNat) (by rw [← hv']; exact scaled m i)
    refine ⟨_, hfd.1, hfd.2, ?_⟩
    rw [cut_down_pos]
    refine write_nat false _ ?_ (fun h => by cases h)
    have : ((m <<< i.toNat / 2 ^ (-i).toNat : Nat) : Rat) < ((2^53 : Nat) : Rat) := by have := hfd.1; grind
    exact Nat.le_of_lt (rat_lt_nat.1 this)
  · have hm : m = 0 := by
      rw [hs] at hv
      have hv' : -((m : Rat) * 2 ^ i) = rv x := by rw [← hv]; simp only [sv, if_true]; grind
      rcases Nat.eq_zero_or_pos m with h | h
      · exact h
      · have h1 : (0 : Rat) < (m : Rat) := by exact_mod_cast h
        have := Rat.mul_pos h1 (zpow_pos' i)
        grind
    subst hm
    have hx : rv x = 0 := by rw [← hv]; simp
    rw [Nat.zero_shiftLeft, cut_down_zero]
    refine ⟨0, by rw [hx]; simp, by rw [hx]; exact (by decide : (0 : Rat) < 1), ?_⟩
    exact write_nat true 0 (by omega) (fun _ => rfl)

theorem toInt_nat {x n : Nat} (hf : fin x) (hv : rv x = (n : Rat)) (hn : n ≤ 2^53) : floatToIntVal .f64 x .i64 = some (n : Int) := by
  obtain ⟨m, i, hr, hv2, hz⟩ := rv_read hf
  have h1 : (FloatKind.f64.decode x).toInt .zero = some (n : Int) := by
    show (D.read x).toInt .zero = _
    rw [hr]
    unfold Ieee.Datum.toInt
    simp only [Ieee.Datum.integral]
    rw [cut_zero]
    have hc : m <<< i.toNat / 2 ^ (-i).toNat = n ∧ (sg x = true → n = 0) := by
      cases hs : sg x
      · rw [hs] at hv2
        have hv' : (m : Rat) * 2 ^ i = rv x := by simpa [sv] using hv2
        have hfd := floor_div (rv x) (m <<< i.toNat) ((-i).toNat) (by rw [← hv']; exact scaled m i)
        rw [hv] at hfd
        have a := rat_le_nat.1 hfd.1
        have b := rat_lt_nat.1 hfd.2
        exact ⟨by omega, fun h => by cases h⟩
      · rw [hs] at hv2
        have hv' : -((m : Rat) * 2 ^ i) = rv x := by rw [← hv2]; simp only [sv, if_true]; grind
        have h0 : (0 : Rat) ≤ (n : Rat) := by exact_mod_cast Nat.zero_le n
        have hm : m = 0 := by
          rcases Nat.eq_zero_or_pos m with h | h
          · exact h
          · have h1 : (0 : Rat) < (m : Rat) := by exact_mod_cast h
            have := Rat.mul_pos h1 (zpow_pos' i)
            grind
        subst hm
        have hn0 : (n : Rat) = 0 := by rw [← hv, ← hv']; simp
        have : n = 0 := by exact_mod_cast hn0
        exact ⟨by rw [this, Nat.zero_shiftLeft, Nat.zero_div], fun _ => this⟩
    rw [hc.1]
    unfold Ieee.signed
    rw [Nat.shiftLeft_zero]
    cases hs : sg x
    · rfl
    · rw [hc.2 hs]; rfl
  unfold floatToIntVal
  rw [h1]
  simp only
  rw [if_pos]
  have e1 : IntKind.i64.min = -9223372036854775808 := by decide
  have e2 : IntKind.i64.max = 9223372036854775807 := by decide
  rw [e1, e2]
  omega
end Fl
