/- A quantile as a plain function, and where its number stands. -/
import Derived.Test.YtfnchcafebomlaaFlf
import Derived.Test.YtfnchcafebomlaaFsp
namespace Fl
open Go Go.Proofs Go.Proofs.Ytfnchcafebomlaa

def inB (q : Nat) : Bool := fge q 0 && fle q oneW
def qk (n q : Nat) : Nat := fmul q (ofInt ((n - 1 : Nat) : Int))
def qlow (n q : Nat) : Nat := ((floatToIntVal .f64 (flW (qk n q)) .i64).getD 0).toNat
def qhigh (n q : Nat) : Nat := min (qlow n q + 1) (n - 1)
def qpart (n q : Nat) : Nat := fsub (qk n q) (ofInt (qlow n q))
def qline (a b p : Nat) : Nat := fadd a (fmul p (fsub b a))
def quantAt (s : List Nat) (n q : Nat) : Nat :=
  if (canon (s.getD (qlow n q) 0) == canon (s.getD (qhigh n q) 0) || feq (qpart n q) 0) = true then s.getD (qlow n q) 0
  else if isNaN (qline (s.getD (qlow n q) 0) (s.getD (qhigh n q) 0) (qpart n q)) then s.getD (qlow n q) 0
  else qline (s.getD (qlow n q) 0) (s.getD (qhigh n q) 0) (qpart n q)
def quantS (l : List Nat) (q : Nat) : Nat := if isNaN ((sortF l).getD (l.length - 1) 0) then cN else quantAt (sortF l) l.length q
def quantV (l : List Nat) (q : Nat) : Nat := if l = [] then 0 else if inB q then quantS l q else 0
def quantE (l : List Nat) (q : Nat) : Int := if l = [] then 14 else if inB q then 0 else 1

theorem inB_spec {q : Nat} (h : inB q = true) : fin q ∧ 0 ≤ rv q ∧ rv q ≤ 1 := by
  unfold inB at h
  rw [Bool.and_eq_true] at h
  obtain ⟨h1, h2⟩ := h
  have hf : fin q := by
    rcases kinds q with ⟨hf, _, _⟩ | ⟨_, hi, _⟩ | ⟨_, _, hn⟩
    · exact hf
    · exfalso
      have e := read_inf hi
      have e0 : D.read 0 = .number false 0 (-1074) := by decide
      have e1 : D.read oneW = .number false 4503599627370496 (-52) := by decide
      unfold fge at h1
      unfold fle at h2
      unfold Ieee.Format.order at h1 h2
      rw [e, e0] at h1
      rw [e, e1] at h2
      cases hs : sg q <;> rw [hs] at h1 h2 <;> simp [Ieee.Datum.order] at h1 h2
    · exfalso
      unfold fge at h1
      rw [nan_order_l 0 hn] at h1
      simp at h1
  rw [fge_eq, fle_fin zero_fin.1 hf, decide_eq_true_eq, zero_fin.2] at h1
  rw [fle_fin hf one_fin.1, decide_eq_true_eq, one_fin.2] at h2
  exact ⟨hf, h1, h2⟩

theorem qk_facts {n q : Nat} (hn : 1 ≤ n) (hn2 : n ≤ 1000000) (h : inB q = true) : fin (qk n q) ∧ 0 ≤ rv (qk n q) ∧ rv (qk n q) ≤ ((n - 1 : Nat) : Rat) ∧ RN (rv q * ((n - 1 : Nat) : Rat)) (qk n q) := by
  obtain ⟨hf, h0, h1⟩ := inB_spec h
  obtain ⟨i1, i2⟩ := ofInt_fin ((n - 1 : Nat) : Int) (by omega)
  have hr := fmul_rn hf i1
  rw [i2, Rat.intCast_natCast] at hr
  have hnn : (0 : Rat) ≤ ((n - 1 : Nat) : Rat) := by exact_mod_cast Nat.zero_le _
  have a1 : 0 ≤ rv q * ((n - 1 : Nat) : Rat) := Rat.mul_nonneg h0 hnn
  have a2 : rv q * ((n - 1 : Nat) : Rat) ≤ ((n - 1 : Nat) : Rat) := by
    have := Rat.mul_le_mul_of_nonneg_right h1 hnn
    rwa [Rat.one_mul] at this
  have hb := hr.between Rep.zero (rep_nat (n - 1) (by omega)) a1 a2
  exact ⟨hb.1, hb.2.1, hb.2.2, hr⟩

theorem qlow_facts {n q : Nat} (hn : 1 ≤ n) (hn2 : n ≤ 1000000) (h : inB q = true) :
    ((qlow n q : Nat) : Rat) ≤ rv (qk n q) ∧ rv (qk n q) < ((qlow n q + 1 : Nat) : Rat) ∧ floatToIntVal .f64 (flW (qk n q)) .i64 = some ((qlow n q : Nat) : Int) ∧ qlow n q ≤ n - 1 ∧ fin (flW (qk n q)) := by
  obtain ⟨k1, k2, k3, _⟩ := qk_facts hn hn2 h
  obtain ⟨m, m1, m2, m3, m4⟩ := floor_nat k1 k2 (by
    have : ((n - 1 : Nat) : Rat) < ((2^53 : Nat) : Rat) := rat_lt_nat.2 (by omega)
    grind)
  have hm : m ≤ n - 1 := by
    have : (m : Rat) ≤ ((n - 1 : Nat) : Rat) := by grind
    exact rat_le_nat.1 this
  have ht := toInt_nat m3 m4 (by omega)
  have hq : qlow n q = m := by unfold qlow; rw [ht]; rfl
  rw [hq]
  exact ⟨m1, m2, ht, hm, m3⟩
theorem fin_nan {x : Nat} (h : fin x) : isNaN x = false := by
  rcases kinds x with ⟨_, _, hn⟩ | ⟨hf, _, _⟩ | ⟨hf, _, _⟩
  · exact hn
  · exact absurd h hf
  · exact absurd h hf
theorem canon_eq_of {z x : Nat} (h : canon z = x) (hn : isNaN x = false) : z = x := by
  rw [← h] at hn ⊢
  rw [isNaN_canon] at hn
  exact (canon_of_not hn).symm
end Fl
