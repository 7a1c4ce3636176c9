/- FsumMiddle: the plain part: the spread of whole numbers is not below 0, and is 0 just where all are one. -/
import Derived.Test.YtfnchcafebomlaaSe
namespace Fl
open Go

theorem rep_half : Rep (1 / 2) := by
  have h := rep_grid' 1 1073 (by omega) (by omega)
  have e : (2 : Rat) ^ (-1 : Int) = 1 / 2 := by
    have h1 := zpow_add' (-1) 1
    rw [show (-1 : Int) + 1 = 0 from rfl, Rat.zpow_zero, show (1 : Int) = ((1 : Nat) : Int) from rfl, ← natPow 1, show ((2 ^ 1 : Nat) : Rat) = 2 from rfl] at h1
    grind
  rwa [show (((1073 : Nat) : Int) - 1074) = -1 from by decide, show ((1 : Nat) : Rat) = 1 from rfl, Rat.one_mul, e] at h
theorem rep_quarter : Rep (1 / 4) := by
  have h := rep_grid' 1 1072 (by omega) (by omega)
  have e : (2 : Rat) ^ (-2 : Int) = 1 / 4 := by
    have h1 := zpow_add' (-2) 2
    rw [show (-2 : Int) + 2 = 0 from rfl, Rat.zpow_zero, show (2 : Int) = ((2 : Nat) : Int) from rfl, ← natPow 2, show ((2 ^ 2 : Nat) : Rat) = 4 from rfl] at h1
    grind
  rwa [show (((1072 : Nat) : Int) - 1074) = -2 from by decide, show ((1 : Nat) : Rat) = 1 from rfl, Rat.one_mul, e] at h

theorem err_add {x y : Nat} (hx : fin x) (hy : fin y) (hf : fin (fadd x y)) : ab (rv (fadd x y) - (rv x + rv y)) * 2147483648 ≤ ab (rv (fadd x y)) := by
  obtain ⟨m, hm⟩ := rv_units x
  obtain ⟨n, hn⟩ := rv_units y
  exact RN.err (n := m + n) (by rw [hm, hn, Rat.intCast_add, Rat.add_mul]) (fadd_rn hx hy) hf
theorem err_sub {x y : Nat} (hx : fin x) (hy : fin y) (hf : fin (fsub x y)) : ab (rv (fsub x y) - (rv x - rv y)) * 2147483648 ≤ ab (rv (fsub x y)) := by
  obtain ⟨m, hm⟩ := rv_units x
  obtain ⟨n, hn⟩ := rv_units y
  exact RN.err (n := m - n) (by rw [hm, hn, Rat.intCast_sub]; grind) (fsub_rn hx hy) hf

theorem ab_tri (p q : Rat) : ab (p + q) ≤ ab p + ab q := by unfold ab; grind
theorem rn_small {z p : Rat} (h : ab (z - p) * 2147483648 ≤ ab z) : ab z * 2147483647 ≤ ab p * 2147483648 := by
  have := ab_tri (z - p) p
  rw [show z - p + p = z by grind] at this
  grind

/-- one round's lost digits, in rationals: 'a' the greater, 'b' the other -/
theorem lost_step {a b t y e c c' W : Rat} (h0 : 0 ≤ t) (ha : a ≤ t) (ha0 : 0 ≤ a) (ht : ab (t - (a + b)) * 2147483648 ≤ t) (hy : ab (y - (a - t)) * 2147483648 ≤ ab y)
    (he : ab (e - (y + b)) * 2147483648 ≤ ab e) (hc' : ab (c' - (c + e)) * 2147483648 ≤ ab c') (hc : ab c * 2147483648 ≤ W) (hW : W ≤ 4000 * t) :
    ab c' * 2147483648 ≤ W + 8 * t := by
  have p1 : ab (a - t) ≤ t := by unfold ab; grind
  have y1 := rn_small hy
  have e1 := rn_small he
  have c1 := rn_small hc'
  have a1 : ab (y + b) ≤ ab (y - (a - t)) + ab (t - (a + b)) := by
    have h1 := ab_tri (y - (a - t)) (-(t - (a + b)))
    rw [ab_neg, show y - (a - t) + -(t - (a + b)) = y + b by grind] at h1
    exact h1
  have c2 := ab_tri c e
  generalize ab (y - (a - t)) = A1 at *
  generalize ab (t - (a + b)) = A2 at *
  generalize ab (y + b) = A3 at *
  generalize ab (a - t) = A4 at *
  generalize ab (c + e) = A5 at *
  generalize ab c' = C' at *
  generalize ab c = C at *
  generalize ab e = E at *
  generalize ab y = Y at *
  clear he hc'
  have y2 : Y * 2147483647 ≤ t * 2147483648 := by grind
  have y3 : Y ≤ t * (11/10) := by grind
  have e2 : A3 * 2147483648 ≤ t * (21/10) := by grind
  have e3 : E * 2147483647 ≤ t * (21/10) := by grind
  have e4 : E * 2147483648 ≤ t * (22/10) := by grind
  have c3 : C' * 2147483647 ≤ W + t * (22/10) := by grind
  grind

theorem RN.ge_rv {x z : Nat} {q : Rat} (hx : fin x) (h : RN q z) (hf : fin z) (hle : rv x ≤ q) : rv x ≤ rv z := by
  have hx' : rung x < 2047 * 2^52 := hx
  obtain ⟨f1, f2⟩ := word_fin (sg x) hx'
  have := RN.mono (word_rnd hx) h f1 hf hle
  rw [f2] at this
  exact this
theorem Lim.fin' {k x : Nat} (h : Lim k x) : fin x := h.1

/-- numbers that are not below nought: the sum is no less than each, and the lost digits are few -/
theorem foldS_pos (l : List Nat) (hl : l.length ≤ 300) (h : ∀ x ∈ l, Lim 1 x ∧ 0 ≤ rv x) :
    0 ≤ rv (foldS l).1 ∧ (∀ x ∈ l, rv x ≤ rv (foldS l).1) ∧ ab (rv (foldS l).2) * 2147483648 ≤ ((8 * l.length : Nat) : Rat) * rv (foldS l).1 := by
  induction hn : l.length generalizing l with
  | zero =>
    have : l = [] := List.eq_nil_of_length_eq_zero hn
    subst this
    show 0 ≤ rv 0 ∧ (∀ x ∈ [], rv x ≤ rv 0) ∧ ab (rv 0) * 2147483648 ≤ _
    rw [zero_fin.2]
    exact ⟨Rat.le_refl, by simp, by unfold ab; grind⟩
  | succ n ih =>
    rcases snoc_cases l with rfl | ⟨l', x, rfl⟩
    · simp at hn
    · have hl' : l'.length = n := by simpa using hn
      have hn300 : n + 1 ≤ 300 := by rw [← hn]; exact hl
      have hx := h x (by simp)
      obtain ⟨a1, a2, _, _⟩ := foldS_double l' (by omega) (fun y hy => (h y (by simp [hy])).1)
      obtain ⟨b1, b2, b3⟩ := ih l' (by omega) (fun y hy => h y (by simp [hy])) hl'
      rw [hl'] at a1 a2
      rw [foldS_snoc]
      generalize foldS l' = st at *
      obtain ⟨s, c⟩ := st
      simp only at a1 a2 b1 b2 b3
      have hk : n * (n + 1) ≤ 300 * 301 := Nat.mul_le_mul (by omega) (by omega)
      have ht := a1.add hx.1 (by omega)
      have r1 := fadd_rn a1.1 hx.1.1
      have t1 : rv s ≤ rv (fadd s x) := RN.ge_rv a1.1 r1 ht.1 (by have := hx.2; grind)
      have t2 : rv x ≤ rv (fadd s x) := RN.ge_rv hx.1.1 r1 ht.1 (by grind)
      have t0 : 0 ≤ rv (fadd s x) := by grind
      have et := err_add a1.1 hx.1.1 ht.1
      rw [ab_nonneg_eq t0] at et
      have hW : ((8 * n : Nat) : Rat) * rv s ≤ ((8 * n : Nat) : Rat) * rv (fadd s x) := Rat.mul_le_mul_of_nonneg_left t1 (Rat.natCast_nonneg)
      have hW2 : ((8 * n : Nat) : Rat) * rv (fadd s x) ≤ 4000 * rv (fadd s x) := by
        refine Rat.mul_le_mul_of_nonneg_right ?_ t0
        rw [show (4000 : Rat) = ((4000 : Nat) : Rat) from rfl]
        exact Rat.natCast_le_natCast.2 (by omega)
      have e8 : ((8 * (n + 1) : Nat) : Rat) * rv (fadd s x) = ((8 * n : Nat) : Rat) * rv (fadd s x) + 8 * rv (fadd s x) := by
        rw [Nat.mul_add, Rat.natCast_add, Rat.add_mul]; rfl
      unfold sstep
      simp only
      refine ⟨t0, fun y hy => ?_, ?_⟩
      · rcases List.mem_append.1 hy with h1 | h1
        · have := b2 y h1; grind
        · rw [List.mem_singleton.1 h1]; exact t2
      · rw [e8]
        split
        · have hd := (a1.sub ht (by omega)).add hx.1 (by omega)
          have hc := a2.add hd (by omega)
          exact lost_step t0 t1 b1 et (err_sub a1.1 ht.1 (a1.sub ht (by omega)).1) (err_add (a1.sub ht (by omega)).1 hx.1.1 hd.1) (err_add a2.1 hd.1 hc.1) (Rat.le_trans b3 hW) hW2
        · have hd := (hx.1.sub ht (by omega)).add a1 (by omega)
          have hc := a2.add hd (by omega)
          rw [Rat.add_comm (rv s) (rv x)] at et
          exact lost_step t0 t2 hx.2 et (err_sub hx.1.1 ht.1 (hx.1.sub ht (by omega)).1) (err_add (hx.1.sub ht (by omega)).1 a1.1 hd.1) (err_add a2.1 hd.1 hc.1) (Rat.le_trans b3 hW) hW2

theorem sum_pos (l : List Nat) (hl : l.length ≤ 300) (h : ∀ x ∈ l, Lim 1 x ∧ 0 ≤ rv x) (hq : ∃ x ∈ l, 1 / 4 ≤ rv x) :
    ∃ K, K ≤ 200000 ∧ Lim K (sumF l) ∧ tiny * 2048 ≤ rv (sumF l) := by
  obtain ⟨a1, a2, _, _⟩ := foldS_double l hl (fun y hy => (h y hy).1)
  obtain ⟨b1, b2, b3⟩ := foldS_pos l hl h
  obtain ⟨x, hx, hx4⟩ := hq
  have hz : allNegZ l = false := not_allNegZ hx (fun e => by
    rw [e, show rv negZ = 0 from rv_eq_zero.2 (by decide)] at hx4; grind)
  have hs := b2 x hx
  unfold sumF
  rw [hz, if_neg (by simp), if_neg (by rw [fin_not_nan a2.1]; simp)]
  have hk : l.length * (l.length + 1) ≤ 300 * 301 := Nat.mul_le_mul (by omega) (by omega)
  have hd := a1.add a2 (by omega)
  refine ⟨_, ?_, hd, ?_⟩
  · omega
  · have hr := fadd_rn a1.1 a2.1
    have hc : ((8 * l.length : Nat) : Rat) * rv (foldS l).1 ≤ 4000 * rv (foldS l).1 := by
      refine Rat.mul_le_mul_of_nonneg_right ?_ b1
      rw [show (4000 : Rat) = ((4000 : Nat) : Rat) from rfl]
      exact Rat.natCast_le_natCast.2 (by omega)
    have hT : Rep (tiny * 2048) := by
      have h := rep_grid' 1 1055 (by omega) (by omega)
      have e : tiny * 2048 = 2 ^ (-19 : Int) := by
        rw [show (2048 : Rat) = 2 ^ (11 : Int) from by rw [show (11 : Int) = ((11 : Nat) : Int) from rfl, ← natPow]; rfl]
        unfold tiny; rw [← zpow_add']; rfl
      rwa [show (((1055 : Nat) : Int) - 1074) = -19 from by decide, show ((1 : Nat) : Rat) = 1 from rfl, Rat.one_mul, ← e] at h
    have t1 := tiny_mul
    have t2 := tiny_pos
    obtain ⟨u1, u2⟩ := ab_between hd.2
    have ha : ab (rv (foldS l).2) * 2147483648 ≤ 4000 * rv (foldS l).1 := Rat.le_trans b3 hc
    obtain ⟨v1, v2⟩ := ab_between (q := rv (foldS l).2) (b := rv (foldS l).1 * (1 / 10)) (by grind)
    obtain ⟨w1, w2⟩ := ab_between a1.2
    obtain ⟨w3, w4⟩ := ab_between a2.2
    refine (hr.between hT (rep_big (l.length + l.length * (l.length + 1)) (by omega)) (by grind) ?_).2.1
    rw [natB]; grind
end Fl
