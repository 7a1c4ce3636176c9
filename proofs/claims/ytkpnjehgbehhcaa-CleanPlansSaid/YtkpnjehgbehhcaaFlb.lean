import Derived.Test.YtkpnjehgbehhcaaFla
namespace Fl

abbrev D : Ieee.Format := Ieee.double

/-- the least place's unit -/
def U : Rat := (2 : Rat) ^ (-1074 : Int)

theorem two_ne : (2 : Rat) ≠ 0 := by decide
theorem two_pos : (0 : Rat) < 2 := by decide
theorem U_pos : 0 < U := Rat.zpow_pos two_pos

def VR (r : Nat) : Rat := (V r : Rat) * U

theorem VR_lt {r s : Nat} (h : r < s) : VR r < VR s :=
  Rat.mul_lt_mul_of_pos_right (Rat.natCast_lt_natCast.2 (V_lt h)) U_pos
theorem VR_le {r s : Nat} (h : r ≤ s) : VR r ≤ VR s :=
  Rat.mul_le_mul_of_nonneg_right (Rat.natCast_le_natCast.2 (V_le h)) (Rat.le_of_lt U_pos)
theorem VR_zero : VR 0 = 0 := by unfold VR; rw [V_zero]; simp
theorem VR_nonneg (r : Nat) : 0 ≤ VR r := by
  have := VR_le (Nat.zero_le r); rwa [VR_zero] at this
theorem VR_lt_iff {r s : Nat} : VR r < VR s ↔ r < s := by
  constructor
  · intro h
    rcases Nat.lt_or_ge r s with h' | h'
    · exact h'
    · have := VR_le h'; grind
  · exact VR_lt
theorem VR_inj {r s : Nat} (h : VR r = VR s) : r = s := by
  rcases Nat.lt_trichotomy r s with h' | h' | h'
  · have := VR_lt h'; grind
  · exact h'
  · have := VR_lt h'; grind

/-- 'q' is rounded at least to the rung r + 1 -/
def thr (r : Nat) (q : Rat) : Prop := VR r + VR (r + 1) < 2 * q ∨ (VR r + VR (r + 1) = 2 * q ∧ (r + 1) % 2 = 0)

/-- 'q' (not negative) is rounded to the rung r -/
def Rnd (q : Rat) (r : Nat) : Prop := (∀ s, r = s + 1 → thr s q) ∧ ¬ thr r q

theorem thr_mono {r : Nat} {p q : Rat} (h : p ≤ q) (ht : thr r p) : thr r q := by
  unfold thr at *
  rcases ht with ht | ⟨ht, he⟩
  · left; grind
  · rcases Rat.le_iff_lt_or_eq.1 h with h' | h'
    · left; grind
    · subst h'; right; exact ⟨ht, he⟩

theorem thr_anti {r s : Nat} {q : Rat} (h : s ≤ r) (ht : thr r q) : thr s q := by
  rcases Nat.lt_or_eq_of_le h with h | h
  · have h1 := VR_lt h
    have h2 := VR_lt (show s + 1 < r + 1 by omega)
    unfold thr at *
    left
    rcases ht with ht | ⟨ht, _⟩ <;> grind
  · subst h; exact ht

theorem Rnd.mono {p q : Rat} {r s : Nat} (hp : Rnd p r) (hq : Rnd q s) (h : p ≤ q) : r ≤ s := by
  rcases Nat.lt_or_ge s r with hlt | hge
  · exfalso
    have h1 := hp.1 (r - 1) (by omega)
    have h2 := thr_anti (show s ≤ r - 1 by omega) h1
    exact hq.2 (thr_mono h h2)
  · exact hge

theorem Rnd.exact (r : Nat) : Rnd (VR r) r := by
  constructor
  · intro s hs
    subst hs
    left
    have := VR_lt (Nat.lt_succ_self s)
    simp only [Nat.succ_eq_add_one] at this
    grind
  · intro h
    have := VR_lt (Nat.lt_succ_self r)
    simp only [Nat.succ_eq_add_one] at this
    rcases h with h | ⟨h, _⟩ <;> grind

theorem Rnd.unique {q : Rat} {r s : Nat} (h1 : Rnd q r) (h2 : Rnd q s) : r = s :=
  Nat.le_antisymm (h1.mono h2 Rat.le_refl) (h2.mono h1 Rat.le_refl)

theorem Rnd.eq_of_grid {q : Rat} {r s : Nat} (h : Rnd q r) (e : q = VR s) : r = s := by
  subst e; exact h.unique (Rnd.exact s)

theorem natPow (n : Nat) : ((2 ^ n : Nat) : Rat) = (2 : Rat) ^ (n : Int) := by
  rw [Rat.zpow_natCast, Rat.natCast_pow]; rfl

theorem zpow_add' (m n : Int) : (2 : Rat) ^ (m + n) = 2 ^ m * 2 ^ n := Rat.zpow_add two_ne m n

theorem infRung_eq : D.infRung = 2047 * 2^52 := by decide

/-- the core: q lies in the step of k * L, L = 2 ^ E units -/
theorem rnd_core2 (q L : Rat) (E k : Nat) (hL : L = ((2^E : Nat) : Rat) * U) (hk1 : k ≤ 2^53) (hk2 : E = 0 ∨ 2^52 ≤ k)
    (hk3 : E = 0 ∨ ((2^52 : Nat) : Rat) * L ≤ q)
    (c1 : 2 * q ≤ (2 * (k : Rat) + 1) * L) (c2 : (2 * (k : Rat) - 1) * L ≤ 2 * q)
    (t1 : 2 * q = (2 * (k : Rat) + 1) * L → k % 2 = 0) (t2 : (2 * (k : Rat) - 1) * L = 2 * q → k % 2 = 0) :
    Rnd q (E * 2^52 + k) := by
  -- the rungs' values
  have v0 : VR (E * 2^52 + k) = (k : Rat) * L := by
    have : V (E * 2^52 + k) = k * 2^E := by
      by_cases hlt : 2^52 ≤ k
      · exact V_eq E k hlt hk1
      · rcases hk2 with rfl | h
        · rw [Nat.zero_mul, Nat.zero_add, V_small (by omega)]; simp
        · exact absurd h hlt
    unfold VR; rw [this, hL, Rat.natCast_mul]; grind
  have v1 : ((k : Rat) + 1) * L ≤ VR (E * 2^52 + k + 1) := by
    have : (k + 1) * 2^E ≤ V (E * 2^52 + k + 1) := by
      by_cases hlt : 2^52 ≤ k + 1
      · by_cases h53 : k = 2^53
        · subst h53
          have : E * 2^52 + 2^53 + 1 = (E + 1) * 2^52 + (2^52 + 1) := by omega
          rw [this, V_eq _ _ (by omega) (by omega), Nat.pow_succ]
          omega
        · rw [Nat.add_assoc, V_eq E (k + 1) hlt (by omega)]; exact Nat.le_refl _
      · rcases hk2 with rfl | h
        · rw [Nat.zero_mul, Nat.zero_add, V_small (by omega)]; simp
        · omega
    have := Rat.mul_le_mul_of_nonneg_right (Rat.natCast_le_natCast.2 this) (Rat.le_of_lt U_pos)
    unfold VR; rw [hL]
    rw [Rat.natCast_mul, Rat.natCast_add] at this
    have e1 : ((1 : Nat) : Rat) = 1 := rfl
    rw [e1] at this
    grind
  have par : (E * 2^52 + k) % 2 = k % 2 := by omega
  constructor
  · intro s hs
    by_cases hb : E = 0 ∨ 2^52 < k
    · -- the rung below is one step lower
      have vm : VR s = ((k : Rat) - 1) * L := by
        have hk0 : 1 ≤ k := by rcases hb with rfl | h <;> omega
        have hVs : V s = (k - 1) * 2^E := by
          have : s = E * 2^52 + (k - 1) := by omega
          rw [this]
          by_cases hlt : 2^52 ≤ k - 1
          · exact V_eq E _ hlt (by omega)
          · rcases hb with rfl | h
            · rw [Nat.zero_mul, Nat.zero_add, V_small (by omega)]; simp
            · omega
        unfold VR; rw [hVs, hL, Rat.natCast_mul]
        have : ((k - 1 : Nat) : Rat) = (k : Rat) - 1 := by
          have e : ((k - 1 : Nat) : Rat) + ((1 : Nat) : Rat) = (k : Rat) := by
            rw [← Rat.natCast_add]; congr 1; omega
          have e1 : ((1 : Nat) : Rat) = 1 := rfl
          rw [e1] at e
          grind
        rw [this]; grind
      unfold thr
      rw [← hs, v0, vm]
      rcases Rat.le_iff_lt_or_eq.1 c2 with h | h
      · left; grind
      · right
        refine ⟨by grind, ?_⟩
        have := t2 h
        omega
    · -- the least of its binade
      have hk52 : k = 2^52 := by
        rcases hk2 with h | h
        · exact absurd (Or.inl h) hb
        · have : ¬ 2^52 < k := fun h' => hb (Or.inr h')
          omega
      have hq' : VR (E * 2^52 + k) ≤ q := by
        rw [v0, hk52]
        rcases hk3 with h | h
        · exact absurd (Or.inl h) hb
        · exact h
      have hlt := VR_lt (show s < E * 2^52 + k by omega)
      unfold thr
      rw [← hs]
      left; grind
  · intro h
    unfold thr at h
    rw [v0] at h
    rcases h with h | ⟨h, he⟩
    · grind
    · have : 2 * q = (2 * (k : Rat) + 1) * L := by
        have : (2 * (k : Rat) + 1) * L ≤ 2 * q := by grind
        exact Rat.le_antisymm c1 this
      have := t1 this
      omega

/-- the core: a number n * L / 2^d, of size that fits E, is rounded to E * 2^52 + rne n d -/
theorem rnd_core (q L : Rat) (E n d : Nat) (hL : L = ((2^E : Nat) : Rat) * U) (hq : q * ((2^d : Nat) : Rat) = (n : Rat) * L)
    (h3 : E = 0 ∨ 2^52 * 2^d ≤ n) (h4 : n < 2^53 * 2^d) : Rnd q (E * 2^52 + rne n d) := by
  have hLp : 0 < L := by rw [hL]; exact Rat.mul_pos (Rat.natCast_pos.2 (Nat.two_pow_pos E)) U_pos
  obtain ⟨a1, a2, a3, a4⟩ := rne_spec n d
  generalize hk : rne n d = k at *
  have hgp : 0 < 2^d := Nat.two_pow_pos d
  have hG : (0 : Rat) < ((2^d : Nat) : Rat) := Rat.natCast_pos.2 hgp
  generalize 2^d = g at *
  -- bounds on k
  have hk1 : k ≤ 2^53 := by
    apply Nat.le_of_not_lt; intro hc
    have : (2^53 + 1) * g ≤ k * g := Nat.mul_le_mul_right _ hc
    rw [Nat.add_mul, Nat.one_mul] at this
    generalize k * g = m at *
    omega
  have hk2 : E = 0 ∨ 2^52 ≤ k := by
    rcases h3 with h3 | h3
    · left; exact h3
    · right
      apply Nat.le_of_not_lt; intro hc
      have : (k + 1) * g ≤ 2^52 * g := Nat.mul_le_mul_right _ hc
      rw [Nat.add_mul, Nat.one_mul] at this
      generalize k * g = m at *
      omega
  -- rational forms
  have b1 : 2 * (n : Rat) ≤ 2 * ((k : Rat) * (g : Rat)) + g := by
    have := Rat.natCast_le_natCast.2 a1
    simpa [Rat.natCast_add, Rat.natCast_mul] using this
  have b2 : 2 * ((k : Rat) * (g : Rat)) ≤ 2 * (n : Rat) + g := by
    have := Rat.natCast_le_natCast.2 a2
    simpa [Rat.natCast_add, Rat.natCast_mul] using this
  have c1 : 2 * q ≤ (2 * (k : Rat) + 1) * L := by
    refine Rat.le_of_mul_le_mul_right (c := (g : Rat)) ?_ hG
    have := Rat.mul_le_mul_of_nonneg_right b1 (Rat.le_of_lt hLp)
    grind
  have c2 : (2 * (k : Rat) - 1) * L ≤ 2 * q := by
    refine Rat.le_of_mul_le_mul_right (c := (g : Rat)) ?_ hG
    have := Rat.mul_le_mul_of_nonneg_right b2 (Rat.le_of_lt hLp)
    grind
  have nat_of : ∀ (x y : Rat), x * L = y * L → x = y := by
    intro x y h
    have hne : L ≠ 0 := by grind
    have h1 : (x - y) * L = 0 := by grind
    rcases Rat.mul_eq_zero.1 h1 with h | h
    · grind
    · exact absurd h hne
  have t1 : 2 * q = (2 * (k : Rat) + 1) * L → k % 2 = 0 := by
    intro h
    apply a3
    have : (2 * (n : Rat)) * L = (2 * ((k : Rat) * (g : Rat)) + g) * L := by grind
    have := nat_of _ _ this
    apply Rat.natCast_inj.1
    simpa [Rat.natCast_add, Rat.natCast_mul] using this
  have t2 : (2 * (k : Rat) - 1) * L = 2 * q → k % 2 = 0 := by
    intro h
    apply a4
    have : (2 * ((k : Rat) * (g : Rat))) * L = (2 * (n : Rat) + g) * L := by grind
    have := nat_of _ _ this
    apply Rat.natCast_inj.1
    simpa [Rat.natCast_add, Rat.natCast_mul] using this
  have hq3 : E = 0 ∨ ((2^52 : Nat) : Rat) * L ≤ q := by
    rcases h3 with h | h
    · left; exact h
    · right
      refine Rat.le_of_mul_le_mul_right (c := (g : Rat)) ?_ hG
      have := Rat.mul_le_mul_of_nonneg_right (Rat.natCast_le_natCast.2 h) (Rat.le_of_lt hLp)
      rw [Rat.natCast_mul] at this
      grind
  exact rnd_core2 q L E k hL hk1 hk2 hq3 c1 c2 t1 t2

theorem nearest_form (neg : Bool) (mag : Nat) (place : Int) (hm : mag ≠ 0) : ∃ E a d,
    D.nearest neg mag place = D.word neg (min (E * 2^52 + rne (mag * 2^a) d) D.infRung) ∧
    (2 : Rat) ^ place * ((2^d : Nat) : Rat) = ((2^a : Nat) : Rat) * (((2^E : Nat) : Rat) * U) ∧
    (E = 0 ∨ 2^52 * 2^d ≤ mag * 2^a) ∧ mag * 2^a < 2^53 * 2^d ∧ (54 ≤ mag.log2 → a = 0 ∧ 2 ≤ d) := by
  unfold Ieee.Format.nearest
  rw [if_neg hm]
  simp only
  have hlp : D.leastPlace = -1074 := by decide
  have hfb : ((D.fractionBits : Nat) : Int) = 52 := by decide
  have hbi : D.binade = 2^52 := by decide
  rw [hlp, hfb, hbi, cut_eq]
  have hl1 := Nat.log2_self_le hm
  have hl2 : mag < 2^(mag.log2 + 1) := Nat.lt_log2_self
  generalize hll : mag.log2 = l at *
  generalize hlast : max (place + (l : Int) - 52) (-1074) = last
  have hlast' : -1074 ≤ last ∧ place + (l : Int) - 52 ≤ last ∧ (last = -1074 ∨ last = place + (l : Int) - 52) := by omega
  clear hlast
  obtain ⟨g1, g2, g3⟩ := hlast'
  rw [Nat.shiftLeft_eq]
  refine ⟨_, _, _, rfl, ?_, ?_, ?_, ?_⟩
  · unfold U
    rw [natPow, natPow, natPow, ← zpow_add', ← zpow_add', ← zpow_add']; congr 1; omega
  · rcases g3 with g | g
    · left; omega
    · right
      by_cases hd : last ≤ place
      · have e : (place - last).toNat = 52 - l := by omega
        have e0 : (last - place).toNat = 0 := by omega
        rw [e, e0, Nat.pow_zero, Nat.mul_one]
        calc 2^52 = 2^l * 2^(52 - l) := by rw [← Nat.pow_add]; congr 1; omega
          _ ≤ mag * 2^(52 - l) := Nat.mul_le_mul_right _ hl1
      · have e : (place - last).toNat = 0 := by omega
        have e0 : (last - place).toNat = l - 52 := by omega
        rw [e, e0, Nat.pow_zero, Nat.mul_one, ← Nat.pow_add]
        exact Nat.le_trans (Nat.pow_le_pow_right (by omega) (by omega)) hl1
  · by_cases hd : last ≤ place
    · have e0 : (last - place).toNat = 0 := by omega
      rw [e0, Nat.pow_zero, Nat.mul_one]
      calc mag * 2^(place - last).toNat < 2^(l + 1) * 2^(place - last).toNat := Nat.mul_lt_mul_of_pos_right hl2 (Nat.two_pow_pos _)
        _ = 2^(l + 1 + (place - last).toNat) := (Nat.pow_add 2 _ _).symm
        _ ≤ 2^53 := Nat.pow_le_pow_right (by omega) (by omega)
    · have e : (place - last).toNat = 0 := by omega
      rw [e, Nat.pow_zero, Nat.mul_one, ← Nat.pow_add]
      exact Nat.lt_of_lt_of_le hl2 (Nat.pow_le_pow_right (by omega) (by omega))
  · intro h; omega

theorem nearest_rnd (neg : Bool) (mag : Nat) (place : Int) :
    ∃ r, D.nearest neg mag place = D.word neg (min r D.infRung) ∧ Rnd ((mag : Rat) * 2 ^ place) r := by
  by_cases hm : mag = 0
  · subst hm
    refine ⟨0, by simp [Ieee.Format.nearest], ?_⟩
    have : ((0 : Nat) : Rat) * 2 ^ place = VR 0 := by
      rw [VR_zero, show ((0 : Nat) : Rat) = 0 from rfl]; grind
    rw [this]; exact Rnd.exact 0
  · obtain ⟨E, a, d, h1, h2, h3, h4, _⟩ := nearest_form neg mag place hm
    refine ⟨_, h1, rnd_core _ (((2^E : Nat) : Rat) * U) E _ d rfl ?_ h3 h4⟩
    rw [Rat.natCast_mul, Rat.mul_assoc, Rat.mul_assoc, h2]

/-- a quotient with a sticky last digit is rounded as the quotient itself -/
theorem nearest_sticky (neg : Bool) (m n : Nat) (place : Int) (hn : n ≠ 0) (hw : 2^53 ≤ m / n) :
    ∃ r, D.nearest neg (2 * (m / n) + (m % n != 0).toNat) place = D.word neg (min r D.infRung) ∧
      Rnd (2 * ((m : Rat) / (n : Rat)) * 2 ^ place) r := by
  have hnp : (0 : Rat) < n := Rat.natCast_pos.2 (by omega)
  generalize hwd : m / n = w at *
  have hmn : m = w * n + m % n := by rw [← hwd, Nat.mul_comm]; exact (Nat.div_add_mod m n).symm
  have hlt : m % n < n := Nat.mod_lt _ (by omega)
  generalize hrest : m % n = rest at *
  -- the quotient x = w + rest / n
  have hx : ∃ x : Rat, (m : Rat) / (n : Rat) = x ∧ (w : Rat) ≤ x ∧ x < (w : Rat) + 1 ∧ (x = (w : Rat) ↔ rest = 0) := by
    refine ⟨_, rfl, ?_, ?_, ?_⟩
    · refine Rat.le_of_mul_le_mul_right (c := (n : Rat)) ?_ hnp
      rw [Rat.div_mul_cancel (by grind), ← Rat.natCast_mul]
      exact Rat.natCast_le_natCast.2 (by omega)
    · refine (Rat.div_lt_iff hnp).2 ?_
      have : m < (w + 1) * n := by rw [Nat.add_mul]; omega
      have := Rat.natCast_lt_natCast.2 this
      rw [Rat.natCast_mul, Rat.natCast_add] at this
      exact this
    · constructor
      · intro h
        have : (m : Rat) = (w : Rat) * n := by rw [← h, Rat.div_mul_cancel (by grind)]
        rw [← Rat.natCast_mul] at this
        have := Rat.natCast_inj.1 this
        omega
      · intro h
        subst h
        have : (m : Rat) = (w : Rat) * n := by rw [hmn, Nat.add_zero, Rat.natCast_mul]
        rw [this, Rat.mul_div_cancel (by grind)]
  obtain ⟨x, hxe, hx1, hx2, hx3⟩ := hx
  rw [hxe]
  clear hxe hmn hwd hrest hlt hnp
  have hst : (rest != 0).toNat = if rest = 0 then 0 else 1 := by by_cases h : rest = 0 <;> simp [h]
  rw [hst]
  clear hst
  generalize hmag : 2 * w + (if rest = 0 then 0 else 1) = mag
  have hmag0 : mag ≠ 0 := by omega
  have hlog : 54 ≤ mag.log2 := (Nat.le_log2 hmag0).2 (by split at hmag <;> omega)
  obtain ⟨E, a, d, h1, h2, h3, h4, h5⟩ := nearest_form neg mag place hmag0
  obtain ⟨rfl, hd⟩ := h5 hlog
  rw [Nat.pow_zero, Nat.mul_one] at h1 h3 h4
  refine ⟨_, h1, ?_⟩
  obtain ⟨a1, a2, a3, a4⟩ := rne_spec mag d
  obtain ⟨d, rfl⟩ : ∃ d', d = d' + 2 := ⟨d - 2, by omega⟩
  have hg4 : 2^(d + 2) = 4 * 2^d := by rw [Nat.pow_add]; omega
  rw [hg4] at a1 a2 a3 a4 h2 h3 h4
  clear hg4 h5 hd hlog
  have hgp : 0 < 2^d := Nat.two_pow_pos d
  have hG : (0 : Rat) < ((2^d : Nat) : Rat) := Rat.natCast_pos.2 hgp
  generalize hk : rne mag (d + 2) = k at *
  generalize 2^d = g at *
  have hP : (0 : Rat) < 2 ^ place := Rat.zpow_pos two_pos
  have hL : 4 * ((2 : Rat) ^ place * (g : Rat)) = ((2^E : Nat) : Rat) * U := by
    rw [Rat.natCast_mul, Nat.pow_zero] at h2
    have e1 : ((1 : Nat) : Rat) = 1 := rfl
    have e4 : ((4 : Nat) : Rat) = 4 := rfl
    rw [e1, e4] at h2
    grind
  have key1 : 2 * mag ≤ 2 * (k * (4 * g)) + 4 * g → x ≤ (2 * (k : Rat) + 1) * g ∧ (x = (2 * (k : Rat) + 1) * g → 2 * mag = 2 * (k * (4 * g)) + 4 * g) := by
    intro h
    have hc : (2 * (k : Rat) + 1) * g = (((2 * k + 1) * g : Nat) : Rat) := by
      rw [Rat.natCast_mul, Rat.natCast_add, Rat.natCast_mul]; rfl
    rw [hc]
    have e4 : k * (4 * g) = 4 * (k * g) := Nat.mul_left_comm k 4 g
    have hm2 : mag ≤ 2 * ((2 * k + 1) * g) := by rw [Nat.add_mul, Nat.mul_assoc]; rw [e4] at h; clear e4; generalize k * g = z at *; omega
    have hm3 : mag = 2 * ((2 * k + 1) * g) → 2 * mag = 2 * (k * (4 * g)) + 4 * g := by
      rw [Nat.add_mul, Nat.mul_assoc, e4]; clear e4; generalize k * g = z at *; omega
    generalize (2 * k + 1) * g = c at *
    by_cases hr : rest = 0
    · rw [if_pos hr] at hmag
      have hxw := hx3.2 hr
      rw [hxw]
      refine ⟨Rat.natCast_le_natCast.2 (by omega), fun h' => hm3 ?_⟩
      have := Rat.natCast_inj.1 h'
      omega
    · rw [if_neg hr] at hmag
      have : ((w + 1 : Nat) : Rat) ≤ (c : Rat) := Rat.natCast_le_natCast.2 (by omega)
      rw [Rat.natCast_add] at this
      have e1 : ((1 : Nat) : Rat) = 1 := rfl
      rw [e1] at this
      exact ⟨by grind, fun h' => by exfalso; grind⟩
  have key2 : 2 * (k * (4 * g)) ≤ 2 * mag + 4 * g → (2 * (k : Rat) - 1) * g ≤ x ∧ ((2 * (k : Rat) - 1) * g = x → 2 * (k * (4 * g)) = 2 * mag + 4 * g) := by
    intro h
    by_cases hk0 : k = 0
    · subst hk0
      have e0 : ((0 : Nat) : Rat) = 0 := rfl
      have hw0 : (0 : Rat) ≤ (w : Rat) := Rat.natCast_nonneg
      have : (2 * ((0 : Nat) : Rat) - 1) * (g : Rat) < 0 := by rw [e0]; grind
      exact ⟨by grind, fun h' => by exfalso; grind⟩
    · obtain ⟨k', rfl⟩ : ∃ k', k = k' + 1 := ⟨k - 1, by omega⟩
      have hc : (2 * ((k' + 1 : Nat) : Rat) - 1) * g = (((2 * k' + 1) * g : Nat) : Rat) := by
        rw [Rat.natCast_mul, Rat.natCast_add, Rat.natCast_add, Rat.natCast_mul]
        have e1 : ((1 : Nat) : Rat) = 1 := rfl
        have e2 : ((2 : Nat) : Rat) = 2 := rfl
        rw [e1, e2]; grind
      rw [hc]
      have e4 : (k' + 1) * (4 * g) = 4 * (k' * g + g) := by rw [Nat.mul_left_comm, Nat.add_mul, Nat.one_mul]
      have hm2 : 2 * ((2 * k' + 1) * g) ≤ mag := by rw [Nat.add_mul, Nat.mul_assoc]; rw [e4] at h; clear e4; generalize k' * g = z at *; omega
      have hm3 : mag = 2 * ((2 * k' + 1) * g) → 2 * ((k' + 1) * (4 * g)) = 2 * mag + 4 * g := by
        rw [Nat.add_mul, Nat.mul_assoc, e4]; clear e4; generalize k' * g = z at *; omega
      generalize (2 * k' + 1) * g = c at *
      have hcw : c ≤ w := by split at hmag <;> omega
      refine ⟨Rat.le_trans (Rat.natCast_le_natCast.2 hcw) hx1, fun h' => hm3 ?_⟩
      have h1 : (w : Rat) ≤ (c : Rat) := by grind
      have h2 : w ≤ c := Rat.natCast_le_natCast.1 h1
      have h3 : w = c := by omega
      have h4 : rest = 0 := hx3.1 (by rw [← h', h3])
      rw [if_pos h4] at hmag
      omega
  obtain ⟨b1, t1⟩ := key1 a1
  obtain ⟨b2, t2⟩ := key2 a2
  have hk1 : k ≤ 2^53 := by
    apply Nat.le_of_not_lt; intro hc
    have : (2^53 + 1) * (4 * g) ≤ k * (4 * g) := Nat.mul_le_mul_right _ hc
    rw [Nat.add_mul, Nat.one_mul] at this
    clear key1 key2 t1 t2 b1 b2
    generalize k * (4 * g) = z at *
    omega
  have hk2 : E = 0 ∨ 2^52 ≤ k := by
    rcases h3 with h3 | h3
    · left; exact h3
    · right
      apply Nat.le_of_not_lt; intro hc
      have : (k + 1) * (4 * g) ≤ 2^52 * (4 * g) := Nat.mul_le_mul_right _ hc
      rw [Nat.add_mul, Nat.one_mul] at this
      generalize k * (4 * g) = z at *
      omega
  have cancel : ∀ y z : Rat, y * (2 ^ place) = z * (2 ^ place) → y = z := by
    intro y z h
    have h1 : (y - z) * 2 ^ place = 0 := by grind
    rcases Rat.mul_eq_zero.1 h1 with h | h
    · grind
    · grind
  refine rnd_core2 _ (((2^E : Nat) : Rat) * U) E k rfl hk1 hk2 ?_ ?_ ?_ ?_ ?_
  · rcases h3 with h3 | h3
    · left; exact h3
    · right
      rw [← hL]
      have hm : 2^53 * g ≤ w := by split at hmag <;> omega
      have hm : ((2^53 * g : Nat) : Rat) ≤ x := Rat.le_trans (Rat.natCast_le_natCast.2 hm) hx1
      rw [Rat.natCast_mul] at hm
      have e53 : ((2^53 : Nat) : Rat) = 2 * ((2^52 : Nat) : Rat) := by
        rw [show 2^53 = 2 * 2^52 from rfl, Rat.natCast_mul]; rfl
      rw [e53] at hm
      have := Rat.mul_le_mul_of_nonneg_right hm (Rat.le_of_lt hP)
      grind
  · rw [← hL]
    have := Rat.mul_le_mul_of_nonneg_right b1 (Rat.le_of_lt hP)
    grind
  · rw [← hL]
    have := Rat.mul_le_mul_of_nonneg_right b2 (Rat.le_of_lt hP)
    grind
  · rw [← hL]
    intro h
    exact a3 (t1 (cancel _ _ (by grind)))
  · rw [← hL]
    intro h
    exact a4 (t2 (cancel _ _ (by grind)))
end Fl
