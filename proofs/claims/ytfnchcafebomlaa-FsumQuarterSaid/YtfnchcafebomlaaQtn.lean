/- The tests of a quantile's part on the reference's side; what is sorted without a NaN is canonical: plain. -/
import Derived.Test.YtfnchcafebomlaaQtp
namespace Fl
open Go Go.Proofs Go.Proofs.Ytfnchcafebomlaa

theorem order_some {x y : Nat} (hx : isNaN x = false) (hy : isNaN y = false) : ∃ o, D.order x y = some o := by
  rcases kinds x with ⟨fx, ix, nx⟩ | ⟨_, ix, nx⟩ | ⟨_, _, nx⟩
  · rcases kinds y with ⟨fy, iy, ny⟩ | ⟨_, iy, ny⟩ | ⟨_, _, ny⟩
    · exact ⟨_, order_fin fx fy⟩
    · obtain ⟨m, i, hr, _⟩ := rv_read fx
      unfold Ieee.Format.order; rw [hr, read_inf iy]; exact ⟨_, rfl⟩
    · rw [ny] at hy; cases hy
  · rcases kinds y with ⟨fy, iy, ny⟩ | ⟨_, iy, ny⟩ | ⟨_, _, ny⟩
    · obtain ⟨m, i, hr, _⟩ := rv_read fy
      unfold Ieee.Format.order; rw [hr, read_inf ix]; exact ⟨_, rfl⟩
    · unfold Ieee.Format.order; rw [read_inf ix, read_inf iy]; exact ⟨_, rfl⟩
    · rw [ny] at hy; cases hy
  · rw [nx] at hx; cases hx
theorem fge_flt {x y : Nat} (hx : isNaN x = false) (hy : isNaN y = false) : fge x y = !flt x y := by
  obtain ⟨o, ho⟩ := order_some hx hy
  unfold fge flt
  rw [ho]
  cases o <;> rfl
theorem fle_fgt {x y : Nat} (hx : isNaN x = false) (hy : isNaN y = false) : fle x y = !fgt x y := by
  obtain ⟨o, ho⟩ := order_some hx hy
  unfold fle fgt
  rw [ho]
  cases o <;> rfl
theorem inB_yes {q : Nat} (h : inB q = true) : isNaN q = false ∧ flt q 0 = false ∧ fgt q 4607182418800017408 = false := by
  have hn := fin_nan (inB_spec h).1
  unfold inB at h
  rw [Bool.and_eq_true, fge_flt hn (by decide), fle_fgt hn (by decide)] at h
  exact ⟨hn, by simpa using h.1, by simpa [oneW] using h.2⟩
theorem inB_no {q : Nat} (h : inB q = false) : isNaN q = true ∨ (isNaN q = false ∧ flt q 0 = true) ∨ (isNaN q = false ∧ flt q 0 = false ∧ fgt q 4607182418800017408 = true) := by
  cases hn : isNaN q
  · unfold inB at h
    rw [fge_flt hn (by decide), fle_fgt hn (by decide)] at h
    cases h1 : flt q 0
    · rw [h1] at h
      exact .inr (.inr ⟨rfl, rfl, by simpa [oneW] using h⟩)
    · exact .inr (.inl ⟨rfl, rfl⟩)
  · exact .inl rfl

theorem rep_U : Rep U := ⟨1, by omega, by rw [ab_nonneg_eq (Rat.le_of_lt U_pos)]; unfold VR; rw [V_small (by omega)]; simp⟩
theorem part_zero {n q : Nat} (hn : 1 ≤ n) (hn2 : n ≤ 1000000) (h : inB q = true) : feq (floatOfInt .f64 (qlow n q : Int)) (qk n q) = feq (qpart n q) 0 := by
  obtain ⟨k1, k2, k3, _⟩ := qk_facts hn hn2 h
  obtain ⟨l1, l2, l3, l4, l5⟩ := qlow_facts hn hn2 h
  obtain ⟨i1, i2⟩ := ofInt_fin ((qlow n q : Nat) : Int) (by omega)
  have hr := fsub_rn k1 i1
  have hp : fin (qpart n q) := by
    rw [i2, Rat.intCast_natCast] at hr
    exact (hr.between Rep.zero (rep_nat 1 (by omega)) (by grind) (by rw [Rat.natCast_add] at l2; grind)).1
  show feq (ofInt _) _ = _
  rw [feq_fin i1 k1, feq_fin hp zero_fin.1, zero_fin.2, decide_eq_decide]
  constructor
  · intro e
    have h0 : rv (qk n q) - rv (ofInt (qlow n q : Int)) = 0 := by grind
    rw [h0] at hr
    exact (hr.exact Rep.zero).2
  · intro e
    obtain ⟨n1, e1⟩ := rv_units (qk n q)
    obtain ⟨n2, e2⟩ := rv_units (ofInt (qlow n q : Int))
    have hle : rv (ofInt (qlow n q : Int)) ≤ rv (qk n q) := by rw [i2, Rat.intCast_natCast]; exact l1
    rcases lt_or_le (rv (ofInt (qlow n q : Int))) (rv (qk n q)) with hlt | hge
    · exfalso
      have hU := U_pos
      have hn12 : n2 < n1 := by
        rw [e1, e2] at hlt
        exact_mod_cast Rat.lt_of_mul_lt_mul_right hlt (Rat.le_of_lt hU)
      have hdiff : U ≤ rv (qk n q) - rv (ofInt (qlow n q : Int)) := by
        rw [e1, e2]
        have h1 : ((1 : Int) : Rat) ≤ ((n1 - n2 : Int) : Rat) := by exact_mod_cast (by omega : (1 : Int) ≤ n1 - n2)
        have h2 := Rat.mul_le_mul_of_nonneg_right h1 (Rat.le_of_lt hU)
        rw [Rat.intCast_sub] at h2
        have h3 : ((1 : Int) : Rat) = 1 := rfl
        rw [h3] at h2
        grind
      have hd1 : rv (qk n q) - rv (ofInt (qlow n q : Int)) ≤ 1 := by
        rw [i2, Rat.intCast_natCast]
        rw [Rat.natCast_add] at l2
        grind
      have hb := hr.between rep_U (rep_nat 1 (by omega)) hdiff hd1
      have : U ≤ rv (qpart n q) := hb.2.1
      rw [e] at this
      grind
    · grind

theorem ckf_nan {x : Nat} (hx : x < 2^64) (h : isNaN x = false) : ckf x < ckf cN := by
  unfold ckf
  rw [canon_cN, canon_of_not h, keyF_eq hx, keyF_eq (by decide : cN < 2^64), show sg cN = false from by decide]
  unfold isNaN at h
  rw [decide_eq_false_iff_not] at h
  unfold rung at h
  cases hs : sg x
  · have := (sg_false hx).1 hs
    simp only [Bool.false_eq_true, if_false]; unfold cN; omega
  · simp only [if_true, Bool.false_eq_true, if_false]
    have : ¬ x < 2^63 := fun h => by rw [(sg_false hx).2 h] at hs; cases hs
    unfold cN; omega
theorem rsl_canon2 {l m : List Nat} (h : RSL l m) (hb : ∀ x ∈ l, x < 2^64) : m.map canon = sortF l := by
  unfold sortF
  rw [← h.map hb]
  exact (map_toCW (h.bd hb)).symm
/-- what the reference has sorted, read raw -/
theorem sorted_raw {l s : List Nat} (h : RSL l s) (hb : ∀ x ∈ l, x < 2^64) {m : Nat} (hm : m < s.length) :
    isNaN (s.getD m 0) = isNaN ((sortF l).getD m 0) ∧ (s.length = m + 1 → isNaN ((sortF l).getD m 0) = false → s = sortF l) := by
  have hc := rsl_canon2 h hb
  have e : ∀ k, k < s.length → (sortF l).getD k 0 = canon (s.getD k 0) := fun k hk => by
    rw [← hc, List.getD_eq_getElem?_getD, List.getElem?_map, List.getElem?_eq_getElem hk, List.getD_eq_getElem?_getD, List.getElem?_eq_getElem hk]; rfl
  refine ⟨by rw [e m hm, isNaN_canon], fun hl hn => ?_⟩
  rw [← hc]
  have hall : ∀ x ∈ s, canon x = x := fun x hx => by
    refine canon_of_not ?_
    obtain ⟨k, hk, rfl⟩ := List.getElem_of_mem hx
    cases hnk : isNaN s[k]
    · rfl
    · exfalso
      have hp := h.2
      rw [List.pairwise_iff_getElem] at hp
      have hle : ckf s[k] ≤ ckf s[m] := by
        rcases Nat.lt_or_ge k m with h' | h'
        · exact hp k m hk hm h'
        · obtain rfl : k = m := by omega
          exact Nat.le_refl _
      rw [e m hm, isNaN_canon] at hn
      have hgm : s.getD m 0 = s[m] := by rw [List.getD_eq_getElem?_getD, List.getElem?_eq_getElem hm]; rfl
      rw [hgm] at hn
      have h1 := ckf_nan (h.bd hb _ (List.getElem_mem hm)) hn
      have h2 : ckf s[k] = ckf cN := by unfold ckf; rw [canon_of_nan hnk, canon_cN]
      omega
  exact (List.map_congr_left hall |>.trans (List.map_id' s)).symm
end Fl
