/- What it means that a zone is worth it: plain. -/
import Derived.Test.YtkpnjehgbehhcaaZns
namespace Fl
open Go Go.Proofs Go.Proofs.Ytkpnjehgbehhcaa

theorem fdiv_lt64 (x y : Nat) : fdiv x y < 2^64 := by
  unfold fdiv Ieee.Format.div
  cases h : (D.read x).quotient _ (D.read y) with
  | none => exact (by decide : cN < 2^64)
  | some d => exact D.write_lt d
theorem worth_zero {u : Nat} {a : Int} (hu : fin u) (h0 : 0 ≤ rv u) (h1 : rv u ≤ 1) (ha : 0 ≤ a) (hb : a ≤ 1099511627776) (h : rv u = 1 ∨ a = 0) : rv (worthF u a) = 0 := by
  obtain ⟨p1, p2, p3, p4⟩ := worth_parts hu h0 h1 ha hb
  obtain ⟨o1, o2⟩ := one_fin
  obtain ⟨a1, a2⟩ := ofInt_fin a (by omega)
  have e2 : rv (fmul (fsub oneW u) (ofInt a)) = 0 := by
    have hm := fmul_rn p1.1 a1
    rcases h with h | h
    · have hs := fsub_rn o1 hu
      rw [o2, h] at hs
      have hz : (1 : Rat) - 1 = 0 := by grind
      rw [hz] at hs
      rw [(hs.exact Rep.zero).2, Rat.zero_mul] at hm
      exact (hm.exact Rep.zero).2
    · have hz : rv (ofInt a) = 0 := by rw [a2, h]; rfl
      rw [hz, Rat.mul_zero] at hm
      exact (hm.exact Rep.zero).2
  have hne : rung (fadd oneW u) ≠ 0 := rv_ne_rung (by grind)
  have hd := fdiv_rn p2.1 p3.1 hne
  rw [e2] at hd
  have hz : (0 : Rat) / rv (fadd oneW u) = 0 := by rw [Rat.div_def, Rat.zero_mul]
  rw [hz] at hd
  exact (hd.exact Rep.zero).2

/-- a zone that is worth it -/
theorem ok_facts {l s t now : Int} (h : okZ now (l, s, t) = true) : 1 ≤ s ∧ 0 ≤ l ∧ l < s ∧ (0 < l → t < now) ∧ scoreV l s t now < 2^64 ∧
    ((l = 0 ∧ scoreV l s t now = infW) ∨ (0 < l ∧ fin (scoreV l s t now) ∧ 0 < rv (scoreV l s t now))) := by
  unfold okZ at h
  simp only [Bool.and_eq_true, beq_iff_eq, Bool.not_eq_true'] at h
  obtain ⟨⟨h1, h2⟩, h3⟩ := h
  have hn : nowB l s t now = true := by
    unfold scoreE at h1
    cases hb : nowB l s t now
    · rw [hb] at h1; exact absurd h1 (by decide)
    · rfl
  have hv : scoreV l s t now = rscoreF l s t now := by rw [score_same]; unfold rscoreV; rw [hn]; rfl
  unfold nowB at hn
  rw [Bool.and_eq_true] at hn
  obtain ⟨m1, m2, m3, m4, m5⟩ := may_bounds hn.1
  have hnow := of_decide_eq_true hn.2
  rw [hv] at h2 h3 ⊢
  unfold rscoreF at h2 h3 ⊢
  by_cases hs : s = 0
  · rw [if_pos hs] at h2; rw [cN_nan] at h2; cases h2
  · rw [if_neg hs] at h2 h3 ⊢
    by_cases hl : l = 0
    · rw [if_pos hl]
      exact ⟨by omega, m1, by omega, fun h => by omega, (by decide : infW < 2^64), .inl ⟨hl, rfl⟩⟩
    · rw [if_neg hl] at h2 h3 ⊢
      obtain ⟨u1, u2, u3⟩ := use_bounds (l := l) m1 m2 (by omega) m3
      obtain ⟨_, _, _, w1, w2, w3⟩ := worth_parts u1 u2 u3 (a := now - t) (by omega) (by omega)
      have hz : ¬ (rv (useF l s) = 1 ∨ now - t = 0) := fun hz => by
        have := worth_zero u1 u2 u3 (by omega) (by omega) hz
        rw [feq_zero w1, this] at h3
        exact absurd h3 (by decide)
      have hls : l < s := by
        rcases Int.lt_or_eq_of_le m2 with h | h
        · exact h
        · exfalso
          apply hz
          left
          subst h
          exact use_full (by omega) m3
      have hr : rv (worthF (useF l s) (now - t)) ≠ 0 := fun e => by
        rw [feq_zero w1, e] at h3
        exact absurd h3 (by decide)
      exact ⟨by omega, m1, hls, fun _ => by omega, fdiv_lt64 _ _, .inr ⟨by omega, w1, by grind⟩⟩

theorem ckf_inf {x : Nat} (hx : x < 2^64) (h : fin x) : ckf x < ckf infW := by
  have hi : infW < 2^64 := by decide
  have hin : isNaN infW = false := by decide
  have hsi : sg infW = false := by decide
  unfold ckf
  rw [canon_of_not (fin_not_nan h), canon_of_not hin, keyF_eq hx, keyF_eq hi, hsi]
  unfold fin rung at h
  have he : infW = 2047 * 2^52 := by decide
  cases hs : sg x
  · have := (sg_false hx).1 hs
    simp only [Bool.false_eq_true, if_false]; omega
  · simp only [if_true, Bool.false_eq_true, if_false]
    have : ¬ x < 2^63 := fun h => by rw [(sg_false hx).2 h] at hs; cases hs
    omega

theorem scS_ok {l : List Zn} {now : Int} {i : Nat} (h : okB l now i = true) : scS l now i = scoreV (l.getD i (0, 0, 0)).1 (l.getD i (0, 0, 0)).2.1 (l.getD i (0, 0, 0)).2.2 now := by
  unfold scS; rw [h]; rfl
theorem okB_facts {l : List Zn} {now : Int} {i : Nat} (h : okB l now i = true) : 1 ≤ (l.getD i (0, 0, 0)).2.1 ∧ 0 ≤ (l.getD i (0, 0, 0)).1 ∧ (l.getD i (0, 0, 0)).1 < (l.getD i (0, 0, 0)).2.1 ∧ (0 < (l.getD i (0, 0, 0)).1 → (l.getD i (0, 0, 0)).2.2 < now) ∧ scS l now i < 2^64 ∧
    (((l.getD i (0, 0, 0)).1 = 0 ∧ scS l now i = infW) ∨ (0 < (l.getD i (0, 0, 0)).1 ∧ fin (scS l now i) ∧ 0 < rv (scS l now i))) := by
  rw [scS_ok h]
  exact ok_facts h
theorem IsRank.mem {S : Nat → Nat} {ok : Nat → Bool} {n : Nat} {r : List Nat} (h : IsRank S ok n r) {j : Nat} (hj : j < r.length) : r.getD j 0 < n ∧ ok (r.getD j 0) = true := by
  have hm : r.getD j 0 ∈ r := by rw [List.getD_eq_getElem?_getD, List.getElem?_eq_getElem hj]; exact List.getElem_mem hj
  have := List.mem_filter.1 (h.1.mem_iff.1 hm)
  exact ⟨by simpa using this.1, this.2⟩
theorem IsRank.nodup {S : Nat → Nat} {ok : Nat → Bool} {n : Nat} {r : List Nat} (h : IsRank S ok n r) : r.Nodup :=
  h.1.nodup_iff.2 (List.nodup_range.filter _)
theorem IsRank.ne {S : Nat → Nat} {ok : Nat → Bool} {n : Nat} {r : List Nat} (h : IsRank S ok n r) {i j : Nat} (hij : i < j) (hj : j < r.length) : r.getD i 0 ≠ r.getD j 0 := by
  have hn := h.nodup
  rw [List.getD_eq_getElem?_getD, List.getElem?_eq_getElem (by omega : i < r.length), List.getD_eq_getElem?_getD, List.getElem?_eq_getElem hj]
  intro e
  have := (List.pairwise_iff_getElem.1 hn) i j (by omega) hj hij
  exact this e
theorem IsRank.le {S : Nat → Nat} {ok : Nat → Bool} {n : Nat} {r : List Nat} (h : IsRank S ok n r) {i j : Nat} (hij : i < j) (hj : j < r.length) : rkLe S (r.getD i 0) (r.getD j 0) := by
  rw [List.getD_eq_getElem?_getD, List.getElem?_eq_getElem (by omega : i < r.length), List.getD_eq_getElem?_getD, List.getElem?_eq_getElem hj]
  exact (List.pairwise_iff_getElem.1 h.2) i j (by omega) hj hij
/-- behind one with live blocks there is none without -/
theorem rank_rest {l : List Zn} {now : Int} {n : Nat} {r : List Nat} (h : IsRank (scS l now) (okB l now) n r) {i j : Nat} (hij : i < j) (hj : j < r.length) (hi : 0 < (l.getD (r.getD i 0) (0, 0, 0)).1) : 0 < (l.getD (r.getD j 0) (0, 0, 0)).1 := by
  obtain ⟨a1, a2, a3, a4, a5, a6⟩ := okB_facts (h.mem (by omega : i < r.length)).2
  obtain ⟨b1, b2, b3, b4, b5, b6⟩ := okB_facts (h.mem hj).2
  rcases a6 with ⟨e, _⟩ | ⟨_, f, _⟩
  · omega
  · rcases b6 with ⟨e, g⟩ | ⟨e, _⟩
    · exfalso
      have hle := h.le hij hj
      have hk := ckf_inf a5 f
      rw [← g] at hk
      unfold rkLe at hle
      omega
    · exact e
end Fl
