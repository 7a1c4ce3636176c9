/- A quantile of whole numbers rises with its part, from the least to the greatest: plain. -/
import Derived.Test.YtfnchcafebomlaaQtn
import Derived.Test.YtfnchcafebomlaaSpq
namespace Fl
open Go Go.Proofs Go.Proofs.Ytfnchcafebomlaa

theorem qpart_fin' {n q : Nat} (hn : 1 ≤ n) (hn2 : n ≤ 1000000) (h : inB q = true) : fin (qpart n q) ∧ 0 ≤ rv (qpart n q) ∧ rv (qpart n q) ≤ 1 ∧ RN (rv (qk n q) - (qlow n q : Rat)) (qpart n q) := by
  obtain ⟨k1, k2, k3, _⟩ := qk_facts hn hn2 h
  obtain ⟨l1, l2, l3, l4, l5⟩ := qlow_facts hn hn2 h
  obtain ⟨i1, i2⟩ := ofInt_fin ((qlow n q : Nat) : Int) (by omega)
  have hr := fsub_rn k1 i1
  rw [i2, Rat.intCast_natCast] at hr
  have hb := hr.between Rep.zero (rep_nat 1 (by omega)) (by grind) (by
    rw [Rat.natCast_add] at l2
    grind)
  exact ⟨hb.1, hb.2.1, hb.2.2, hr⟩

theorem ofInt_ltw (n : Int) : ofInt n < 2^64 := D.write_lt _
theorem rv_le_key {x y : Nat} (hx : x < 2^64) (hy : y < 2^64) (fx : fin x) (fy : fin y) (h : ckf x ≤ ckf y) : rv x ≤ rv y := by
  unfold ckf at h
  rw [canon_of_not (fin_nan fx), canon_of_not (fin_nan fy), keyF_eq hx, keyF_eq hy] at h
  unfold rv
  have nx := VR_nonneg (rung x)
  have ny := VR_nonneg (rung y)
  have a := sg_false hx
  have b := sg_false hy
  cases h1 : sg x <;> cases h2 : sg y <;> rw [h1] at a h <;> rw [h2] at b h <;> simp only [if_true, if_false, Bool.false_eq_true, reduceCtorEq, false_iff, true_iff, sv] at a b h ⊢
  · have : rung x ≤ rung y := by unfold rung; omega
    have := VR_le this
    grind
  · omega
  · grind
  · have : rung y ≤ rung x := by unfold rung; omega
    have := VR_le this
    grind

/-- what is sorted, of whole numbers -/
structure SW (n : Nat) (s : List Nat) (z : Nat → Int) : Prop where
  len : s.length = n
  word : ∀ j, j < n → s.getD j 0 = ofInt (z j)
  small : ∀ j, j < n → -1000000 ≤ z j ∧ z j ≤ 1000000
  mono : ∀ i j, i ≤ j → j < n → z i ≤ z j

theorem sw_of (l : List Int) (hb : ∀ x ∈ l, -1000000 ≤ x ∧ x ≤ 1000000) : ∃ z, SW l.length (sortF (l.map ofInt)) z := by
  have h64 : ∀ x ∈ l.map ofInt, x < 2^64 := fun x hx => by
    obtain ⟨y, _, rfl⟩ := List.mem_map.1 hx
    exact ofInt_ltw y
  have hlen : (sortF (l.map ofInt)).length = l.length := by rw [sortF_len, List.length_map]
  have hmem : ∀ j, j < l.length → ∃ v, v ∈ l ∧ (sortF (l.map ofInt)).getD j 0 = ofInt v := fun j hj => by
    have hj' : j < (sortF (l.map ofInt)).length := by omega
    have h1 : (sortF (l.map ofInt)).getD j 0 ∈ sortF (l.map ofInt) := by
      rw [List.getD_eq_getElem?_getD, List.getElem?_eq_getElem hj']; exact List.getElem_mem hj'
    have h2 := (sortF_perm h64).mem_iff.1 h1
    rw [List.map_map] at h2
    obtain ⟨v, hv, e⟩ := List.mem_map.1 h2
    exact ⟨v, hv, by rw [← e]; exact canon_ofInt v⟩
  obtain ⟨z, hz⟩ : ∃ z : Nat → Int, ∀ j, j < l.length → z j ∈ l ∧ (sortF (l.map ofInt)).getD j 0 = ofInt (z j) :=
    ⟨fun j => if h : j < l.length then (hmem j h).choose else 0, fun j hj => by
      simp only [dif_pos hj]
      exact (hmem j hj).choose_spec⟩
  have hstep : ∀ i, i + 1 < l.length → z i ≤ z (i + 1) := fun i hi => by
    have h1 := sortF_lef (l := l.map ofInt) (i := i) (by omega)
    rw [(hz i (by omega)).2, (hz (i + 1) hi).2] at h1
    have b1 := hb _ (hz i (by omega)).1
    have b2 := hb _ (hz (i + 1) hi).1
    obtain ⟨f1, r1⟩ := ofInt_fin (z i) (by omega)
    obtain ⟨f2, r2⟩ := ofInt_fin (z (i + 1)) (by omega)
    have := rv_le_key (ofInt_ltw _) (ofInt_ltw _) f1 f2 h1
    rw [r1, r2] at this
    exact_mod_cast this
  have hmono : ∀ d i, i + d < l.length → z i ≤ z (i + d) := fun d => by
    induction d with
    | zero => intro i _; exact Int.le_refl _
    | succ d ih =>
      intro i hi
      exact Int.le_trans (ih i (by omega)) (hstep (i + d) hi)
  refine ⟨z, ⟨hlen, fun j hj => (hz j hj).2, fun j hj => hb _ (hz j hj).1, fun i j hij hj => ?_⟩⟩
  have := hmono (j - i) i (by omega)
  rwa [show i + (j - i) = j by omega] at this

theorem SW.fin {n : Nat} {s : List Nat} {z : Nat → Int} (h : SW n s z) (j : Nat) (hj : j < n) : fin (s.getD j 0) ∧ rv (s.getD j 0) = (z j : Rat) := by
  have := h.small j hj
  rw [h.word j hj]
  exact ofInt_fin (z j) (by omega)

/-- the line between two of them -/
theorem line_facts {n : Nat} {s : List Nat} {z : Nat → Int} (h : SW n s z) {i j p : Nat} (hij : i ≤ j) (hj : j < n) (hp : Fl.fin p) (p0 : 0 ≤ rv p) (p1 : rv p ≤ 1) :
    ∃ t, Fl.fin t ∧ RN (rv p * ((z j : Rat) - (z i : Rat))) t ∧ 0 ≤ rv t ∧ rv t ≤ (z j : Rat) - (z i : Rat) ∧ Fl.fin (qline (s.getD i 0) (s.getD j 0) p) ∧ RN ((z i : Rat) + rv t) (qline (s.getD i 0) (s.getD j 0) p) ∧
      (z i : Rat) ≤ rv (qline (s.getD i 0) (s.getD j 0) p) ∧ rv (qline (s.getD i 0) (s.getD j 0) p) ≤ (z j : Rat) := by
  obtain ⟨fi, ri⟩ := h.fin i (by omega)
  obtain ⟨fj, rj⟩ := h.fin j hj
  have hz := h.mono i j hij hj
  have bi := h.small i (by omega)
  have bj := h.small j hj
  have hs := fsub_rn fj fi
  rw [ri, rj, ← Rat.intCast_sub] at hs
  obtain ⟨fd, rd⟩ := hs.exact (rep_int _ (by omega))
  have hd0 : (0 : Rat) ≤ ((z j - z i : Int) : Rat) := by exact_mod_cast (by omega : (0 : Int) ≤ z j - z i)
  have hm := fmul_rn hp fd
  rw [rd] at hm
  have m0 : 0 ≤ rv p * ((z j - z i : Int) : Rat) := Rat.mul_nonneg p0 hd0
  have m1 : rv p * ((z j - z i : Int) : Rat) ≤ ((z j - z i : Int) : Rat) := by
    have := Rat.mul_le_mul_of_nonneg_right p1 hd0
    rwa [Rat.one_mul] at this
  obtain ⟨ft, t0, t1⟩ := hm.between Rep.zero (rep_int _ (by omega)) m0 m1
  have ha := fadd_rn fi ft
  rw [ri] at ha
  have hb := ha.between (rep_int (z i) (by omega)) (rep_int (z j) (by omega)) (by grind) (by rw [Rat.intCast_sub] at t1; grind)
  rw [Rat.intCast_sub] at hm t1
  exact ⟨_, ft, hm, t0, t1, hb.1, ha, hb.2.1, hb.2.2⟩

/-- the value at a part, whichever way it is told -/
theorem quantAt_line {n q : Nat} {s : List Nat} {z : Nat → Int} (h : SW n s z) (hn : 1 ≤ n) (hn2 : n ≤ 1000000) (hq : inB q = true) :
    fin (quantAt s n q) ∧ rv (quantAt s n q) = rv (qline (s.getD (qlow n q) 0) (s.getD (qhigh n q) 0) (qpart n q)) := by
  obtain ⟨k1, k2, k3, _⟩ := qk_facts hn hn2 hq
  obtain ⟨l1, l2, l3, l4, l5⟩ := qlow_facts hn hn2 hq
  have hij : qlow n q ≤ qhigh n q := by unfold qhigh; omega
  have hjn : qhigh n q < n := by unfold qhigh; omega
  obtain ⟨p1, p2, p3, p4⟩ := qpart_fin' hn hn2 hq
  obtain ⟨t, ft, ht, t0, t1, fl, hl, b0, b1⟩ := line_facts h hij hjn p1 p2 p3
  obtain ⟨fi, ri⟩ := h.fin (qlow n q) (by omega)
  obtain ⟨fj, rj⟩ := h.fin (qhigh n q) hjn
  unfold quantAt
  by_cases hc : (canon (s.getD (qlow n q) 0) == canon (s.getD (qhigh n q) 0) || feq (qpart n q) 0) = true
  · rw [if_pos hc]
    refine ⟨fi, ?_⟩
    rw [ri]
    rw [Bool.or_eq_true] at hc
    rcases hc with hc | hc
    · have e : s.getD (qlow n q) 0 = s.getD (qhigh n q) 0 := by
        have := beq_iff_eq.1 hc
        rwa [canon_of_not (fin_nan fi), canon_of_not (fin_nan fj)] at this
      rw [e, rj] at ri
      grind
    · rw [feq_fin p1 zero_fin.1, decide_eq_true_eq, zero_fin.2] at hc
      rw [hc, Rat.zero_mul] at ht
      have e := (ht.exact Rep.zero).2
      rw [e] at hl
      have bi := h.small (qlow n q) (by omega)
      rw [Rat.add_zero] at hl
      exact (hl.exact (rep_int _ (by omega))).2.symm
  · rw [if_neg hc, if_neg (by rw [fin_nan fl]; decide)]
    exact ⟨fl, rfl⟩

theorem q_mono {n q q' : Nat} (hn : 1 ≤ n) (hn2 : n ≤ 1000000) (h : inB q = true) (h' : inB q' = true) (hle : rv q ≤ rv q') :
    rv (qk n q) ≤ rv (qk n q') ∧ qlow n q ≤ qlow n q' ∧ (qlow n q = qlow n q' → rv (qpart n q) ≤ rv (qpart n q')) := by
  obtain ⟨k1, k2, k3, k4⟩ := qk_facts hn hn2 h
  obtain ⟨l1, l2, l3, l4, l5⟩ := qlow_facts hn hn2 h
  obtain ⟨p1, p2, p3, p4⟩ := qpart_fin' hn hn2 h
  obtain ⟨k1', k2', k3', k4'⟩ := qk_facts hn hn2 h'
  obtain ⟨l1', l2', l3', l4', l5'⟩ := qlow_facts hn hn2 h'
  obtain ⟨p1', p2', p3', p4'⟩ := qpart_fin' hn hn2 h'
  have hnn : (0 : Rat) ≤ ((n - 1 : Nat) : Rat) := by exact_mod_cast Nat.zero_le _
  have hk := k4.mono k4' k1 k1' (Rat.mul_le_mul_of_nonneg_right hle hnn)
  have hlow : qlow n q ≤ qlow n q' := by
    have : ((qlow n q : Nat) : Rat) < ((qlow n q' + 1 : Nat) : Rat) := by grind
    have := rat_lt_nat.1 this
    omega
  refine ⟨hk, hlow, fun e => ?_⟩
  rw [← e] at p4'
  exact p4.mono p4' p1 p1' (by grind)

theorem quarter_mono {n q q' : Nat} {s : List Nat} {z : Nat → Int} (h : SW n s z) (hn : 1 ≤ n) (hn2 : n ≤ 1000000) (hq : inB q = true) (hq' : inB q' = true) (hle : rv q ≤ rv q') :
    rv (quantAt s n q) ≤ rv (quantAt s n q') := by
  obtain ⟨_, r1⟩ := quantAt_line h hn hn2 hq
  obtain ⟨_, r2⟩ := quantAt_line h hn hn2 hq'
  obtain ⟨l1, l2, l3, l4, l5⟩ := qlow_facts hn hn2 hq
  obtain ⟨l1', l2', l3', l4', l5'⟩ := qlow_facts hn hn2 hq'
  obtain ⟨p1, p2, p3, p4⟩ := qpart_fin' hn hn2 hq
  obtain ⟨p1', p2', p3', p4'⟩ := qpart_fin' hn hn2 hq'
  obtain ⟨m1, m2, m3⟩ := q_mono hn hn2 hq hq' hle
  have hij : qlow n q ≤ qhigh n q := by unfold qhigh; omega
  have hjn : qhigh n q < n := by unfold qhigh; omega
  have hij' : qlow n q' ≤ qhigh n q' := by unfold qhigh; omega
  have hjn' : qhigh n q' < n := by unfold qhigh; omega
  obtain ⟨t, ft, ht, t0, t1, fl, hl, b0, b1⟩ := line_facts h hij hjn p1 p2 p3
  obtain ⟨t', ft', ht', t0', t1', fl', hl', b0', b1'⟩ := line_facts h hij' hjn' p1' p2' p3'
  rw [r1, r2]
  by_cases e : qlow n q = qlow n q'
  · have hp := m3 e
    have eh : qhigh n q = qhigh n q' := by unfold qhigh; rw [e]
    rw [← e, ← eh] at ht' hl' fl' ⊢
    have hz := h.mono _ _ hij hjn
    have hd0 : (0 : Rat) ≤ (z (qhigh n q) : Rat) - (z (qlow n q) : Rat) := by
      have : (z (qlow n q) : Rat) ≤ (z (qhigh n q) : Rat) := by exact_mod_cast hz
      grind
    have htt := ht.mono ht' ft ft' (Rat.mul_le_mul_of_nonneg_right hp hd0)
    exact hl.mono hl' fl fl' (by grind)
  · have h1 : qhigh n q ≤ qlow n q' := by unfold qhigh; omega
    have hz := h.mono _ _ h1 (by omega)
    have : (z (qhigh n q) : Rat) ≤ (z (qlow n q') : Rat) := by exact_mod_cast hz
    grind

theorem zero_in : inB 0 = true := by decide
theorem one_in : inB oneW = true := by decide

theorem quarter_first {n : Nat} {s : List Nat} {z : Nat → Int} (h : SW n s z) (hn : 1 ≤ n) (hn2 : n ≤ 1000000) : rv (quantAt s n 0) = (z 0 : Rat) := by
  obtain ⟨_, r1⟩ := quantAt_line h hn hn2 zero_in
  obtain ⟨k1, k2, k3, k4⟩ := qk_facts hn hn2 zero_in
  obtain ⟨l1, l2, l3, l4, l5⟩ := qlow_facts hn hn2 zero_in
  obtain ⟨p1, p2, p3, p4⟩ := qpart_fin' hn hn2 zero_in
  rw [zero_fin.2, Rat.zero_mul] at k4
  have hk := (k4.exact Rep.zero).2
  have hlow : qlow n 0 = 0 := by
    rw [hk] at l1
    have : ((qlow n 0 : Nat) : Rat) ≤ ((0 : Nat) : Rat) := by grind
    have := rat_le_nat.1 this
    omega
  have hij : qlow n 0 ≤ qhigh n 0 := by unfold qhigh; omega
  have hjn : qhigh n 0 < n := by unfold qhigh; omega
  obtain ⟨t, ft, ht, t0, t1, fl, hl, b0, b1⟩ := line_facts h hij hjn p1 p2 p3
  rw [hk, hlow] at p4
  have hp : rv (qpart n 0) = 0 := by
    have e : (0 : Rat) - ((0 : Nat) : Rat) = 0 := by have : ((0 : Nat) : Rat) = 0 := rfl
                                                     rw [this]; grind
    rw [e] at p4
    exact (p4.exact Rep.zero).2
  rw [hp, Rat.zero_mul] at ht
  have e := (ht.exact Rep.zero).2
  rw [e, Rat.add_zero] at hl
  have bi := h.small (qlow n 0) (by omega)
  rw [r1, (hl.exact (rep_int _ (by omega))).2, hlow]

theorem quarter_last {n : Nat} {s : List Nat} {z : Nat → Int} (h : SW n s z) (hn : 1 ≤ n) (hn2 : n ≤ 1000000) : rv (quantAt s n oneW) = (z (n - 1) : Rat) := by
  obtain ⟨_, r1⟩ := quantAt_line h hn hn2 one_in
  obtain ⟨k1, k2, k3, k4⟩ := qk_facts hn hn2 one_in
  obtain ⟨l1, l2, l3, l4, l5⟩ := qlow_facts hn hn2 one_in
  obtain ⟨p1, p2, p3, p4⟩ := qpart_fin' hn hn2 one_in
  rw [one_fin.2, Rat.one_mul] at k4
  have hk := (k4.exact (rep_nat _ (by omega))).2
  have hlow : qlow n oneW = n - 1 := by
    rw [hk] at l2
    have := rat_lt_nat.1 l2
    omega
  have hhigh : qhigh n oneW = n - 1 := by unfold qhigh; omega
  have hij : qlow n oneW ≤ qhigh n oneW := by omega
  have hjn : qhigh n oneW < n := by omega
  obtain ⟨t, ft, ht, t0, t1, fl, hl, b0, b1⟩ := line_facts h hij hjn p1 p2 p3
  rw [r1]
  rw [hlow] at b0 b1 ⊢
  rw [hhigh] at b0 b1 ⊢
  grind

theorem inf_order {x y : Nat} (hx : isInf x = true) (hy : fin y) : fle x y = sg x ∧ fge x y = (!sg x) ∧ fle y x = (!sg x) := by
  obtain ⟨m, i, hr, _⟩ := rv_read hy
  unfold fle fge Ieee.Format.order
  rw [read_inf hx, hr]
  cases sg x <;> exact ⟨rfl, rfl, rfl⟩
/-- the law's test of the two parts -/
theorem parts_in {a b : Nat} (h1 : fge a 0 = true) (h2 : fle a b = true) (h3 : fle b oneW = true) : inB a = true ∧ inB b = true ∧ rv a ≤ rv b := by
  have z0 := zero_fin.1
  have o0 := one_fin.1
  have nan_fge : ∀ {x y : Nat}, isNaN x = true → fge x y = false := fun h => by unfold fge; rw [nan_order_l _ h]; rfl
  have nan_fle : ∀ {x y : Nat}, isNaN x = true → fle x y = false := fun h => by unfold fle; rw [nan_order_l _ h]; rfl
  have fb : fin b := by
    rcases kinds b with ⟨f, _, _⟩ | ⟨_, i, _⟩ | ⟨_, _, n⟩
    · exact f
    · exfalso
      rw [(inf_order i o0).1] at h3
      rcases kinds a with ⟨f, _, _⟩ | ⟨_, j, _⟩ | ⟨_, _, n⟩
      · rw [(inf_order i f).2.2, h3] at h2; cases h2
      · have s1 := (inf_order j z0).2.1
        rw [h1] at s1
        have s2 : sg a = false := by simpa using s1.symm
        unfold fle Ieee.Format.order at h2
        rw [read_inf j, read_inf i, s2, h3] at h2
        exact absurd h2 (by decide)
      · rw [nan_fge n] at h1; cases h1
    · rw [nan_fle n] at h3; cases h3
  have fa : fin a := by
    rcases kinds a with ⟨f, _, _⟩ | ⟨_, j, _⟩ | ⟨_, _, n⟩
    · exact f
    · exfalso
      have s1 := (inf_order j z0).2.1
      rw [h1] at s1
      rw [(inf_order j fb).1] at h2
      rw [h2] at s1; cases s1
    · rw [nan_fge n] at h1; cases h1
  have v2 : rv a ≤ rv b := by rw [fle_fin fa fb, decide_eq_true_eq] at h2; exact h2
  have v3 : rv b ≤ 1 := by rw [fle_fin fb o0, decide_eq_true_eq, one_fin.2] at h3; exact h3
  have v1 : 0 ≤ rv a := by rw [fge_eq, fle_fin z0 fa, decide_eq_true_eq, zero_fin.2] at h1; exact h1
  refine ⟨?_, ?_, v2⟩
  · unfold inB
    rw [h1, Bool.true_and, fle_fin fa o0, decide_eq_true_eq, one_fin.2]; grind
  · unfold inB
    rw [h3, Bool.and_true, fge_eq, fle_fin z0 fb, decide_eq_true_eq, zero_fin.2]; grind

theorem quarter_end {l : List Int} {a b : Nat} (h0 : l ≠ []) (hl : l.length ≤ 200) (hb : ∀ x ∈ l, -1000000 ≤ x ∧ x ≤ 1000000) (ha : inB a = true) (hbi : inB b = true) (hab : rv a ≤ rv b) :
    (∀ q, inB q = true → quantV (l.map ofInt) q = quantAt (sortF (l.map ofInt)) l.length q ∧ quantE (l.map ofInt) q = 0) ∧
    isNaN ((sortF (l.map ofInt)).getD (l.length - 1) 0) = false ∧
    fle (quantAt (sortF (l.map ofInt)) l.length a) (quantAt (sortF (l.map ofInt)) l.length b) = true ∧
    feq (quantAt (sortF (l.map ofInt)) l.length 0) ((sortF (l.map ofInt)).getD 0 0) = true ∧
    feq (quantAt (sortF (l.map ofInt)) l.length oneW) ((sortF (l.map ofInt)).getD (l.length - 1) 0) = true ∧
    fle (quantAt (sortF (l.map ofInt)) l.length 0) (quantAt (sortF (l.map ofInt)) l.length a) = true ∧
    fle (quantAt (sortF (l.map ofInt)) l.length b) (quantAt (sortF (l.map ofInt)) l.length oneW) = true := by
  have hp : 1 ≤ l.length := List.length_pos_iff.2 h0
  obtain ⟨z, hz⟩ := sw_of l hb
  have hn2 : l.length ≤ 1000000 := by omega
  obtain ⟨fa, _⟩ := quantAt_line hz hp hn2 ha
  obtain ⟨fb, _⟩ := quantAt_line hz hp hn2 hbi
  obtain ⟨f0, _⟩ := quantAt_line hz hp hn2 zero_in
  obtain ⟨f1, _⟩ := quantAt_line hz hp hn2 one_in
  obtain ⟨g0, w0⟩ := hz.fin 0 (by omega)
  obtain ⟨g1, w1⟩ := hz.fin (l.length - 1) (by omega)
  have ia := inB_spec ha
  have ib := inB_spec hbi
  refine ⟨fun q hq => ?_, fin_nan g1, ?_, ?_, ?_, ?_, ?_⟩
  · have hm : l.map ofInt ≠ [] := by simpa using h0
    unfold quantV quantE quantS
    rw [if_neg hm, if_neg hm, hq, List.length_map, fin_nan g1]
    exact ⟨rfl, rfl⟩
  · rw [fle_fin fa fb, decide_eq_true_eq]
    exact quarter_mono hz hp hn2 ha hbi hab
  · rw [feq_fin f0 g0, decide_eq_true_eq, w0]
    exact quarter_first hz hp hn2
  · rw [feq_fin f1 g1, decide_eq_true_eq, w1]
    exact quarter_last hz hp hn2
  · rw [fle_fin f0 fa, decide_eq_true_eq]
    exact quarter_mono hz hp hn2 zero_in ha (by rw [zero_fin.2]; exact ia.2.1)
  · rw [fle_fin fb f1, decide_eq_true_eq]
    exact quarter_mono hz hp hn2 hbi one_in (by rw [one_fin.2]; exact ib.2.2)
end Fl
