/- The compensated sum as a plain function of words, and what it is for whole numbers. -/
import Derived.Test.YtkpnjehgbehhcaaScp
namespace Fl

theorem snoc_cases {α : Type} (l : List α) : l = [] ∨ ∃ l' x, l = l' ++ [x] := by
  rcases List.eq_nil_or_concat l with h | ⟨l', x, h⟩
  · exact .inl h
  · exact .inr ⟨l', x, by rw [h, List.concat_eq_append]⟩
theorem rung_lt (x : Nat) : rung x < 2^63 := Nat.mod_lt _ (by omega)
theorem rung_rung (x : Nat) : rung (rung x) = rung x := Nat.mod_eq_of_lt (rung_lt x)
theorem sg_rung (x : Nat) : sg (rung x) = false := by
  unfold sg rung
  have : x % 2^63 / 2^63 = 0 := Nat.div_eq_of_lt (Nat.mod_lt _ (by omega))
  rw [this]; rfl
theorem isNaN_rung (x : Nat) : isNaN (rung x) = isNaN x := by unfold isNaN; rw [rung_rung]
theorem fin_rung {x : Nat} (h : fin x) : fin (rung x) := by unfold fin; rw [rung_rung]; exact h
theorem rv_rung (x : Nat) : rv (rung x) = ab (rv x) := by
  unfold rv; rw [rung_rung, sg_rung, ab_sv _ (VR_nonneg _)]; simp [sv]

theorem fge_nan_l {x : Nat} (y : Nat) (h : isNaN x = true) : fge x y = false := by unfold fge; rw [nan_order_l y h]; rfl
theorem fge_nan_r {y : Nat} (x : Nat) (h : isNaN y = true) : fge x y = false := by unfold fge; rw [nan_order_r x h]; rfl

/-- 'the word is kept whichever NaN it is' for the comparison of sizes -/
theorem fge_rung_canon (x y : Nat) : fge (rung (canon x)) (rung (canon y)) = fge (rung x) (rung y) := by
  cases hx : isNaN x
  · cases hy : isNaN y
    · rw [canon_of_not hx, canon_of_not hy]
    · rw [fge_nan_r _ (by rw [isNaN_rung, isNaN_canon]; exact hy), fge_nan_r _ (by rw [isNaN_rung]; exact hy)]
  · rw [fge_nan_l _ (by rw [isNaN_rung, isNaN_canon]; exact hx), fge_nan_l _ (by rw [isNaN_rung]; exact hx)]

/-- one number more: the sum, and the digits that were lost -/
def sstep (st : Nat × Nat) (x : Nat) : Nat × Nat :=
  (fadd st.1 x, if fge (rung st.1) (rung x) then fadd st.2 (fadd (fsub st.1 (fadd st.1 x)) x) else fadd st.2 (fadd (fsub x (fadd st.1 x)) st.1))

def foldS (l : List Nat) : Nat × Nat := l.foldl sstep (0, 0)

/-- -0's bits -/
def negZ : Nat := 9223372036854775808
/-- all are -0, and there is one -/
def allNegZ (l : List Nat) : Bool := !l.isEmpty && l.all fun x => canon x == negZ

/-- the sum -/
def sumF (l : List Nat) : Nat :=
  if allNegZ l then negZ else if isNaN (foldS l).2 then (foldS l).1 else fadd (foldS l).1 (foldS l).2

theorem sstep_canon (s c x : Nat) : sstep (canon s, canon c) (canon x) = sstep (s, c) x := by
  unfold sstep
  simp only [fge_rung_canon, fadd_canon_l, fadd_canon_r, fsub_canon_l]

theorem foldS_snoc (l : List Nat) (x : Nat) : foldS (l ++ [x]) = sstep (foldS l) x := by
  unfold foldS; rw [List.foldl_append]; rfl

theorem foldS_canonical (l : List Nat) : canon (foldS l).1 = (foldS l).1 ∧ canon (foldS l).2 = (foldS l).2 := by
  rcases snoc_cases l with rfl | ⟨l', x, rfl⟩
  · exact ⟨by decide, by decide⟩
  · rw [foldS_snoc]
    unfold sstep
    refine ⟨canon_fadd _ _, ?_⟩
    simp only
    split <;> exact canon_fadd _ _

theorem canon_sumF (l : List Nat) : canon (sumF l) = sumF l := by
  unfold sumF
  split
  · decide
  · split
    · exact (foldS_canonical l).1
    · exact canon_fadd _ _

/-- which NaN is not seen -/
theorem foldS_congr : ∀ (l m : List Nat), l.map canon = m.map canon → foldS l = foldS m := by
  intro l
  induction hn : l.length generalizing l with
  | zero =>
    intro m h
    have : l = [] := List.eq_nil_of_length_eq_zero hn
    subst this
    have : m = [] := by cases m with | nil => rfl | cons => simp at h
    subst this; rfl
  | succ n ih =>
    intro m h
    rcases snoc_cases l with rfl | ⟨l', x, rfl⟩
    · simp at hn
    · rcases snoc_cases m with rfl | ⟨m', y, rfl⟩
      · simp at h
      · simp only [List.map_append, List.map_cons, List.map_nil] at h
        obtain ⟨h1, h2⟩ := List.append_inj' h rfl
        have e := ih l' (by simpa using hn) m' h1
        rw [foldS_snoc, foldS_snoc, e]
        have hx : canon x = canon y := by simpa using h2
        obtain ⟨c1, c2⟩ := foldS_canonical m'
        rw [show foldS m' = (canon (foldS m').1, canon (foldS m').2) from by rw [c1, c2]]
        rw [← sstep_canon (canon (foldS m').1) (canon (foldS m').2) x, ← sstep_canon (canon (foldS m').1) (canon (foldS m').2) y, hx]

theorem allNegZ_congr (l m : List Nat) (h : l.map canon = m.map canon) : allNegZ l = allNegZ m := by
  unfold allNegZ
  have h1 : (l.all fun x => canon x == negZ) = (l.map canon).all (· == negZ) := by rw [List.all_map]; rfl
  have h2 : (m.all fun x => canon x == negZ) = (m.map canon).all (· == negZ) := by rw [List.all_map]; rfl
  have h3 : l.isEmpty = m.isEmpty := by
    have := congrArg List.length h
    simp only [List.length_map] at this
    cases l <;> cases m <;> simp at this ⊢
  rw [h1, h2, h, h3]

theorem sumF_congr (l m : List Nat) (h : l.map canon = m.map canon) : sumF l = sumF m := by
  unfold sumF; rw [foldS_congr l m h, allNegZ_congr l m h]

/-! ## whole numbers -/
/-- the sum of whole numbers -/
def isum (l : List Int) : Int := l.foldl (· + ·) 0
theorem isum_snoc (l : List Int) (x : Int) : isum (l ++ [x]) = isum l + x := by unfold isum; rw [List.foldl_append]; rfl
theorem isum_from (l : List Int) : ∀ a, l.foldl (· + ·) a = a + isum l := by
  unfold isum
  induction l with
  | nil => intro a; simp
  | cons x l ih => intro a; rw [List.foldl_cons, List.foldl_cons, ih, ih (0 + x)]; omega
theorem isum_append (l m : List Int) : isum (l ++ m) = isum l + isum m := by
  unfold isum; rw [List.foldl_append, isum_from]; rfl
theorem isum_bound (B : Nat) (l : List Int) (h : ∀ x ∈ l, x.natAbs ≤ B) : (isum l).natAbs ≤ l.length * B := by
  induction hn : l.length generalizing l with
  | zero => have : l = [] := List.eq_nil_of_length_eq_zero hn
            subst this; simp [isum]
  | succ n ih =>
    rcases snoc_cases l with rfl | ⟨l', x, rfl⟩
    · simp at hn
    · rw [isum_snoc]
      have h1 := ih l' (fun y hy => h y (by simp [hy])) (by simpa using hn)
      have h2 := h x (by simp)
      rw [Nat.add_mul, Nat.one_mul]
      omega

theorem foldS_whole (l : List Int) (hl : l.length ≤ 300) (h : ∀ x ∈ l, x.natAbs ≤ 1099511627776) :
    fin (foldS (l.map ofInt)).1 ∧ rv (foldS (l.map ofInt)).1 = isum l ∧ fin (foldS (l.map ofInt)).2 ∧ rv (foldS (l.map ofInt)).2 = 0 := by
  induction hn : l.length generalizing l with
  | zero =>
    have : l = [] := List.eq_nil_of_length_eq_zero hn
    subst this
    exact ⟨zero_fin.1, zero_fin.2, zero_fin.1, zero_fin.2⟩
  | succ n ih =>
    rcases snoc_cases l with rfl | ⟨l', x, rfl⟩
    · simp at hn
    · have hl' : l'.length = n := by simpa using hn
      have hlen : (l' ++ [x]).length = n + 1 := hn
      have hx := h x (by simp)
      have h' : ∀ y ∈ l', y.natAbs ≤ 1099511627776 := fun y hy => h y (by simp [hy])
      obtain ⟨a1, a2, a3, a4⟩ := ih l' (by omega) h' hl'
      obtain ⟨x1, x2⟩ := ofInt_fin x (by omega)
      have b1 := isum_bound 1099511627776 l' h'
      have b2 := isum_bound 1099511627776 (l' ++ [x]) h
      rw [List.map_append, List.map_cons, List.map_nil, foldS_snoc]
      rw [hlen] at b2 hl
      rw [hl'] at b1
      generalize foldS (l'.map ofInt) = st at *
      obtain ⟨s, c⟩ := st
      simp only at a1 a2 a3 a4
      have rS : Rep ((isum (l' ++ [x]) : Int) : Rat) := rep_int _ (by omega)
      have hadd := fadd_rn a1 x1
      have e1 : rv s + rv (ofInt x) = ((isum (l' ++ [x]) : Int) : Rat) := by rw [a2, x2, isum_snoc, Rat.intCast_add]
      rw [e1] at hadd
      obtain ⟨t1, t2⟩ := hadd.exact rS
      unfold sstep
      simp only
      generalize fadd s (ofInt x) = t at *
      refine ⟨t1, t2, ?_⟩
      have key : ∀ p q, fin p → fin q → rv p - rv t + rv q = 0 → (∃ n : Int, n.natAbs ≤ 9007199254740992 ∧ rv p - rv t = n) →
          fin (fadd c (fadd (fsub p t) q)) ∧ rv (fadd c (fadd (fsub p t) q)) = 0 := by
        intro p q hp hq h0 ⟨n, hn1, hn2⟩
        have d := fsub_rn hp t1
        rw [hn2] at d
        obtain ⟨d1, d2⟩ := d.exact (rep_int n (by omega))
        have e := fadd_rn d1 hq
        rw [d2, ← hn2, h0] at e
        obtain ⟨e1, e2⟩ := e.exact Rep.zero
        have f := fadd_rn a3 e1
        rw [a4, e2, show (0 : Rat) + 0 = 0 by grind] at f
        exact f.exact Rep.zero
      have hsum : (isum (l' ++ [x])) = isum l' + x := isum_snoc l' x
      split
      · refine key s (ofInt x) a1 x1 ?_ ⟨-x, by omega, ?_⟩
        · rw [a2, t2, x2, hsum, Rat.intCast_add]; grind
        · rw [a2, t2, hsum, Rat.intCast_add, Rat.intCast_neg]; grind
      · refine key (ofInt x) s x1 a1 ?_ ⟨- isum l', by omega, ?_⟩
        · rw [a2, t2, x2, hsum, Rat.intCast_add]; grind
        · rw [x2, t2, hsum, Rat.intCast_add, Rat.intCast_neg]; grind

theorem ofInt_ne_negZ (n : Int) (h : n.natAbs ≤ 9007199254740992) : ofInt n ≠ negZ := by
  intro h0
  by_cases hn : n = 0
  · subst hn; revert h0; decide
  · obtain ⟨h1, h2⟩ := ofInt_fin n (by omega)
    rw [h0] at h2
    have : rv negZ = 0 := rv_eq_zero.2 (by decide)
    rw [this] at h2
    have := Rat.intCast_eq_zero_iff.1 h2.symm
    exact hn this

theorem allNegZ_whole (l : List Int) (h : ∀ x ∈ l, x.natAbs ≤ 9007199254740992) : allNegZ (l.map ofInt) = false := by
  cases l with
  | nil => rfl
  | cons x l =>
    unfold allNegZ
    rw [List.map_cons, List.all_cons, canon_ofInt]
    have : (ofInt x == negZ) = false := by
      rw [beq_eq_false_iff_ne]; exact ofInt_ne_negZ x (h x (by simp))
    rw [this]; simp

/-- whole numbers that are not too great are summed without an error -/
theorem sumF_whole (l : List Int) (hl : l.length ≤ 300) (h : ∀ x ∈ l, x.natAbs ≤ 1099511627776) :
    fin (sumF (l.map ofInt)) ∧ rv (sumF (l.map ofInt)) = isum l := by
  obtain ⟨a1, a2, a3, a4⟩ := foldS_whole l hl h
  unfold sumF
  rw [allNegZ_whole l (fun x hx => by have := h x hx; omega), if_neg (by simp), if_neg (by rw [fin_not_nan a3]; simp)]
  have hadd := fadd_rn a1 a3
  have b := isum_bound 1099511627776 l h
  have : l.length * 1099511627776 ≤ 300 * 1099511627776 := Nat.mul_le_mul_right _ hl
  rw [a2, a4, show ((isum l : Int) : Rat) + 0 = ((isum l : Int) : Rat) by grind] at hadd
  exact hadd.exact (rep_int _ (by omega))
end Fl
