/- Laws of the walk for float operations whose result may be any NaN, and for the sign bit of a word. No program is in sight here. -/
import Derived.Test.YtkpnjehgbehhcaaFld
import Derived.WalkKit
import Derived.WalkLawsBesides
import Derived.Laws.Externs
import Derived.Lib.Hide
namespace Go.RowKit
theorem bcell {W w1 : World} (hb : Below W.heap.size W w1) : (∀ b o, b < W.heap.size → w1.cell? ⟨b, o, none⟩ = W.cell? ⟨b, o, none⟩) ∧ (∀ b o, b < W.heap.size → w1.frozen? ⟨b, o, none⟩ = W.frozen? ⟨b, o, none⟩) :=
  ⟨fun b o h => hb.cell (p := ⟨b, o, none⟩) h, fun b o h => hb.frozen (p := ⟨b, o, none⟩) h⟩
end Go.RowKit
namespace Fl
open Go
/-- the sign bit, where it stands -/
def sgw (x : Nat) : Nat := if sg x then 2^63 else 0

theorem ofInt_nat (x : Nat) : (BitVec.ofInt 64 (x : Int)).toNat = x % 2^64 := by
  rw [BitVec.ofInt_natCast, BitVec.toNat_ofNat]

theorem u64_wrap_nat (n : Nat) (h : n < 2^64) : IntKind.u64.wrap ((n : Nat) : Int) = n := by
  rw [IntKind.wrap_u64]; omega

@[go_sem] theorem bits_clear (x : Nat) : bits .andNot .u64 (x : Int) 9223372036854775808 = (rung x : Int) := by
  show IntKind.u64.wrap ((BitVec.ofInt 64 (x : Int) &&& ~~~(BitVec.ofInt 64 (9223372036854775808 : Int))).toNat : Int) = _
  rw [BitVec.toNat_and, BitVec.toNat_not, ofInt_nat, show (BitVec.ofInt 64 (9223372036854775808 : Int)).toNat = 2^63 from by decide]
  rw [show 2^64 - 1 - 2^63 = 2^63 - 1 from by decide, Nat.and_two_pow_sub_one_eq_mod, u64_wrap_nat _ (by omega)]
  unfold rung; omega

@[go_sem] theorem bits_sign (x : Nat) : bits .and .u64 (x : Int) 9223372036854775808 = (sgw x : Int) := by
  show IntKind.u64.wrap ((BitVec.ofInt 64 (x : Int) &&& BitVec.ofInt 64 (9223372036854775808 : Int)).toNat : Int) = _
  rw [BitVec.toNat_and, ofInt_nat, show (BitVec.ofInt 64 (9223372036854775808 : Int)).toNat = 2^63 from by decide]
  have hb : (x % 2^64).testBit 63 = sg x := by
    unfold sg
    rw [Nat.testBit_mod_two_pow, Nat.testBit_eq_decide_div_mod_eq]
    by_cases h : x / 2^63 % 2 = 1 <;> simp [h]
  have hand : x % 2^64 &&& 2^63 = sgw x := by
    apply Nat.eq_of_testBit_eq
    intro i
    unfold sgw
    rw [Nat.testBit_and, Nat.testBit_two_pow]
    by_cases hi : 63 = i
    · subst hi
      rw [hb]
      cases sg x
      · simp
      · simp only [decide_true, Bool.and_true, if_true]; decide
    · cases sg x
      · simp [hi]
      · simp only [if_true, Nat.testBit_two_pow, hi, decide_false, Bool.and_false]
  rw [hand, u64_wrap_nat _ (by unfold sgw; split <;> omega)]

theorem format_eq : FloatKind.f64.format = D := rfl

theorem order_self (x : Nat) : D.order x x = if isNaN x then none else some .eq := by
  rcases kinds x with ⟨h, _, hn⟩ | ⟨_, hi, hn⟩ | ⟨_, _, hn⟩
  · rw [order_fin h h, hn]; simp
  · unfold Ieee.Format.order
    rw [read_inf hi, hn]
    cases sg x <;> rfl
  · obtain ⟨t, ht⟩ := read_nan hn
    unfold Ieee.Format.order
    rw [ht, hn]; rfl

theorem nan_order_l {x : Nat} (y : Nat) (h : isNaN x = true) : D.order x y = none := by
  obtain ⟨t, ht⟩ := read_nan h; unfold Ieee.Format.order; rw [ht]; rfl
theorem nan_order_r {y : Nat} (x : Nat) (h : isNaN y = true) : D.order x y = none := by
  obtain ⟨t, ht⟩ := read_nan h; unfold Ieee.Format.order; rw [ht]; cases D.read x <;> rfl

/-! comparisons of floats -/
def feq (x y : Nat) : Bool := D.order x y == some .eq
def fne (x y : Nat) : Bool := D.order x y != some .eq
def flt (x y : Nat) : Bool := D.order x y == some .lt
def fgt (x y : Nat) : Bool := D.order x y == some .gt
def fle (x y : Nat) : Bool := D.order x y == some .lt || D.order x y == some .eq
def fge (x y : Nat) : Bool := D.order x y == some .gt || D.order x y == some .eq
@[go_sem high] theorem f_eql (t : TypeId) (x y : Nat) : Go.binOp .eql t (.float .f64 x) (.float .f64 y) = pure (.bool (feq x y)) := binOp_float_cmp_eql ..
@[go_sem high] theorem f_neq (t : TypeId) (x y : Nat) : Go.binOp .neq t (.float .f64 x) (.float .f64 y) = pure (.bool (fne x y)) := binOp_float_cmp_neq ..
@[go_sem high] theorem f_lss (t : TypeId) (x y : Nat) : Go.binOp .lss t (.float .f64 x) (.float .f64 y) = pure (.bool (flt x y)) := binOp_float_cmp_lss ..
@[go_sem high] theorem f_gtr (t : TypeId) (x y : Nat) : Go.binOp .gtr t (.float .f64 x) (.float .f64 y) = pure (.bool (fgt x y)) := binOp_float_cmp_gtr ..
@[go_sem high] theorem f_leq (t : TypeId) (x y : Nat) : Go.binOp .leq t (.float .f64 x) (.float .f64 y) = pure (.bool (fle x y)) := binOp_float_cmp_leq ..
@[go_sem high] theorem f_geq (t : TypeId) (x y : Nat) : Go.binOp .geq t (.float .f64 x) (.float .f64 y) = pure (.bool (fge x y)) := binOp_float_cmp_geq ..
@[go_sem] theorem fne_self (x : Nat) : fne x x = isNaN x := by
  unfold fne; rw [order_self]; cases isNaN x <;> rfl
theorem feq_self (x : Nat) : feq x x = !isNaN x := by
  unfold feq; rw [order_self]; cases isNaN x <;> rfl

theorem feq_fin {x y : Nat} (hx : fin x) (hy : fin y) : feq x y = decide (rv x = rv y) := by
  unfold feq; rw [order_fin hx hy]
  by_cases h1 : rv x < rv y
  · rw [if_pos h1]; have : rv x ≠ rv y := by grind
    simp [this]
  · rw [if_neg h1]; by_cases h2 : rv x = rv y <;> simp [h2]
theorem fle_fin {x y : Nat} (hx : fin x) (hy : fin y) : fle x y = decide (rv x ≤ rv y) := by
  unfold fle; rw [order_fin hx hy]
  by_cases h1 : rv x < rv y
  · rw [if_pos h1]; have : rv x ≤ rv y := by grind
    simp [this]
  · rw [if_neg h1]; by_cases h2 : rv x = rv y
    · have : rv x ≤ rv y := by grind
      simp [h2]
    · have : ¬ rv x ≤ rv y := by grind
      simp [h2, this]
theorem flt_fin {x y : Nat} (hx : fin x) (hy : fin y) : flt x y = decide (rv x < rv y) := by
  unfold flt; rw [order_fin hx hy]
  by_cases h1 : rv x < rv y
  · simp [h1]
  · rw [if_neg h1]; by_cases h2 : rv x = rv y <;> simp [h1, h2]
theorem fge_eq (x y : Nat) : fge x y = fle y x := by
  unfold fge fle
  rcases kinds x with ⟨hx, ix, nx⟩ | ⟨_, ix, nx⟩ | ⟨_, _, nx⟩
  · rcases kinds y with ⟨hy, iy, ny⟩ | ⟨_, iy, ny⟩ | ⟨_, _, ny⟩
    · rw [order_fin hx hy, order_fin hy hx]
      by_cases h1 : rv x < rv y
      · have h2 : ¬ rv y < rv x := by grind
        have h3 : ¬ rv y = rv x := by grind
        simp [h1, h2, h3]
      · by_cases h2 : rv x = rv y
        · simp [h2]
        · have h3 : rv y < rv x := by grind
          simp [h1, h2, h3]
    · obtain ⟨m, i, hr, _⟩ := rv_read hx
      unfold Ieee.Format.order; rw [hr, read_inf iy]; cases sg y <;> rfl
    · rw [nan_order_r x ny, nan_order_l x ny]; rfl
  · rcases kinds y with ⟨hy, iy, ny⟩ | ⟨_, iy, ny⟩ | ⟨_, _, ny⟩
    · obtain ⟨m, i, hr, _⟩ := rv_read hy
      unfold Ieee.Format.order; rw [hr, read_inf ix]; cases sg x <;> rfl
    · unfold Ieee.Format.order; rw [read_inf ix, read_inf iy]; cases sg x <;> cases sg y <;> rfl
    · rw [nan_order_r x ny, nan_order_l x ny]; rfl
  · rw [nan_order_r y nx, nan_order_l y nx]; rfl

theorem nan_cut (x y : Nat) (t : Nat) : isNaN ((Question.nanBits .f64 x y).cut t) = true ∧ (Question.nanBits .f64 x y).cut t < 2^64 := by
  simp only [Question.cut]
  have h : t / 2 % (2 ^ 52 - 1) < 2^52 - 1 := Nat.mod_lt _ (by omega)
  generalize t / 2 % (2 ^ 52 - 1) = r at *
  have h2 : t % 2 < 2 := Nat.mod_lt _ (by omega)
  generalize t % 2 = s at *
  unfold isNaN rung
  constructor
  · simp only [decide_eq_true_eq]; omega
  · omega

theorem word_not_nan (s : Bool) (r : Nat) (h : r ≤ 2047 * 2^52) : isNaN (D.word s r) = false := by
  unfold isNaN
  rw [rung_word s (by omega)]
  simp; omega

theorem nearest_not_nan (s : Bool) (m : Nat) (p : Int) : isNaN (D.nearest s m p) = false := by
  obtain ⟨r, h, _⟩ := nearest_rnd s m p
  rw [h]
  exact word_not_nan s _ (by rw [infRung_eq]; omega)

theorem canon_of_not {x : Nat} (h : isNaN x = false) : canon x = x := by unfold canon; rw [h]; rfl
theorem canon_of_nan {x : Nat} (h : isNaN x = true) : canon x = cN := by unfold canon; rw [h]; rfl
theorem cN_nan : isNaN cN = true := by decide
theorem canon_cN : canon cN = cN := by decide
theorem canon_canon (x : Nat) : canon (canon x) = canon x := by
  unfold canon
  by_cases h : isNaN x = true
  · rw [if_pos h, if_pos cN_nan]
  · rw [if_neg h, if_neg h]
theorem isNaN_canon (x : Nat) : isNaN (canon x) = isNaN x := by
  unfold canon
  by_cases h : isNaN x = true
  · rw [if_pos h, h]; exact cN_nan
  · rw [if_neg h]

/-- a datum that is no NaN is written as no NaN -/
theorem write_not_nan (d : Ieee.Datum) (h : d.isNaN = false) : isNaN (D.write d) = false := by
  cases d with
  | number s m p => exact nearest_not_nan s m p
  | infinity s => exact word_not_nan s _ (by rw [infRung_eq]; omega)
  | nan s t => cases h

theorem sum_not_nan (a b d : Ieee.Datum) (h : a.sum b = some d) : d.isNaN = false := by
  cases a <;> cases b <;> simp [Ieee.Datum.sum] at h
  all_goals first | (subst h; rfl) | (obtain ⟨_, rfl⟩ := h; rfl)
theorem product_not_nan (a b d : Ieee.Datum) (h : a.product b = some d) : d.isNaN = false := by
  cases a <;> cases b <;> simp [Ieee.Datum.product] at h
  all_goals first | (subst h; rfl) | (obtain ⟨_, rfl⟩ := h; rfl)
theorem quotient_not_nan (k : Nat) (a b d : Ieee.Datum) (h : a.quotient k b = some d) : d.isNaN = false := by
  cases a <;> cases b <;> simp only [Ieee.Datum.quotient] at h
  all_goals first
    | (cases h; done)
    | (cases h; rfl)
    | (split at h
       · split at h
         · cases h
         · cases h; rfl
       · cases h; rfl)

theorem getD_not_nan {o : Option Nat} (h : ∀ r, o = some r → isNaN r = false) : canon (o.getD cN) = o.getD cN := by
  cases o with
  | none => exact canon_cN
  | some r => exact canon_of_not (h r rfl)
theorem canon_fadd (x y : Nat) : canon (fadd x y) = fadd x y := getD_not_nan fun r h => by
  unfold Ieee.Format.add at h
  obtain ⟨d, h1, rfl⟩ := Option.map_eq_some_iff.1 h
  exact write_not_nan d (sum_not_nan _ _ d h1)
theorem canon_fsub (x y : Nat) : canon (fsub x y) = fsub x y := getD_not_nan fun r h => by
  unfold Ieee.Format.sub at h
  obtain ⟨d, h1, rfl⟩ := Option.map_eq_some_iff.1 h
  exact write_not_nan d (sum_not_nan _ _ d h1)
theorem canon_fmul (x y : Nat) : canon (fmul x y) = fmul x y := getD_not_nan fun r h => by
  unfold Ieee.Format.mul at h
  obtain ⟨d, h1, rfl⟩ := Option.map_eq_some_iff.1 h
  exact write_not_nan d (product_not_nan _ _ d h1)
theorem canon_fdiv (x y : Nat) : canon (fdiv x y) = fdiv x y := getD_not_nan fun r h => by
  unfold Ieee.Format.div at h
  obtain ⟨d, h1, rfl⟩ := Option.map_eq_some_iff.1 h
  exact write_not_nan d (quotient_not_nan _ _ _ d h1)
theorem canon_ofInt (n : Int) : canon (ofInt n) = ofInt n := canon_of_not (write_not_nan _ rfl)

/-! an operation does not see which NaN it is given -/
theorem read_canon {x : Nat} (h : isNaN x = false) : D.read (canon x) = D.read x := by rw [canon_of_not h]
theorem nan_add_l {x : Nat} (y : Nat) (h : isNaN x = true) : D.add x y = none := by
  obtain ⟨t, ht⟩ := read_nan h; unfold Ieee.Format.add; rw [ht]; rfl
theorem nan_add_r {y : Nat} (x : Nat) (h : isNaN y = true) : D.add x y = none := by
  obtain ⟨t, ht⟩ := read_nan h; unfold Ieee.Format.add; rw [ht]; cases D.read x <;> rfl
theorem nan_sub_l {x : Nat} (y : Nat) (h : isNaN x = true) : D.sub x y = none := by
  obtain ⟨t, ht⟩ := read_nan h; unfold Ieee.Format.sub; rw [ht]; rfl
theorem nan_sub_r {y : Nat} (x : Nat) (h : isNaN y = true) : D.sub x y = none := by
  obtain ⟨t, ht⟩ := read_nan h; unfold Ieee.Format.sub; rw [ht]; cases D.read x <;> rfl
theorem nan_mul_l {x : Nat} (y : Nat) (h : isNaN x = true) : D.mul x y = none := by
  obtain ⟨t, ht⟩ := read_nan h; unfold Ieee.Format.mul; rw [ht]; rfl
theorem nan_mul_r {y : Nat} (x : Nat) (h : isNaN y = true) : D.mul x y = none := by
  obtain ⟨t, ht⟩ := read_nan h; unfold Ieee.Format.mul; rw [ht]; cases D.read x <;> rfl
theorem nan_div_l {x : Nat} (y : Nat) (h : isNaN x = true) : D.div x y = none := by
  obtain ⟨t, ht⟩ := read_nan h; unfold Ieee.Format.div; rw [ht]; rfl
theorem nan_div_r {y : Nat} (x : Nat) (h : isNaN y = true) : D.div x y = none := by
  obtain ⟨t, ht⟩ := read_nan h; unfold Ieee.Format.div; rw [ht]; cases D.read x <;> rfl
theorem canon2 {α : Type} (f : Nat → Nat → Option α) (hl : ∀ x y, isNaN x = true → f x y = none) (hr : ∀ x y, isNaN y = true → f x y = none) (x y : Nat) :
    f (canon x) (canon y) = f x y := by
  cases hx : isNaN x
  · cases hy : isNaN y
    · rw [canon_of_not hx, canon_of_not hy]
    · rw [hr _ _ hy, hr _ _ (by rw [isNaN_canon]; exact hy)]
  · rw [hl _ _ hx, hl _ _ (by rw [isNaN_canon]; exact hx)]
theorem fadd_canon (x y : Nat) : fadd (canon x) (canon y) = fadd x y := by
  unfold fadd; rw [canon2 D.add (fun x y h => nan_add_l y h) (fun x y h => nan_add_r x h)]
theorem fsub_canon (x y : Nat) : fsub (canon x) (canon y) = fsub x y := by
  unfold fsub; rw [canon2 D.sub (fun x y h => nan_sub_l y h) (fun x y h => nan_sub_r x h)]
theorem fmul_canon (x y : Nat) : fmul (canon x) (canon y) = fmul x y := by
  unfold fmul; rw [canon2 D.mul (fun x y h => nan_mul_l y h) (fun x y h => nan_mul_r x h)]
theorem fdiv_canon (x y : Nat) : fdiv (canon x) (canon y) = fdiv x y := by
  unfold fdiv; rw [canon2 D.div (fun x y h => nan_div_l y h) (fun x y h => nan_div_r x h)]
theorem order_canon (x y : Nat) : D.order (canon x) (canon y) = D.order x y :=
  canon2 D.order (fun _ y h => nan_order_l y h) (fun x _ h => nan_order_r x h) x y
theorem fadd_canon_l (x y : Nat) : fadd (canon x) y = fadd x y := by rw [← fadd_canon, canon_canon, fadd_canon]
theorem fadd_canon_r (x y : Nat) : fadd x (canon y) = fadd x y := by rw [← fadd_canon, canon_canon, fadd_canon]
theorem fsub_canon_l (x y : Nat) : fsub (canon x) y = fsub x y := by rw [← fsub_canon, canon_canon, fsub_canon]
theorem fsub_canon_r (x y : Nat) : fsub x (canon y) = fsub x y := by rw [← fsub_canon, canon_canon, fsub_canon]
theorem fmul_canon_l (x y : Nat) : fmul (canon x) y = fmul x y := by rw [← fmul_canon, canon_canon, fmul_canon]
theorem fmul_canon_r (x y : Nat) : fmul x (canon y) = fmul x y := by rw [← fmul_canon, canon_canon, fmul_canon]
theorem fdiv_canon_l (x y : Nat) : fdiv (canon x) y = fdiv x y := by rw [← fdiv_canon, canon_canon, fdiv_canon]
theorem fdiv_canon_r (x y : Nat) : fdiv x (canon y) = fdiv x y := by rw [← fdiv_canon, canon_canon, fdiv_canon]

/-- the function that an operator on float64s stands for -/
def fop (op : BinOp) : Nat → Nat → Nat :=
  match op with | .add => fadd | .sub => fsub | .mul => fmul | _ => fdiv

/-- WHAT A FLOAT OPERATION OF THE MODEL GIVES: a word whose canonical form is the plain function's value; a NaN has drawn once. -/
theorem float_run {P : Program} (w : World) (op : BinOp) (hop : op = .add ∨ op = .sub ∨ op = .mul ∨ op = .quo) (t : TypeId) (x y : Nat) :
    ∃ z n, (Go.binOp op t (.float .f64 x) (.float .f64 y)).run P w = .ok (.float .f64 z) (w.drewN n) ∧ canon z = fop op x y ∧ z < 2^64 := by
  by_cases h : ∃ r, floatBits op .f64 x y = some r
  · obtain ⟨r, hr⟩ := h
    refine ⟨r, 0, ?_, ?_, ?_⟩
    · rw [run_float_arith w op t .f64 x y r hr]; rfl
    · have hn : isNaN r = false := by
        unfold floatBits at hr
        simp only [format_eq] at hr
        rcases hop with rfl | rfl | rfl | rfl
        · unfold Ieee.Format.add at hr
          obtain ⟨d, h1, rfl⟩ := Option.map_eq_some_iff.1 hr
          exact write_not_nan d (sum_not_nan _ _ d h1)
        · unfold Ieee.Format.sub at hr
          obtain ⟨d, h1, rfl⟩ := Option.map_eq_some_iff.1 hr
          exact write_not_nan d (sum_not_nan _ _ d h1)
        · unfold Ieee.Format.mul at hr
          obtain ⟨d, h1, rfl⟩ := Option.map_eq_some_iff.1 hr
          exact write_not_nan d (product_not_nan _ _ d h1)
        · unfold Ieee.Format.div at hr
          obtain ⟨d, h1, rfl⟩ := Option.map_eq_some_iff.1 hr
          exact write_not_nan d (quotient_not_nan _ _ _ d h1)
      rw [canon_of_not hn]
      rcases hop with rfl | rfl | rfl | rfl
      · have hr' : D.add x y = some r := hr
        simp only [fop, fadd, hr', Option.getD_some]
      · have hr' : D.sub x y = some r := hr
        simp only [fop, fsub, hr', Option.getD_some]
      · have hr' : D.mul x y = some r := hr
        simp only [fop, fmul, hr', Option.getD_some]
      · have hr' : D.div x y = some r := hr
        simp only [fop, fdiv, hr', Option.getD_some]
    · have := floatBits_wf hr
      simpa [Lit.wf] using this
  · have h0 : floatBits op .f64 x y = none := by
      cases hb : floatBits op .f64 x y with
      | none => rfl
      | some r => exact absurd ⟨r, hb⟩ h
    refine ⟨(Question.nanBits .f64 x y).cut (w.tape w.drawn (.nanBits .f64 x y)), 1, ?_, ?_, (nan_cut _ _ _).2⟩
    · unfold floatBits at h0
      rcases hop with rfl | rfl | rfl | rfl <;> simp only at h0 <;> simp [Go.binOp, Op.floatArith, h0, choose, Sem.run, Question.forced] <;> rfl
    · rw [canon_of_nan (nan_cut _ _ _).1]
      rcases hop with rfl | rfl | rfl | rfl
      · have h0' : D.add x y = none := h0
        simp only [fop, fadd, h0', Option.getD_none]
      · have h0' : D.sub x y = none := h0
        simp only [fop, fsub, h0', Option.getD_none]
      · have h0' : D.mul x y = none := h0
        simp only [fop, fmul, h0', Option.getD_none]
      · have h0' : D.div x y = none := h0
        simp only [fop, fdiv, h0', Option.getD_none]

/-- THE WALK's LAW AT '+', '-', '*', '/' ON float64s -/
theorem wpList_float {P : Program} (w : World) {ops : Array Oper} {rest : List Oper} {o : Oper} {a : Act} {Q : Exit → Act → World → Prop}
    (hg : o.guard = none) (op : BinOp) (hop : op = .add ∨ op = .sub ∨ op = .mul ∨ op = .quo) (t u : TypeId) (l r : Operand) (ho : o.op = .binOp op t l r u) (x y : Nat)
    (hx : a.eval l = .float .f64 x) (hy : a.eval r = .float .f64 y)
    (hK : ∀ z n, canon z = fop op x y → z < 2^64 → wpList P ops Q rest (a.put o.dst (.float .f64 z)) (w.drewN n)) :
    wpList P ops Q (o :: rest) a w := by
  refine wpList_plain hg fun K' hK' => ?_
  obtain ⟨z, n, hrun, hz, hl⟩ := float_run (P := P) w op hop t x y
  unfold Oper.wp
  have he : (execOp a.eval o).run P w = .ok (.value (.float .f64 z)) (w.drewN n) := by
    unfold execOp
    rw [ho]
    simp only [hx, hy]
    rcases hop with rfl | rfl | rfl | rfl <;> simp [hrun, Result.andThen, eqGuard_at_float]
  rw [he]
  exact hK' _ _ (hK z n hz hl)

theorem wpList_fadd {P : Program} (w : World) {ops : Array Oper} {rest : List Oper} {o : Oper} {a : Act} {Q : Exit → Act → World → Prop}
    (hg : o.guard = none) (t u : TypeId) (l r : Operand) (ho : o.op = .binOp .add t l r u) (x y : Nat)
    (hx : a.eval l = .float .f64 x) (hy : a.eval r = .float .f64 y)
    (hK : ∀ z n, canon z = fadd x y → z < 2^64 → wpList P ops Q rest (a.put o.dst (.float .f64 z)) (w.drewN n)) :
    wpList P ops Q (o :: rest) a w := wpList_float w hg .add (.inl rfl) t u l r ho x y hx hy hK

theorem wpList_fsub {P : Program} (w : World) {ops : Array Oper} {rest : List Oper} {o : Oper} {a : Act} {Q : Exit → Act → World → Prop}
    (hg : o.guard = none) (t u : TypeId) (l r : Operand) (ho : o.op = .binOp .sub t l r u) (x y : Nat)
    (hx : a.eval l = .float .f64 x) (hy : a.eval r = .float .f64 y)
    (hK : ∀ z n, canon z = fsub x y → z < 2^64 → wpList P ops Q rest (a.put o.dst (.float .f64 z)) (w.drewN n)) :
    wpList P ops Q (o :: rest) a w := wpList_float w hg .sub (.inr (.inl rfl)) t u l r ho x y hx hy hK

theorem wpList_fmul {P : Program} (w : World) {ops : Array Oper} {rest : List Oper} {o : Oper} {a : Act} {Q : Exit → Act → World → Prop}
    (hg : o.guard = none) (t u : TypeId) (l r : Operand) (ho : o.op = .binOp .mul t l r u) (x y : Nat)
    (hx : a.eval l = .float .f64 x) (hy : a.eval r = .float .f64 y)
    (hK : ∀ z n, canon z = fmul x y → z < 2^64 → wpList P ops Q rest (a.put o.dst (.float .f64 z)) (w.drewN n)) :
    wpList P ops Q (o :: rest) a w := wpList_float w hg .mul (.inr (.inr (.inl rfl))) t u l r ho x y hx hy hK

theorem wpList_fquo {P : Program} (w : World) {ops : Array Oper} {rest : List Oper} {o : Oper} {a : Act} {Q : Exit → Act → World → Prop}
    (hg : o.guard = none) (t u : TypeId) (l r : Operand) (ho : o.op = .binOp .quo t l r u) (x y : Nat)
    (hx : a.eval l = .float .f64 x) (hy : a.eval r = .float .f64 y)
    (hK : ∀ z n, canon z = fdiv x y → z < 2^64 → wpList P ops Q rest (a.put o.dst (.float .f64 z)) (w.drewN n)) :
    wpList P ops Q (o :: rest) a w := wpList_float w hg .quo (.inr (.inr (.inr rfl))) t u l r ho x y hx hy hK

def isZ (x : Nat) : Bool := rung x == 0
def isLow (x : Nat) : Bool := decide (rung x < 2^52)

@[go_sem high] theorem gtr_inf (t : TypeId) (x : Nat) : Go.binOp .gtr t (.int .u64 (rung x : Int)) (.int .u64 9218868437227405312) = pure (.bool (isNaN x)) := by
  have h : decide ((rung x : Int) > 9218868437227405312) = isNaN x := by
    unfold isNaN; rw [Bool.eq_iff_iff, decide_eq_true_eq, decide_eq_true_eq]; omega
  simp only [Go.binOp, ← h]; rfl
@[go_sem high] theorem eql_inf (t : TypeId) (x : Nat) : Go.binOp .eql t (.int .u64 (rung x : Int)) (.int .u64 9218868437227405312) = pure (.bool (isInf x)) := by
  have h : ((rung x : Int) == 9218868437227405312) = isInf x := by
    unfold isInf; rw [Bool.eq_iff_iff, beq_iff_eq, beq_iff_eq]; omega
  simp only [Go.binOp, ← h]; rfl
@[go_sem high] theorem eql_zero (t : TypeId) (x : Nat) : Go.binOp .eql t (.int .u64 (rung x : Int)) (.int .u64 0) = pure (.bool (isZ x)) := by
  have h : ((rung x : Int) == 0) = isZ x := by
    unfold isZ; rw [Bool.eq_iff_iff, beq_iff_eq, beq_iff_eq]; omega
  simp only [Go.binOp, ← h]; rfl
@[go_sem high] theorem lss_low (t : TypeId) (x : Nat) : Go.binOp .lss t (.int .u64 (rung x : Int)) (.int .u64 4503599627370496) = pure (.bool (isLow x)) := by
  have h : decide ((rung x : Int) < 4503599627370496) = isLow x := by
    unfold isLow; rw [Bool.eq_iff_iff, decide_eq_true_eq, decide_eq_true_eq]; omega
  simp only [Go.binOp, ← h]; rfl
@[go_sem high] theorem eql_sgw (t : TypeId) (x : Nat) : Go.binOp .eql t (.int .u64 (sgw x : Int)) (.int .u64 0) = pure (.bool (!sg x)) := by
  have h : ((sgw x : Int) == 0) = !sg x := by unfold sgw; cases sg x <;> simp
  simp only [Go.binOp, ← h]; rfl
@[go_sem high] theorem neq_sgw (t : TypeId) (x : Nat) : Go.binOp .neq t (.int .u64 (sgw x : Int)) (.int .u64 0) = pure (.bool (sg x)) := by
  have h : ((sgw x : Int) != 0) = sg x := by unfold sgw; cases sg x <;> simp
  simp only [Go.binOp, ← h]; rfl

@[go_sem high] theorem unary_xor_u64 (n : Int) : Op.unary .xor (.int .u64 n) = pure (.int .u64 (bits .xor .u64 18446744073709551615 n)) := rfl

/-- a word's class (the document's numbers) -/
def classF (x : Nat) : Int :=
  if isNaN x then 1
  else if isInf x then (if sg x then 2 else 9)
  else if isZ x then (if sg x then 5 else 6)
  else if isLow x then (if sg x then 4 else 7)
  else (if sg x then 3 else 8)

/-- the number whose order is the numbers' (of a canonical word) -/
def keyF (b : Nat) : Nat := if sg b then (bits .xor .u64 18446744073709551615 b).toNat else (bits .xor .u64 b 9223372036854775808).toNat

theorem bits_u64_nonneg (op : BinOp) (a b : Int) : 0 ≤ bits op .u64 a b := by
  unfold bits; rw [IntKind.wrap_u64]; omega

theorem beqN (a b : Nat) : ((a : Int) == (b : Int)) = (a == b) := by rw [Bool.eq_iff_iff]; simp; omega

/-- -1, 0 or 1 -/
def cmpN (a b : Nat) : Int := if a < b then -1 else if b < a then 1 else 0
end Fl
