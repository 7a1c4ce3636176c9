/- Canonical words in the order of their keys: the plain theory of the sort. -/
import Derived.Test.YtkpnjehgbehhcaaKey
import Derived.Test.YtkpnjehgbehhcaaSmd
import Derived.Shelf.SlSortCmp.NoneTotal
namespace Fl
open Go

theorem xor_all (x : Nat) (hx : x < 2^64) : bits .xor .u64 18446744073709551615 (x : Int) = ((2^64 - 1 - x : Nat) : Int) := by
  show IntKind.u64.wrap ((BitVec.ofInt 64 (18446744073709551615 : Int) ^^^ BitVec.ofInt 64 (x : Int)).toNat : Int) = _
  have h : BitVec.ofInt 64 (18446744073709551615 : Int) ^^^ BitVec.ofInt 64 (x : Int) = ~~~(BitVec.ofInt 64 (x : Int)) := by
    rw [show BitVec.ofInt 64 (18446744073709551615 : Int) = BitVec.allOnes 64 from by decide, BitVec.allOnes_xor]
  rw [h, BitVec.toNat_not, ofInt_nat, Nat.mod_eq_of_lt hx, u64_wrap_nat _ (by omega)]

theorem xor_top (x : Nat) (hx : x < 2^63) : bits .xor .u64 (x : Int) 9223372036854775808 = ((x + 2^63 : Nat) : Int) := by
  show IntKind.u64.wrap ((BitVec.ofInt 64 (x : Int) ^^^ BitVec.ofInt 64 (9223372036854775808 : Int)).toNat : Int) = _
  rw [BitVec.toNat_xor, ofInt_nat, Nat.mod_eq_of_lt (by omega), show (BitVec.ofInt 64 (9223372036854775808 : Int)).toNat = 2^63 from by decide]
  have h : x ^^^ 2^63 = x + 2^63 := by
    have h1 : 2^63 ||| x = 2^63 + x := Nat.two_pow_add_eq_or_of_lt hx 1 |>.symm ▸ (by simp)
    apply Nat.eq_of_testBit_eq
    intro i
    rw [Nat.add_comm, ← h1, Nat.testBit_xor, Nat.testBit_or, Nat.testBit_two_pow]
    by_cases hi : 63 = i
    · subst hi
      rw [Nat.testBit_lt_two_pow hx]; simp
    · simp [hi]
  rw [h, u64_wrap_nat _ (by omega)]

theorem sg_false {x : Nat} (hx : x < 2^64) : sg x = false ↔ x < 2^63 := by unfold sg; rw [beq_eq_false_iff_ne]; omega
theorem keyF_eq {x : Nat} (hx : x < 2^64) : keyF x = if sg x then 2^64 - 1 - x else x + 2^63 := by
  unfold keyF
  cases h : sg x
  · rw [if_neg (by simp), if_neg (by simp), xor_top x ((sg_false hx).1 h), Int.toNat_natCast]
  · rw [if_pos rfl, if_pos rfl, xor_all x hx, Int.toNat_natCast]
theorem keyF_inj {x y : Nat} (hx : x < 2^64) (hy : y < 2^64) (h : keyF x = keyF y) : x = y := by
  rw [keyF_eq hx, keyF_eq hy] at h
  have a := sg_false hx
  have b := sg_false hy
  cases h1 : sg x <;> cases h2 : sg y <;> simp only [h1, h2, if_true, if_false, Bool.false_eq_true, reduceCtorEq, false_iff, true_iff] at a b h <;> omega

/-- a canonical word -/
def CW : Type := { x : Nat // x < 2^64 ∧ canon x = x }
instance : Inhabited CW := ⟨⟨0, by decide, by decide⟩⟩
theorem canon_lt' {x : Nat} (h : x < 2^64) : canon x < 2^64 := by unfold canon; split; exact (by decide : cN < 2^64); exact h
def toCW (x : Nat) : CW := ⟨canon (x % 2^64), canon_lt' (Nat.mod_lt _ (by omega)), canon_canon _⟩
theorem toCW_val {x : Nat} (h : x < 2^64) : (toCW x).1 = canon x := by unfold toCW; simp only; rw [Nat.mod_eq_of_lt h]
theorem toCW_self (a : CW) : toCW a.1 = a := Subtype.ext (by rw [toCW_val a.2.1]; exact a.2.2)
def CW.key (a : CW) : Nat := keyF a.1
theorem CW.ext_key {a b : CW} (h : a.key = b.key) : a = b := Subtype.ext (keyF_inj a.2.1 b.2.1 h)
def cfC (a b : CW) : Int := cmpN a.key b.key
end Fl
namespace Fl
open Go Go.Sort Go.Lib Go.Shelf Go.Proofs Go.RowKit
theorem ltC (x y : CW) : ltOf cfC x y = decide (x.key < y.key) := by
  unfold ltOf cfC cmpN
  by_cases h1 : x.key < y.key
  · simp [h1]
  · by_cases h2 : y.key < x.key <;> simp [h1, h2]
theorem swoC : SWO (ltOf cfC) where
  irrefl x := by rw [ltC]; simp
  trans x y z h1 h2 := by rw [ltC] at *; simp at *; omega
  ntrans x y z h1 h2 := by rw [ltC] at *; simp at *; omega
theorem totC (x y : CW) (h1 : ltOf cfC x y = false) (h2 : ltOf cfC y x = false) : x = y := by
  rw [ltC] at *; simp at *; exact CW.ext_key (by omega)
theorem geC : (fun x y : CW => !ltOf cfC y x) = fun x y => decide (x.key ≤ y.key) := by
  funext x y
  rw [ltC]
  by_cases h : x.key ≤ y.key
  · have h' : ¬ y.key < x.key := by omega
    simp [h, h']
  · have h' : y.key < x.key := by omega
    simp [h, h']
def sortC (l : List CW) : List CW := l.mergeSort fun x y => decide (x.key ≤ y.key)
theorem sortC_perm (l : List CW) : (sortC l).Perm l := List.mergeSort_perm _ _
theorem sortC_pair (l : List CW) : (sortC l).Pairwise fun x y => x.key ≤ y.key := by
  have h := List.pairwise_mergeSort (le := fun x y : CW => decide (x.key ≤ y.key)) (by intro a b c h1 h2; simp at *; omega) (by intro a b; simp; omega) l
  exact h.imp (by intro a b h; simpa using h)
theorem sortC_unique {l m : List CW} (hp : m.Perm l) (hs : m.Pairwise fun x y => x.key ≤ y.key) : m = sortC l :=
  List.Perm.eq_of_pairwise (le := fun x y : CW => x.key ≤ y.key) (fun _ _ _ _ h1 h2 => CW.ext_key (Nat.le_antisymm h1 h2)) hs (sortC_pair l) (hp.trans (sortC_perm l).symm)
theorem sortC_length (l : List CW) : (sortC l).length = l.length := (sortC_perm l).length_eq
end Fl
