/- Two copies held against each other; two rows; two grids. -/
import Derived.Test.YtkpnjehgbehhcaaNxt
import Derived.Laws.StructEq
namespace Go.Proofs.Ytkpnjehgbehhcaa
open Go.RowKit

theorem eqlC (w : World) (a b c d : Int) : (binOp .eql 33 (.agg #[.int .i64 a, .int .i64 b]) (.agg #[.int .i64 c, .int .i64 d])).run Try.prog w = .ok (.bool (a == c && b == d)) w := by
  rw [run_eql_struct, show (10000 : Nat) = 9998 + 1 + 1 from rfl, run_equalIn_agg w (9998 + 1) 33 _ _ (by kernel_rfl) (by kernel_rfl)]
  have hu := Try.underlying33
  have h1 : ∀ w x y, (Op.equalIn (9998 + 1) 3 (.int .i64 x) (.int .i64 y)).run Try.prog w = .ok (x == y) w := fun w x y => run_equalIn_int w 9998 3 .i64 .i64 x y Try.underlying3
  simp only [Program.fieldsOf, hu]
  cases hac : (a == c) <;> cases hbd : (b == d) <;> go_simp
theorem neqC (w : World) (a b c d : Int) : (binOp .neq 33 (.agg #[.int .i64 a, .int .i64 b]) (.agg #[.int .i64 c, .int .i64 d])).run Try.prog w = .ok (.bool (!(a == c && b == d))) w := by
  rw [run_neq_struct, show (10000 : Nat) = 9998 + 1 + 1 from rfl, run_equalIn_agg w (9998 + 1) 33 _ _ (by kernel_rfl) (by kernel_rfl)]
  have hu := Try.underlying33
  have h1 : ∀ w x y, (Op.equalIn (9998 + 1) 3 (.int .i64 x) (.int .i64 y)).run Try.prog w = .ok (x == y) w := fun w x y => run_equalIn_int w 9998 3 .i64 .i64 x y Try.underlying3
  simp only [Program.fieldsOf, hu]
  cases hac : (a == c) <;> cases hbd : (b == d) <;> go_simp
theorem egC : Try.prog.eqGuardType Try.prog.depth 33 = false := by kernel_rfl
theorem count_take {l : List Cp} {c : Cp} {k : Nat} (hk : k < l.length) : (l.take (k + 1)).count c = (l.take k).count c + (if l.getD k (0, 0) = c then 1 else 0) := by
  rw [List.take_add_one, List.getElem?_eq_getElem hk, List.count_append, List.getD_eq_getElem?_getD, List.getElem?_eq_getElem hk]
  simp [List.count_cons, List.count_nil]
theorem flat_take {L : List (List Cp)} {k : Nat} (hk : k < L.length) : (L.take (k + 1)).flatten = (L.take k).flatten ++ L.getD k [] := by
  rw [List.take_add_one, List.getElem?_eq_getElem hk, List.flatten_append, List.getD_eq_getElem?_getD, List.getElem?_eq_getElem hk]
  simp
theorem flat_len_take (L : List (List Cp)) (k : Nat) : (L.take k).flatten.length ≤ L.flatten.length := by
  have h : L.flatten = (L.take k).flatten ++ (L.drop k).flatten := by rw [← List.flatten_append, List.take_append_drop]
  rw [h, List.length_append]
  omega
theorem tot_flat (L : List (List Cp)) : L.flatten.length + L.length = tot L := by
  unfold tot
  induction L with
  | nil => rfl
  | cons r L ih => simp only [List.flatten_cons, List.length_append, List.length_cons, List.map_cons, List.sum_cons]; omega
theorem row_tot {L : List (List Cp)} {r : List Cp} (h : r ∈ L) : r.length ≤ tot L := by
  have h1 := tot_flat L
  obtain ⟨i, hi, rfl⟩ := List.getElem_of_mem h
  have h2 := flat_len_take L (i + 1)
  rw [flat_take hi, List.length_append, List.getD_eq_getElem?_getD, List.getElem?_eq_getElem hi] at h2
  simp only [Option.getD_some] at h2
  omega
end Go.Proofs.Ytkpnjehgbehhcaa
