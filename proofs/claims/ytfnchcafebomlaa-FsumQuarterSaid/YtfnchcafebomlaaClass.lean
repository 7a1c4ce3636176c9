/- The walk of the reference's Class. -/
import Derived.Test.YtfnchcafebomlaaBits
namespace Go.Proofs.Ytfnchcafebomlaa
open Go.RowKit Fl

set_option maxHeartbeats 800000 in
theorem rclass_any (x : Nat) (w : World) :
    Calls Try.prog 16 #[.float .f64 x] w fun e w' => e = .returned (.int .i64 (classF (canon x))) ∧ w = w' := by
  generalize hy : canon x = y
  have H := Lib.hid hy
  clear hy
  generalize hc : classF y = c
  unfold classF at hc
  have HC := Lib.hid hc
  clear hc
  cases h1 : isNaN y <;> cases h2 : isInf y <;> cases h3 : isZ y <;> cases h4 : isLow y <;> cases h5 : sg y
  all_goals
    have HD := HC.out
    clear HC
    simp only [h1, h2, h3, h4, h5, if_true, if_false, Bool.false_eq_true] at HD
    subst HD
    go_enter Try.func16, Try.ntmps16
    go_wp2_with (go_at_call 32; refine (rbits_any _ _).mono ?_; rintro e w' ⟨rfl, rfl⟩; rw [H.out])
    go_ret
    exact ⟨rfl, rfl⟩
end Go.Proofs.Ytfnchcafebomlaa
