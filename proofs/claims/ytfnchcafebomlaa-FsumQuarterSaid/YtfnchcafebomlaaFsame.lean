/- The walk of fbits.Same. -/
import Derived.Test.YtfnchcafebomlaaBits
namespace Go.Proofs.Ytfnchcafebomlaa
open Go.RowKit Fl

set_option maxHeartbeats 400000 in
theorem fsame_any (x y : Nat) (w : World) :
    Calls Try.prog 37 #[.float .f64 x, .float .f64 y] w fun e w' => e = .returned (.bool (canon x == canon y)) ∧ w = w' := by
  go_enter Try.func37, Try.ntmps37
  go_wp2_with (go_at_call 43; refine (bits_any _ _).mono ?_; rintro e w' ⟨rfl, rfl⟩)
  go_ret
  exact ⟨by rw [← beqN]; rfl, rfl⟩

end Go.Proofs.Ytfnchcafebomlaa
