/- The walk of the reference's Same. -/
import Derived.Test.YticpfopjffbgbaaBits
namespace Go.Proofs.Yticpfopjffbgbaa
open Go.RowKit Fl

set_option maxHeartbeats 400000 in
theorem same_any (x y : Nat) (w : World) :
    Calls Try.prog 15 #[.float .f64 x, .float .f64 y] w fun e w' => e = .returned (.bool (canon x == canon y)) ∧ w = w' := by
  go_enter Try.func15, Try.ntmps15
  go_wp2_with (go_at_call 33; refine (rbits_any _ _).mono ?_; rintro e w' ⟨rfl, rfl⟩)
  go_ret
  exact ⟨by rw [← beqN]; rfl, rfl⟩

end Go.Proofs.Yticpfopjffbgbaa
