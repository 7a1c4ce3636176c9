/- The walk of the reference's Same. -/
import Derived.Test.YtloldagcbjkelaaBits
namespace Go.Proofs.Ytloldagcbjkelaa
open Go.RowKit Fl

set_option maxHeartbeats 400000 in
theorem same_any (x y : Nat) (w : World) :
    Calls Try.prog 13 #[.float .f64 x, .float .f64 y] w fun e w' => e = .returned (.bool (canon x == canon y)) ∧ w = w' := by
  go_enter Try.func13, Try.ntmps13
  go_wp2_with (go_at_call 28; refine (rbits_any _ _).mono ?_; rintro e w' ⟨rfl, rfl⟩)
  go_ret
  exact ⟨by rw [← beqN]; rfl, rfl⟩

end Go.Proofs.Ytloldagcbjkelaa
