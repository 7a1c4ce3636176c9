/- The walk of the reference's clean. -/
import Derived.Test.YtkpnjehgbehhcaaBits
namespace Go.Proofs.Ytkpnjehgbehhcaa
open Go.RowKit Fl

set_option maxHeartbeats 400000 in
theorem clean_any (x : Nat) (w : World) :
    Calls Try.prog 52 #[.float .f64 x] w fun e w' => e = .returned (.float .f64 (canon x)) ∧ w = w' := by
  have hc : canon 9221120237041090560 = 9221120237041090560 := canon_cN
  have hr := rfrom_any 9221120237041090560
  rw [hc] at hr
  by_cases h : isNaN x = true
  · rw [canon_of_nan h]
    have h1 := h
    clear h hc
    have H := Lib.hid hr
    clear hr
    go_enter Try.func52, Try.ntmps52
    go_wp2_with (go_at_call 40; refine (H.out _).mono ?_; rintro e w' ⟨rfl, rfl⟩)
    go_ret
    exact ⟨rfl, rfl⟩
  · rw [canon_of_not (by simpa using h)]
    have h1 : isNaN x = false := by simpa using h
    clear h hc hr
    go_enter Try.func52, Try.ntmps52
    go_wp2
    go_ret
    exact ⟨rfl, rfl⟩

end Go.Proofs.Ytkpnjehgbehhcaa
