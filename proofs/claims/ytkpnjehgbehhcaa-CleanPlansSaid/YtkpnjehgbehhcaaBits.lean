/- Walks of the small functions on a number's bits: what each answers, and that memory is as it was. -/
import Derived.Test.YtkpnjehgbehhcaaFw
import Derived.Test.YtkpnjehgbehhcaaProg
import Derived.WalkSpells
namespace Go.Proofs.Ytkpnjehgbehhcaa
open Go.RowKit Fl

@[go_sem] theorem run_bits (x : Nat) (w : World) : (callFunc 75 #[.float .f64 x]).run Try.prog w = .ok (.value (.int .u64 x)) w := by
  rw [run_callFunc_extern Try.func75 rfl rfl rfl rfl]; rfl
@[go_sem] theorem run_frombits (x : Int) (w : World) : (callFunc 53 #[.int .u64 x]).run Try.prog w = .ok (.value (.float .f64 x.toNat)) w := by
  rw [run_callFunc_extern Try.func53 rfl rfl rfl rfl]; rfl


set_option maxHeartbeats 400000 in
theorem bits_any (x : Nat) (w : World) :
    Calls Try.prog 67 #[.float .f64 x] w fun e w' => e = .returned (.int .u64 (canon x)) ∧ w = w' := by
  by_cases h : isNaN x = true
  · rw [canon_of_nan h]
    have h1 := h
    clear h
    go_enter Try.func67, Try.ntmps67
    go_wp2
    go_ret
    exact ⟨rfl, rfl⟩
  · rw [canon_of_not (by simpa using h)]
    have h1 : isNaN x = false := by simpa using h
    clear h
    go_enter Try.func67, Try.ntmps67
    go_wp2
    go_ret
    exact ⟨rfl, rfl⟩

set_option maxHeartbeats 400000 in
theorem rbits_any (x : Nat) (w : World) :
    Calls Try.prog 73 #[.float .f64 x] w fun e w' => e = .returned (.int .u64 (canon x)) ∧ w = w' := by
  by_cases h : isNaN x = true
  · rw [canon_of_nan h]
    have h1 := h
    clear h
    go_enter Try.func73, Try.ntmps73
    go_wp2
    go_ret
    exact ⟨rfl, rfl⟩
  · rw [canon_of_not (by simpa using h)]
    have h1 : isNaN x = false := by simpa using h
    clear h
    go_enter Try.func73, Try.ntmps73
    go_wp2
    go_ret
    exact ⟨rfl, rfl⟩

set_option maxHeartbeats 400000 in
theorem from_any (b : Nat) (w : World) :
    Calls Try.prog 66 #[.int .u64 b] w fun e w' => e = .returned (.float .f64 (canon b)) ∧ w = w' := by
  go_enter Try.func66, Try.ntmps66
  go_wp2_with (go_at_call 67; refine (bits_any _ _).mono ?_; rintro e w' ⟨rfl, rfl⟩)
  go_ret
  exact ⟨rfl, rfl⟩

set_option maxHeartbeats 400000 in
theorem rfrom_any (b : Nat) (w : World) :
    Calls Try.prog 40 #[.int .u64 b] w fun e w' => e = .returned (.float .f64 (canon b)) ∧ w = w' := by
  by_cases h : isNaN b = true
  · rw [canon_of_nan h]
    have h1 := h
    clear h
    go_enter Try.func40, Try.ntmps40
    go_wp2
    go_ret
    exact ⟨rfl, rfl⟩
  · rw [canon_of_not (by simpa using h)]
    have h1 : isNaN b = false := by simpa using h
    clear h
    go_enter Try.func40, Try.ntmps40
    go_wp2
    go_ret
    exact ⟨rfl, rfl⟩

end Go.Proofs.Ytkpnjehgbehhcaa
