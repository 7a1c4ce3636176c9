/- Walks of the small functions on a number's bits: what each answers, and that memory is as it was. -/
import Derived.Test.YtloldagcbjkelaaFw
import Derived.Test.YtloldagcbjkelaaProg
import Derived.WalkSpells
namespace Go.Proofs.Ytloldagcbjkelaa
open Go.RowKit Fl

@[go_sem] theorem run_bits (x : Nat) (w : World) : (callFunc 36 #[.float .f64 x]).run Try.prog w = .ok (.value (.int .u64 x)) w := by
  rw [run_callFunc_extern Try.func36 rfl rfl rfl rfl]; rfl
@[go_sem] theorem run_frombits (x : Int) (w : World) : (callFunc 35 #[.int .u64 x]).run Try.prog w = .ok (.value (.float .f64 x.toNat)) w := by
  rw [run_callFunc_extern Try.func35 rfl rfl rfl rfl]; rfl


set_option maxHeartbeats 400000 in
theorem bits_any (x : Nat) (w : World) :
    Calls Try.prog 23 #[.float .f64 x] w fun e w' => e = .returned (.int .u64 (canon x)) ∧ w = w' := by
  by_cases h : isNaN x = true
  · rw [canon_of_nan h]
    have h1 := h
    clear h
    go_enter Try.func23, Try.ntmps23
    go_wp2
    go_ret
    exact ⟨rfl, rfl⟩
  · rw [canon_of_not (by simpa using h)]
    have h1 : isNaN x = false := by simpa using h
    clear h
    go_enter Try.func23, Try.ntmps23
    go_wp2
    go_ret
    exact ⟨rfl, rfl⟩

set_option maxHeartbeats 400000 in
theorem rbits_any (x : Nat) (w : World) :
    Calls Try.prog 28 #[.float .f64 x] w fun e w' => e = .returned (.int .u64 (canon x)) ∧ w = w' := by
  by_cases h : isNaN x = true
  · rw [canon_of_nan h]
    have h1 := h
    clear h
    go_enter Try.func28, Try.ntmps28
    go_wp2
    go_ret
    exact ⟨rfl, rfl⟩
  · rw [canon_of_not (by simpa using h)]
    have h1 : isNaN x = false := by simpa using h
    clear h
    go_enter Try.func28, Try.ntmps28
    go_wp2
    go_ret
    exact ⟨rfl, rfl⟩

set_option maxHeartbeats 400000 in
theorem from_any (b : Nat) (w : World) :
    Calls Try.prog 22 #[.int .u64 b] w fun e w' => e = .returned (.float .f64 (canon b)) ∧ w = w' := by
  go_enter Try.func22, Try.ntmps22
  go_wp2_with (go_at_call 23; refine (bits_any _ _).mono ?_; rintro e w' ⟨rfl, rfl⟩)
  go_ret
  exact ⟨rfl, rfl⟩

set_option maxHeartbeats 400000 in
theorem rfrom_any (b : Nat) (w : World) :
    Calls Try.prog 27 #[.int .u64 b] w fun e w' => e = .returned (.float .f64 (canon b)) ∧ w = w' := by
  by_cases h : isNaN b = true
  · rw [canon_of_nan h]
    have h1 := h
    clear h
    go_enter Try.func27, Try.ntmps27
    go_wp2
    go_ret
    exact ⟨rfl, rfl⟩
  · rw [canon_of_not (by simpa using h)]
    have h1 : isNaN b = false := by simpa using h
    clear h
    go_enter Try.func27, Try.ntmps27
    go_wp2
    go_ret
    exact ⟨rfl, rfl⟩

end Go.Proofs.Ytloldagcbjkelaa
