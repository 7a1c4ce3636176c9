/- The walks of Key and Compare on both sides. -/
import Derived.Test.YtkpnjehgbehhcaaBits
namespace Go.Proofs.Ytkpnjehgbehhcaa
open Go.RowKit Fl

set_option maxHeartbeats 400000 in
theorem key_any (x : Nat) (w : World) :
    Calls Try.prog 71 #[.float .f64 x] w fun e w' => e = .returned (.int .u64 (keyF (canon x))) ∧ w = w' := by
  generalize hy : canon x = y
  have H := Lib.hid hy
  clear hy
  have h1 := bits_u64_nonneg .xor y 9223372036854775808
  have h2 := bits_u64_nonneg .xor 18446744073709551615 y
  by_cases h : sg y = true
  · have e1 : ((keyF y : Nat) : Int) = bits .xor .u64 18446744073709551615 y := by unfold keyF; rw [if_pos h]; omega
    have E := Lib.hid e1
    clear e1 h1 h2
    go_enter Try.func71, Try.ntmps71
    go_wp2_with (go_at_call 67; refine (bits_any _ _).mono ?_; rintro e w' ⟨rfl, rfl⟩; rw [H.out])
    go_ret
    exact ⟨by rw [E.out]; rfl, rfl⟩
  · have h : sg y = false := by simpa using h
    have e1 : ((keyF y : Nat) : Int) = bits .xor .u64 y 9223372036854775808 := by unfold keyF; rw [h]; simp only [Bool.false_eq_true, if_false]; omega
    have E := Lib.hid e1
    clear e1 h1 h2
    go_enter Try.func71, Try.ntmps71
    go_wp2_with (go_at_call 67; refine (bits_any _ _).mono ?_; rintro e w' ⟨rfl, rfl⟩; rw [H.out])
    go_ret
    exact ⟨by rw [E.out]; rfl, rfl⟩

set_option maxHeartbeats 400000 in
theorem rkey_any (x : Nat) (w : World) :
    Calls Try.prog 63 #[.float .f64 x] w fun e w' => e = .returned (.int .u64 (keyF (canon x))) ∧ w = w' := by
  generalize hy : canon x = y
  have H := Lib.hid hy
  clear hy
  have h1 := bits_u64_nonneg .xor y 9223372036854775808
  have h2 := bits_u64_nonneg .xor 18446744073709551615 y
  by_cases h : sg y = true
  · have e1 : ((keyF y : Nat) : Int) = bits .xor .u64 18446744073709551615 y := by unfold keyF; rw [if_pos h]; omega
    have E := Lib.hid e1
    clear e1 h1 h2
    go_enter Try.func63, Try.ntmps63
    go_wp2_with (go_at_call 73; refine (rbits_any _ _).mono ?_; rintro e w' ⟨rfl, rfl⟩; rw [H.out])
    go_ret
    exact ⟨by rw [E.out]; rfl, rfl⟩
  · have h : sg y = false := by simpa using h
    have e1 : ((keyF y : Nat) : Int) = bits .xor .u64 y 9223372036854775808 := by unfold keyF; rw [h]; simp only [Bool.false_eq_true, if_false]; omega
    have E := Lib.hid e1
    clear e1 h1 h2
    go_enter Try.func63, Try.ntmps63
    go_wp2_with (go_at_call 73; refine (rbits_any _ _).mono ?_; rintro e w' ⟨rfl, rfl⟩; rw [H.out])
    go_ret
    exact ⟨by rw [E.out]; rfl, rfl⟩

set_option maxHeartbeats 400000 in
theorem cmp_any (a b : Nat) (w : World) :
    Calls Try.prog 70 #[.int .u64 a, .int .u64 b] w fun e w' => e = .returned (.int .i64 (cmpN a b)) ∧ w = w' := by
  have ha : ((a : Int) != a) = false := by simp
  have hb : ((b : Int) != b) = false := by simp
  rcases Nat.lt_trichotomy a b with h | h | h
  · have e1 : cmpN a b = -1 := by unfold cmpN; rw [if_pos h]
    rw [e1]; clear e1
    go_enter Try.func70, Try.ntmps70
    go_wp2
    go_ret
    exact ⟨rfl, rfl⟩
  · subst h
    have e1 : cmpN a a = 0 := by unfold cmpN; rw [if_neg (by omega), if_neg (by omega)]
    rw [e1]; clear e1 hb
    go_enter Try.func70, Try.ntmps70
    go_wp2
    go_ret
    exact ⟨rfl, rfl⟩
  · have e1 : cmpN a b = 1 := by unfold cmpN; rw [if_neg (by omega), if_pos h]
    rw [e1]; clear e1
    go_enter Try.func70, Try.ntmps70
    go_wp2
    go_ret
    exact ⟨rfl, rfl⟩

/-- the order of two numbers -/
def cmpF (x y : Nat) : Int := cmpN (keyF (canon x)) (keyF (canon y))

set_option maxHeartbeats 400000 in
theorem compare_any (x y : Nat) (w : World) :
    Calls Try.prog 61 #[.float .f64 x, .float .f64 y] w fun e w' => e = .returned (.int .i64 (cmpF x y)) ∧ w = w' := by
  unfold cmpF
  generalize hx : keyF (canon x) = kx
  generalize hy : keyF (canon y) = ky
  have HX := Lib.hid hx
  have HY := Lib.hid hy
  clear hx hy
  go_enter Try.func61, Try.ntmps61
  go_wp2_with fail
  refine (key_any _ _).mono ?_; rintro e w' ⟨rfl, rfl⟩; rw [HX.out]
  go_wp2_with fail
  refine (key_any _ _).mono ?_; rintro e w' ⟨rfl, rfl⟩; rw [HY.out]
  go_wp2_with (go_at_call 70; refine (cmp_any _ _ _).mono ?_; rintro e w' ⟨rfl, rfl⟩)
  go_ret
  exact ⟨rfl, rfl⟩

set_option maxHeartbeats 400000 in
theorem rcompare_any (x y : Nat) (w : World) :
    Calls Try.prog 54 #[.float .f64 x, .float .f64 y] w fun e w' => e = .returned (.int .i64 (cmpF x y)) ∧ w = w' := by
  unfold cmpF
  generalize hx : keyF (canon x) = kx
  generalize hy : keyF (canon y) = ky
  have HX := Lib.hid hx
  have HY := Lib.hid hy
  clear hx hy
  rcases Nat.lt_trichotomy kx ky with h | h | h
  · have e1 : cmpN kx ky = -1 := by unfold cmpN; rw [if_pos h]
    rw [e1]; clear e1
    go_enter Try.func54, Try.ntmps54
    go_wp2_with fail
    refine (rkey_any _ _).mono ?_; rintro e w' ⟨rfl, rfl⟩; rw [HX.out]
    go_wp2_with fail
    refine (rkey_any _ _).mono ?_; rintro e w' ⟨rfl, rfl⟩; rw [HY.out]
    go_wp2
    go_ret
    exact ⟨rfl, rfl⟩
  · subst h
    have e1 : cmpN kx kx = 0 := by unfold cmpN; rw [if_neg (by omega), if_neg (by omega)]
    rw [e1]; clear e1
    go_enter Try.func54, Try.ntmps54
    go_wp2_with fail
    refine (rkey_any _ _).mono ?_; rintro e w' ⟨rfl, rfl⟩; rw [HX.out]
    go_wp2_with fail
    refine (rkey_any _ _).mono ?_; rintro e w' ⟨rfl, rfl⟩; rw [HY.out]
    go_wp2
    go_ret
    exact ⟨rfl, rfl⟩
  · have e1 : cmpN kx ky = 1 := by unfold cmpN; rw [if_neg (by omega), if_pos h]
    rw [e1]; clear e1
    go_enter Try.func54, Try.ntmps54
    go_wp2_with fail
    refine (rkey_any _ _).mono ?_; rintro e w' ⟨rfl, rfl⟩; rw [HX.out]
    go_wp2_with fail
    refine (rkey_any _ _).mono ?_; rintro e w' ⟨rfl, rfl⟩; rw [HY.out]
    go_wp2
    go_ret
    exact ⟨rfl, rfl⟩

end Go.Proofs.Ytkpnjehgbehhcaa
