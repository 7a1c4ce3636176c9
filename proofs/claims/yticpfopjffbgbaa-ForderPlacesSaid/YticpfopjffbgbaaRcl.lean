/- The walk of the reference's Clamp. -/
import Derived.Test.YticpfopjffbgbaaWClamps
namespace Go.Proofs.Yticpfopjffbgbaa
open Go.RowKit Fl

set_option maxHeartbeats 1600000 in
set_option maxRecDepth 8000 in
theorem rclamp_any (x lo hi : Nat) (w : World) :
    Calls Try.prog 26 #[.float .f64 x, .float .f64 lo, .float .f64 hi] w fun e w' => e = .returned (.float .f64 (clampF x lo hi)) ∧ w = w' := by
  have HFR : Hid (canon 9221120237041090560 = cN) := by show _ = _; decide
  obtain ⟨p, hp⟩ : ∃ p, cmpF lo hi = p := ⟨_, rfl⟩
  obtain ⟨q, hq⟩ : ∃ q, cmpF x lo = q := ⟨_, rfl⟩
  obtain ⟨r, hr⟩ : ∃ r, cmpF x hi = r := ⟨_, rfl⟩
  have P := (cmpF_ck lo hi).2
  have Q := (cmpF_ck x lo).1
  have R := (cmpF_ck x hi).2
  rw [hp] at P; rw [hq] at Q; rw [hr] at R
  have HP := Lib.hid hp
  have HQ := Lib.hid hq
  have HR := Lib.hid hr
  clear hp hq hr
  cases h1 : isNaN x
  · cases h2 : isNaN lo
    · cases h3 : isNaN hi
      · by_cases h4 : 0 < p
        · have HC : Hid (clampF x lo hi = cN) := by show _ = _; unfold clampF; rw [h1, h2, h3, decide_eq_true (P.1 h4)]; rfl
          rw [HC.out]
          clear P Q R
          go_enter Try.func26, Try.ntmps26
          go_wp2_with (first
            | (go_at_call 21; refine (rcompare_any _ _ _).mono ?_; rintro e w' ⟨rfl, rfl⟩; first | rw [HP.out] | rw [HQ.out] | rw [HR.out])
            | (go_at_call 27; refine (rfrom_any _ _).mono ?_; rintro e w' ⟨rfl, rfl⟩; rw [HFR.out]))
          go_ret
          exact ⟨rfl, rfl⟩
        · have h4' : p ≤ 0 := by omega
          have e1 : clampF x lo hi = if ck x < ck lo then lo else if ck hi < ck x then hi else x := by unfold clampF; rw [h1, h2, h3, decide_eq_false (fun h => h4 (P.2 h))]; rfl
          by_cases h5 : q < 0
          · have HC : Hid (clampF x lo hi = lo) := by show _ = _; rw [e1, if_pos (Q.1 h5)]
            rw [HC.out]
            clear P Q R h4 e1
            go_enter Try.func26, Try.ntmps26
            go_wp2_with (go_at_call 21; refine (rcompare_any _ _ _).mono ?_; rintro e w' ⟨rfl, rfl⟩; first | rw [HP.out] | rw [HQ.out] | rw [HR.out])
            go_ret
            exact ⟨rfl, rfl⟩
          · have h5' : 0 ≤ q := by omega
            by_cases h6 : 0 < r
            · have HC : Hid (clampF x lo hi = hi) := by show _ = _; rw [e1, if_neg (fun h => h5 (Q.2 h)), if_pos (R.1 h6)]
              rw [HC.out]
              clear P Q R h4 h5 e1
              go_enter Try.func26, Try.ntmps26
              go_wp2_with (go_at_call 21; refine (rcompare_any _ _ _).mono ?_; rintro e w' ⟨rfl, rfl⟩; first | rw [HP.out] | rw [HQ.out] | rw [HR.out])
              go_ret
              exact ⟨rfl, rfl⟩
            · have HC : Hid (clampF x lo hi = x) := by show _ = _; rw [e1, if_neg (fun h => h5 (Q.2 h)), if_neg (fun h => h6 (R.2 h))]
              have h6' : r ≤ 0 := by omega
              rw [HC.out]
              clear P Q R h4 h5 h6 e1
              go_enter Try.func26, Try.ntmps26
              go_wp2_with (go_at_call 21; refine (rcompare_any _ _ _).mono ?_; rintro e w' ⟨rfl, rfl⟩; first | rw [HP.out] | rw [HQ.out] | rw [HR.out])
              go_ret
              exact ⟨rfl, rfl⟩
      · have HC : Hid (clampF x lo hi = cN) := by show _ = _; unfold clampF; rw [h1, h2, h3]; rfl
        rw [HC.out]
        clear P Q R
        go_enter Try.func26, Try.ntmps26
        go_wp2_with (go_at_call 27; refine (rfrom_any _ _).mono ?_; rintro e w' ⟨rfl, rfl⟩; rw [HFR.out])
        go_ret
        exact ⟨rfl, rfl⟩
    · have HC : Hid (clampF x lo hi = cN) := by show _ = _; unfold clampF; rw [h1, h2]; rfl
      rw [HC.out]
      clear P Q R
      go_enter Try.func26, Try.ntmps26
      go_wp2_with (go_at_call 27; refine (rfrom_any _ _).mono ?_; rintro e w' ⟨rfl, rfl⟩; rw [HFR.out])
      go_ret
      exact ⟨rfl, rfl⟩
  · have HC : Hid (clampF x lo hi = cN) := by show _ = _; unfold clampF; rw [h1]; rfl
    rw [HC.out]
    clear P Q R
    go_enter Try.func26, Try.ntmps26
    go_wp2_with (go_at_call 27; refine (rfrom_any _ _).mono ?_; rintro e w' ⟨rfl, rfl⟩; rw [HFR.out])
    go_ret
    exact ⟨rfl, rfl⟩
end Go.Proofs.Yticpfopjffbgbaa
