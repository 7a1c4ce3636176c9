/- The walks of Clamp and of ForderClamps: the law returns true. -/
import Derived.Test.YticpfopjffbgbaaWLine
namespace Go.Proofs.Yticpfopjffbgbaa
open Go.RowKit Fl

theorem cmpF_ck (x y : Nat) : (cmpF x y < 0 ↔ ck x < ck y) ∧ (0 < cmpF x y ↔ ck y < ck x) := by
  rcases Nat.lt_trichotomy (ck x) (ck y) with h | h | h
  · rw [(cmpF_lt h).1]; omega
  · rw [cmpF_eq h]; omega
  · rw [(cmpF_lt h).2]; omega

def clampF (x lo hi : Nat) : Nat :=
  if isNaN x || isNaN lo || isNaN hi || decide (ck hi < ck lo) then cN else if ck x < ck lo then lo else if ck hi < ck x then hi else x

set_option maxHeartbeats 1600000 in
set_option maxRecDepth 8000 in
theorem clamp_any (x lo hi : Nat) (w : World) :
    Calls Try.prog 23 #[.float .f64 x, .float .f64 lo, .float .f64 hi] w fun e w' => e = .returned (.float .f64 (clampF x lo hi)) ∧ w = w' := by
  have HFR : Hid (canon 18446744073709551615 = cN) := by show _ = _; decide
  obtain ⟨p, hp⟩ : ∃ p, cmpF lo hi = p := ⟨_, rfl⟩
  obtain ⟨q, hq⟩ : ∃ q, cmpF x lo = q := ⟨_, rfl⟩
  obtain ⟨r, hr⟩ : ∃ r, cmpF x hi = r := ⟨_, rfl⟩
  have P := (cmpF_ck lo hi).2
  have Q := (cmpF_ck x lo).1
  have R := (cmpF_ck x hi).2
  rw [hp] at P; rw [hq] at Q; rw [hr] at R
  have HP := Lib.hid hp
  have HQ := Lib.hid hq
  have HR := Lib.hid hr
  clear hp hq hr
  cases h1 : isNaN x
  · cases h2 : isNaN lo
    · cases h3 : isNaN hi
      · by_cases h4 : 0 < p
        · have HC : Hid (clampF x lo hi = cN) := by show _ = _; unfold clampF; rw [h1, h2, h3, decide_eq_true (P.1 h4)]; rfl
          rw [HC.out]
          clear P Q R
          go_enter Try.func23, Try.ntmps23
          go_wp2_with (first
            | (go_at_call 14; refine (compare_any _ _ _).mono ?_; rintro e w' ⟨rfl, rfl⟩; first | rw [HP.out] | rw [HQ.out] | rw [HR.out])
            | (go_at_call 28; refine (from_any _ _).mono ?_; rintro e w' ⟨rfl, rfl⟩; rw [HFR.out]))
          go_ret
          exact ⟨rfl, rfl⟩
        · have h4' : p ≤ 0 := by omega
          have e1 : clampF x lo hi = if ck x < ck lo then lo else if ck hi < ck x then hi else x := by unfold clampF; rw [h1, h2, h3, decide_eq_false (fun h => h4 (P.2 h))]; rfl
          by_cases h5 : q < 0
          · have HC : Hid (clampF x lo hi = lo) := by show _ = _; rw [e1, if_pos (Q.1 h5)]
            rw [HC.out]
            clear P Q R h4 e1
            go_enter Try.func23, Try.ntmps23
            go_wp2_with (go_at_call 14; refine (compare_any _ _ _).mono ?_; rintro e w' ⟨rfl, rfl⟩; first | rw [HP.out] | rw [HQ.out] | rw [HR.out])
            go_ret
            exact ⟨rfl, rfl⟩
          · have h5' : 0 ≤ q := by omega
            by_cases h6 : 0 < r
            · have HC : Hid (clampF x lo hi = hi) := by show _ = _; rw [e1, if_neg (fun h => h5 (Q.2 h)), if_pos (R.1 h6)]
              rw [HC.out]
              clear P Q R h4 h5 e1
              go_enter Try.func23, Try.ntmps23
              go_wp2_with (go_at_call 14; refine (compare_any _ _ _).mono ?_; rintro e w' ⟨rfl, rfl⟩; first | rw [HP.out] | rw [HQ.out] | rw [HR.out])
              go_ret
              exact ⟨rfl, rfl⟩
            · have HC : Hid (clampF x lo hi = x) := by show _ = _; rw [e1, if_neg (fun h => h5 (Q.2 h)), if_neg (fun h => h6 (R.2 h))]
              have h6' : r ≤ 0 := by omega
              rw [HC.out]
              clear P Q R h4 h5 h6 e1
              go_enter Try.func23, Try.ntmps23
              go_wp2_with (go_at_call 14; refine (compare_any _ _ _).mono ?_; rintro e w' ⟨rfl, rfl⟩; first | rw [HP.out] | rw [HQ.out] | rw [HR.out])
              go_ret
              exact ⟨rfl, rfl⟩
      · have HC : Hid (clampF x lo hi = cN) := by show _ = _; unfold clampF; rw [h1, h2, h3]; rfl
        rw [HC.out]
        clear P Q R
        go_enter Try.func23, Try.ntmps23
        go_wp2_with (go_at_call 28; refine (from_any _ _).mono ?_; rintro e w' ⟨rfl, rfl⟩; rw [HFR.out])
        go_ret
        exact ⟨rfl, rfl⟩
    · have HC : Hid (clampF x lo hi = cN) := by show _ = _; unfold clampF; rw [h1, h2]; rfl
      rw [HC.out]
      clear P Q R
      go_enter Try.func23, Try.ntmps23
      go_wp2_with (go_at_call 28; refine (from_any _ _).mono ?_; rintro e w' ⟨rfl, rfl⟩; rw [HFR.out])
      go_ret
      exact ⟨rfl, rfl⟩
  · have HC : Hid (clampF x lo hi = cN) := by show _ = _; unfold clampF; rw [h1]; rfl
    rw [HC.out]
    clear P Q R
    go_enter Try.func23, Try.ntmps23
    go_wp2_with (go_at_call 28; refine (from_any _ _).mono ?_; rintro e w' ⟨rfl, rfl⟩; rw [HFR.out])
    go_ret
    exact ⟨rfl, rfl⟩

set_option maxHeartbeats 1600000 in
set_option maxRecDepth 8000 in
theorem clamps_bad (x lo hi y : Nat) (p : Int) (HC1 : Hid (clampF x lo hi = y)) (HP : Hid (cmpF lo hi = p)) (hy : isNaN y = true) (h : isNaN x = true ∨ (isNaN x = false ∧ isNaN lo = true) ∨ (isNaN x = false ∧ isNaN lo = false ∧ isNaN hi = true) ∨ (isNaN x = false ∧ isNaN lo = false ∧ isNaN hi = false ∧ 0 < p)) (w : World) :
    Calls Try.prog 8 #[.float .f64 x, .float .f64 lo, .float .f64 hi] w fun e w' => e = .returned (.bool true) ∧ Below w.heap.size w w' := by
  rcases h with h | ⟨h, g⟩ | ⟨h, g, k⟩ | ⟨h, g, k, j⟩
  all_goals
    go_enter Try.func8, Try.ntmps8
    go_wp2_with (first
      | (go_at_call 23; refine (clamp_any _ _ _ _).mono ?_; rintro e w' ⟨rfl, rfl⟩; rw [HC1.out])
      | (go_at_call 21; refine (rcompare_any _ _ _).mono ?_; rintro e w' ⟨rfl, rfl⟩; rw [HP.out])
      | (go_at_call 12; refine (awake2_any _).mono ?_; rintro e w' ⟨rfl, hbb⟩))
    go_ret
    exact ⟨rfl, hbb⟩

set_option maxHeartbeats 1600000 in
set_option maxRecDepth 8000 in
theorem clamps_good (x lo hi y : Nat) (p u v s t : Int) (m : Bool) (HC1 : Hid (clampF x lo hi = y)) (HC2 : Hid (clampF y lo hi = y)) (HP : Hid (cmpF lo hi = p)) (HLX : Hid (cmpF lo x = u)) (HXH : Hid (cmpF x hi = v)) (HLY : Hid (cmpF lo y = s)) (HYH : Hid (cmpF y hi = t)) (HSY : Hid ((canon y == canon x) = m)) (h1 : isNaN x = false) (h2 : isNaN lo = false) (h3 : isNaN hi = false) (hp : p ≤ 0) (hs : s ≤ 0) (ht : t ≤ 0) (h : (m = false ∧ 0 < u) ∨ (m = false ∧ u ≤ 0 ∧ 0 < v) ∨ (m = true ∧ u ≤ 0 ∧ v ≤ 0)) (w : World) :
    Calls Try.prog 8 #[.float .f64 x, .float .f64 lo, .float .f64 hi] w fun e w' => e = .returned (.bool true) ∧ Below w.heap.size w w' := by
  rcases h with ⟨rfl, h⟩ | ⟨rfl, h, g⟩ | ⟨rfl, h, g⟩
  all_goals
    first | have hv : decide (v ≤ 0) = false := decide_eq_false (by omega) | have hv : decide (v ≤ 0) = true := decide_eq_true g | skip
    go_enter Try.func8, Try.ntmps8
    go_wp2_with (first
      | (go_at_call 23; refine (clamp_any _ _ _ _).mono ?_; rintro e w' ⟨rfl, rfl⟩; first | rw [HC1.out] | rw [HC2.out])
      | (go_at_call 21; refine (rcompare_any _ _ _).mono ?_; rintro e w' ⟨rfl, rfl⟩; first | rw [HP.out] | rw [HLX.out] | rw [HXH.out] | rw [HLY.out] | rw [HYH.out])
      | (go_at_call 15; refine (same_any _ _ _).mono ?_; rintro e w' ⟨rfl, rfl⟩; first | rw [HSY.out] | skip)
      | (go_at_call 12; refine (awake2_any _).mono ?_; rintro e w' ⟨rfl, hbb⟩))
    go_ret
    exact ⟨rfl, hbb⟩

theorem walk_ForderClamps (x : Nat) (hx : x < 2^64) (lo : Nat) (hlo : lo < 2^64) (hi : Nat) (hhi : hi < 2^64) (w : World) :
    Calls Try.prog 8 #[.float .f64 x, .float .f64 lo, .float .f64 hi] w fun e w' => e = .returned (.bool true) ∧ Below w.heap.size w w' := by
  have P := cmpF_ck lo hi
  have LX := cmpF_ck lo x
  have XH := cmpF_ck x hi
  by_cases hbad : isNaN x = true ∨ isNaN lo = true ∨ isNaN hi = true ∨ ck hi < ck lo
  · have hy : ∀ z, (z = x ∨ z = cN) → clampF z lo hi = cN := fun z hz => by
      unfold clampF
      rw [if_pos]
      rcases hz with rfl | rfl
      · rcases hbad with h | h | h | h <;> simp [h]
      · simp [cN_nan]
    refine clamps_bad x lo hi cN _ (hy x (.inl rfl)) rfl cN_nan ?_ w
    cases h1 : isNaN x
    · cases h2 : isNaN lo
      · cases h3 : isNaN hi
        · rw [h1, h2, h3] at hbad
          have h4 : ck hi < ck lo := by simpa using hbad
          exact .inr (.inr (.inr ⟨rfl, rfl, rfl, P.2.2 h4⟩))
        · exact .inr (.inr (.inl ⟨rfl, rfl, rfl⟩))
      · exact .inr (.inl ⟨rfl, rfl⟩)
    · exact .inl rfl
  · simp only [not_or, Bool.not_eq_true] at hbad
    obtain ⟨h1, h2, h3, h4⟩ := hbad
    have hc : ∀ z, isNaN z = false → clampF z lo hi = if ck z < ck lo then lo else if ck hi < ck z then hi else z := fun z hz => by
      unfold clampF; rw [hz, h2, h3, decide_eq_false h4]; rfl
    by_cases h5 : ck x < ck lo
    · refine clamps_good x lo hi lo _ _ _ _ _ _ (by show _ = _; rw [hc x h1, if_pos h5]) (by show _ = _; rw [hc lo h2, if_neg (by omega), if_neg h4]) rfl rfl rfl rfl rfl rfl h1 h2 h3 (by omega) ?_ (by omega) ?_ w
      · rw [cmpF_eq rfl]; omega
      · refine .inl ⟨?_, by omega⟩
        rw [ck_same hlo hx, decide_eq_false_iff_not]; omega
    · by_cases h6 : ck hi < ck x
      · refine clamps_good x lo hi hi _ _ _ _ _ _ (by show _ = _; rw [hc x h1, if_neg h5, if_pos h6]) (by show _ = _; rw [hc hi h3, if_neg h4, if_neg (by omega)]) rfl rfl rfl rfl rfl rfl h1 h2 h3 (by omega) (by omega) ?_ ?_ w
        · rw [cmpF_eq rfl]; omega
        · refine .inr (.inl ⟨?_, by omega, by omega⟩)
          rw [ck_same hhi hx, decide_eq_false_iff_not]; omega
      · refine clamps_good x lo hi x _ _ _ _ _ _ (by show _ = _; rw [hc x h1, if_neg h5, if_neg h6]) (by show _ = _; rw [hc x h1, if_neg h5, if_neg h6]) rfl rfl rfl rfl rfl rfl h1 h2 h3 (by omega) (by omega) (by omega) ?_ w
        exact .inr (.inr ⟨beq_self_eq_true _, by omega, by omega⟩)
end Go.Proofs.Yticpfopjffbgbaa
