/- The walks of the program's Class, negative, Copysign and Sum: Sum answers 'sumF' of the numbers that the slice holds. -/
import Derived.Test.YtfnchcafebomlaaClass
import Derived.Test.YtfnchcafebomlaaAbs
import Derived.Test.YtfnchcafebomlaaSmm
namespace Fl
open Go
theorem maxW_fin : fin 9218868437227405311 := by decide
theorem fgt_max (x : Nat) : fgt (rung x) 9218868437227405311 = isInf x := by
  rcases kinds x with ⟨h, hi, hn⟩ | ⟨_, hi, hn⟩ | ⟨_, hi, hn⟩
  · rw [fgt_fin (fin_rung h) maxW_fin, hi, decide_eq_false_iff_not, rv_rung]
    have h1 : ab (rv x) = VR (rung x) := by unfold rv; exact ab_sv _ (VR_nonneg _)
    have h2 : rv 9218868437227405311 = VR 9218868437227405311 := by unfold rv sv; rw [show sg 9218868437227405311 = false from by decide]; simp; rfl
    rw [h1, h2]
    unfold fin at h
    have := VR_le (show rung x ≤ 9218868437227405311 by omega)
    grind
  · rw [hi]
    have hr : isInf (rung x) = true := by unfold isInf; rw [rung_rung]; exact hi
    obtain ⟨m, i, hm⟩ := fin_read maxW_fin
    unfold fgt Ieee.Format.order
    rw [read_inf hr, hm, sg_rung]; rfl
  · rw [hi]; unfold fgt; rw [nan_order_l _ (by rw [isNaN_rung]; exact hn)]; rfl

theorem class_negZ {y : Nat} (h : y < 2^64) : classF y = 5 ↔ y = negZ := by
  constructor
  · intro hc
    unfold classF at hc
    cases h1 : isNaN y <;> cases h2 : isInf y <;> cases h3 : isZ y <;> cases h4 : isLow y <;> cases h5 : sg y <;> simp [h1, h2, h3, h4, h5] at hc
    all_goals
      have hz : rung y = 0 := by simpa [isZ] using h3
      rw [word_split h, hz, h5]; decide
  · rintro rfl; decide
theorem canon_lt {x : Nat} (h : x < 2^64) : canon x < 2^64 := by unfold canon; split; exact (by decide : cN < 2^64); exact h
end Fl
namespace Go.Proofs.Ytfnchcafebomlaa
open Go.RowKit Fl

set_option maxHeartbeats 400000 in
theorem isinf_any (x : Nat) (w : World) :
    Calls Try.prog 49 #[.float .f64 x, .int .i64 0] w fun e w' => e = .returned (.bool (isInf x)) ∧ w = w' := by
  rw [← fgt_max]
  go_enter Try.func49, Try.ntmps49
  go_wp2_with (go_at_call 30; refine (abs_any _ _).mono ?_; rintro e w' ⟨rfl, rfl⟩)
  go_ret
  exact ⟨rfl, rfl⟩

set_option maxHeartbeats 1600000 in
theorem class_any (x : Nat) (w : World) :
    Calls Try.prog 39 #[.float .f64 x] w fun e w' => e = .returned (.int .i64 (classF (canon x))) ∧ w = w' := by
  cases h1 : isNaN x
  · rw [canon_of_not h1]
    generalize hc : classF x = c
    unfold classF at hc
    have HC := Lib.hid hc
    clear hc
    cases h2 : isInf x <;> cases h3 : isZ x <;> cases h4 : isLow x <;> cases h5 : sg x
    all_goals
      have HD := HC.out
      clear HC
      simp only [h1, h2, h3, h4, h5, if_true, if_false, Bool.false_eq_true] at HD
      first
        | (exfalso; unfold isInf isZ isLow at *; simp at h2 h3 h4; omega)
        | (subst HD
           go_enter Try.func39, Try.ntmps39
           go_wp2_with (go_at_call 49; refine (isinf_any _ _).mono ?_; rintro e w' ⟨rfl, rfl⟩)
           go_ret
           exact ⟨rfl, rfl⟩)
  · rw [canon_of_nan h1, show classF cN = 1 from by decide]
    go_enter Try.func39, Try.ntmps39
    go_wp2
    go_ret
    exact ⟨rfl, rfl⟩

theorem bits_or0 : bits .or .u64 0 9223372036854775808 = 9223372036854775808 := by decide
set_option maxHeartbeats 400000 in
theorem copysign_any (w : World) :
    Calls Try.prog 29 #[.float .f64 0, .float .f64 13830554455654793216] w fun e w' => e = .returned (.float .f64 negZ) ∧ w = w' := by
  have e1 : bits .andNot .u64 (0 : Int) 9223372036854775808 = 0 := by decide
  have e2 : bits .and .u64 (13830554455654793216 : Int) 9223372036854775808 = 9223372036854775808 := by decide
  have e3 := bits_or0
  go_enter Try.func29, Try.ntmps29
  go_wp2
  go_ret
  exact ⟨rfl, rfl⟩

theorem allNegZ_take_succ {l : List Nat} (hb : ∀ x ∈ l, x < 2^64) : allNegZ l = true ↔ 0 < l.length ∧ ∀ k (h : k < l.length), classF (canon l[k]) = 5 := by
  rw [allNegZ_iff]
  constructor
  · intro ⟨h1, h2⟩
    refine ⟨List.length_pos_iff.2 h1, fun k h => ?_⟩
    rw [h2 _ (List.getElem_mem h)]; decide
  · intro ⟨h1, h2⟩
    refine ⟨List.length_pos_iff.1 h1, fun x hx => ?_⟩
    obtain ⟨k, hk, rfl⟩ := List.getElem_of_mem hx
    have := (class_negZ (canon_lt (hb _ hx))).1 (h2 k hk)
    exact canon_eq_negZ this

set_option maxHeartbeats 800000 in
theorem negative_some (b o cap : Nat) (l : List Nat) (hl : l.length ≤ 140737488355328) (hbd : ∀ x ∈ l, x < 2^64) (w : World) (hc : ∀ i (h : i < l.length), w.cell? ⟨b, o + i, none⟩ = some (.float .f64 l[i])) :
    Calls Try.prog 28 #[.slice (some ⟨b, o, none⟩) l.length cap] w fun e w' => e = .returned (.bool (allNegZ l)) ∧ w = w' := by
  have HN := Lib.hid (allNegZ_take_succ hbd)
  clear hbd
  go_enter Try.func28, Try.ntmps28
  go_wp2
  go_loop [7] (fun i => ∃ k : Nat, k ≤ l.length ∧ i = .int .i64 k ∧ Hid (∀ j (h : j < l.length), j < k → classF (canon l[j]) = 5)) (fun i => l.length - (intOf i).toNat)
  case atStart => exact ⟨0, Nat.zero_le _, rfl, fun j _ h => by omega⟩
  case round =>
    obtain ⟨k, hk, rfl, hj⟩ := hrel
    by_cases hlt : k < l.length
    · have hcell := hc k hlt
      by_cases h5 : classF (canon l[k]) = 5
      · have h5' : (classF (canon l[k]) != 5) = false := by simp [h5]
        have H5 := Lib.hid h5
        clear h5
        go_wp2_with (go_at_call 39; refine (class_any _ _).mono ?_; rintro e w' ⟨rfl, rfl⟩)
        go_round
        case rel => exact ⟨k + 1, by omega, by go_num, fun j h h' => by
          rcases Nat.lt_or_ge j k with h2 | h2
          · exact hj.out j h h2
          · have : j = k := by omega
            subst this; exact H5.out⟩
        case measure => simp [intOf]; omega
      · have h5' : (classF (canon l[k]) != 5) = true := by simp [h5]
        have HF : Hid (allNegZ l = false) := by
          cases he : allNegZ l
          · rfl
          · exact absurd ((HN.out.1 he).2 k hlt) h5
        clear h5
        go_wp2_with (go_at_call 39; refine (class_any _ _).mono ?_; rintro e w' ⟨rfl, rfl⟩)
        go_ret
        exact ⟨by rw [HF.out]; rfl, rfl⟩
    · have hke : k = l.length := by omega
      have HF : Hid (allNegZ l = decide (0 < l.length)) := by
        have hn := HN.out
        rw [Bool.eq_iff_iff, decide_eq_true_eq, hn]
        exact ⟨fun h => h.1, fun h => ⟨h, fun j h' => hj.out j h' (by omega)⟩⟩
      go_wp2
      go_ret
      exact ⟨by rw [HF.out]; simp, rfl⟩
end Go.Proofs.Ytfnchcafebomlaa
