/- The walks of the laws on one zone's use and score: each law returns true. -/
import Derived.Test.YtloldagcbjkelaaSca
namespace Go.Proofs.Ytloldagcbjkelaa
open Go.RowKit Fl

theorem awake5_val : feq (scoreV 1 4 0 10) 4618441417868443648 = true ∧ scoreE 1 4 0 10 = 0 := by decide

set_option maxHeartbeats 800000 in
theorem awake5_any (w : World) :
    Calls Try.prog 14 #[] w fun e w' => e = .returned (.bool true) ∧ Below w.heap.size w w' := by
  obtain ⟨h1, h2⟩ := awake5_val
  generalize hx : scoreV 1 4 0 10 = x at h1
  generalize hy : scoreE 1 4 0 10 = y at h2
  subst h2
  have HX := Lib.hid hx
  have HY := Lib.hid hy
  clear hx hy
  go_enter Try.func14, Try.ntmps14
  go_wp2_with fail
  refine (score_any _ _ _ _ _).mono ?_; rintro e w1 ⟨rfl, hb1⟩
  rw [HX.out, HY.out]
  go_wp2
  go_ret
  exact ⟨rfl, hb1⟩

set_option maxHeartbeats 1600000 in
theorem walk_ScoreUse (size : Int) (_ : (Lit.int .i64 size).wf = true) (a : Int) (_ : (Lit.int .i64 a).wf = true) (b : Int) (_ : (Lit.int .i64 b).wf = true) (w : World) :
    Calls Try.prog 5 #[.int .i64 size, .int .i64 a, .int .i64 b] w fun e w' => e = .returned (.bool true) ∧ Below w.heap.size w w' := by
  have key : (size < 0) ∨ (0 ≤ size ∧ 1073741824 < size) ∨ (0 ≤ size ∧ size ≤ 1073741824 ∧ a < 0) ∨ (0 ≤ size ∧ size ≤ 1073741824 ∧ 0 ≤ a ∧ b < a) ∨ (0 ≤ size ∧ size ≤ 1073741824 ∧ 0 ≤ a ∧ a ≤ b ∧ size < b) ∨
      (0 ≤ size ∧ size ≤ 1073741824 ∧ 0 ≤ a ∧ a ≤ b ∧ b ≤ size) := by omega
  rcases key with h | ⟨h1, h2⟩ | ⟨h1, h2, h3⟩ | ⟨h1, h2, h3, h4⟩ | ⟨h1, h2, h3, h4, h5⟩ | ⟨h1, h2, h3, h4, h5⟩
  iterate 5
    · go_enter Try.func5, Try.ntmps5
      go_wp2_with (go_at_call 14; refine (awake5_any _).mono ?_; rintro e w' ⟨rfl, hb⟩)
      go_ret
      exact ⟨rfl, hb⟩
  · have hm1 : mayB a size 0 = true := decide_eq_true (by omega)
    have hm2 : mayB b size 0 = true := decide_eq_true (by omega)
    by_cases hs : size = 0
    · obtain rfl : a = 0 := by omega
      obtain rfl : b = 0 := by omega
      subst hs
      have hn : isNaN (useF 0 0) = true := by rw [use_unsized]; exact cN_nan
      have HM := Lib.hid hm1
      clear h1 h2 h3 h4 h5 hm1 hm2
      go_enter Try.func5, Try.ntmps5
      go_wp2_with fail
      refine (use_yes _ _ _ _ HM.out).mono ?_; rintro e w1 ⟨rfl, hb1⟩
      go_wp2_with fail
      refine (use_yes _ _ _ _ HM.out).mono ?_; rintro e w2 ⟨rfl, hb2⟩
      go_wp2_with (go_at_call 14; refine (awake5_any _).mono ?_; rintro e w' ⟨rfl, hb⟩)
      go_ret
      exact ⟨rfl, (hb1.trans (hb2.mono hb1.size)).trans (hb.mono (Nat.le_trans hb1.size hb2.size))⟩
    · obtain ⟨u1, u2, u3⟩ := use_bounds (l := a) (s := size) h3 (by omega) (by omega) h2
      obtain ⟨v1, v2, v3⟩ := use_bounds (l := b) (s := size) (by omega) (by omega) (by omega) h2
      have hmono := use_mono (l := a) (m := b) (s := size) h3 h4 h5 (by omega) h2
      have f1 : fge (useF a size) 0 = true := by rw [fge_eq, fle_fin zero_fin.1 u1, zero_fin.2]; simpa using u2
      have f2 : fle (useF a size) (useF b size) = true := by rw [fle_fin u1 v1]; simpa using hmono
      have f3 : fle (useF b size) 4607182418800017408 = true := by
        show fle _ oneW = true
        rw [fle_fin v1 one_fin.1, one_fin.2]; simpa using v3
      have f4 : feq (useF a size) 0 = (a == 0) := by
        rw [feq_zero u1, Bool.eq_iff_iff, decide_eq_true_eq, beq_iff_eq]
        constructor
        · intro h
          rcases Int.lt_or_le a 1 with h' | h'
          · omega
          · have := use_pos (l := a) (s := size) h' (by omega) h2
            have := tiny_pos
            grind
        · intro h; subst h; exact use_zero (by omega) h2
      have f5 : feq (useF b size) 4607182418800017408 = (b == size) := by
        rw [show (4607182418800017408 : Nat) = oneW from rfl, feq_fin v1 one_fin.1, one_fin.2, Bool.eq_iff_iff, decide_eq_true_eq, beq_iff_eq]
        constructor
        · intro h
          rcases Int.lt_or_le b size with h' | h'
          · have := use_lt_one (l := b) (s := size) (by omega) h' h2
            have := tiny_pos
            grind
          · omega
        · intro h; subst h; exact use_full (by omega) h2
      have hs0 : (size == 0) = false := by simpa using hs
      have HM1 := Lib.hid hm1
      have HM2 := Lib.hid hm2
      clear hm1 hm2 u1 u2 u3 v1 v2 v3 hmono hs
      go_enter Try.func5, Try.ntmps5
      go_wp2_with fail
      refine (use_yes _ _ _ _ HM1.out).mono ?_; rintro e w1 ⟨rfl, hb1⟩
      go_wp2_with fail
      refine (use_yes _ _ _ _ HM2.out).mono ?_; rintro e w2 ⟨rfl, hb2⟩
      go_wp2_with (go_at_call 14; refine (awake5_any _).mono ?_; rintro e w' ⟨rfl, hb⟩)
      go_ret
      exact ⟨rfl, (hb1.trans (hb2.mono hb1.size)).trans (hb.mono (Nat.le_trans hb1.size hb2.size))⟩

end Go.Proofs.Ytloldagcbjkelaa
