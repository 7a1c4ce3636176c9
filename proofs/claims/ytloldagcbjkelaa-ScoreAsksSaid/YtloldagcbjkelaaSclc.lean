/- The walk of a law on one zone's use and score: the law returns true. -/
import Derived.Test.YtloldagcbjkelaaScl
import Derived.Test.YtloldagcbjkelaaSame
namespace Go.Proofs.Ytloldagcbjkelaa
open Go.RowKit Fl

set_option maxHeartbeats 1600000 in
theorem walk_ScoreAsks (l s t : Int) (_ : (Lit.int .i64 l).wf = true) (_ : (Lit.int .i64 s).wf = true) (_ : (Lit.int .i64 t).wf = true) (now : Int) (_ : (Lit.int .i64 now).wf = true) (w : World) :
    Calls Try.prog 3 #[.agg #[.int .i64 l, .int .i64 s, .int .i64 t], .int .i64 now] w fun e w' => e = .returned (.bool true) ∧ Below w.heap.size w w' := by
  have hsame := score_same l s t now
  have c3 := score_any l s t now
  have c4 := rscore_any l s t now
  rw [← hsame] at c4
  have hu : ∃ x y, (∀ w, Calls Try.prog 9 #[.agg #[.int .i64 l, .int .i64 s, .int .i64 t]] w fun e w' => e = .returned (.tuple #[.float .f64 x, .int .i64 y]) ∧ Below w.heap.size w w') ∧
      (∀ w, Calls Try.prog 10 #[.agg #[.int .i64 l, .int .i64 s, .int .i64 t]] w fun e w' => e = .returned (.tuple #[.float .f64 x, .int .i64 y]) ∧ Below w.heap.size w w') := by
    cases hm : mayB l s t
    · exact ⟨_, _, fun w => use_no l s t w hm, fun w => ruse_no l s t w hm⟩
    · exact ⟨_, _, fun w => use_yes l s t w hm, fun w => ruse_yes l s t w hm⟩
  obtain ⟨x, y, c1, c2⟩ := hu
  clear hsame
  generalize scoreV l s t now = u at *
  generalize scoreE l s t now = v at *
  have C1 := Lib.hid c1
  have C2 := Lib.hid c2
  have C3 := Lib.hid c3
  have C4 := Lib.hid c4
  clear c1 c2 c3 c4
  go_enter Try.func3, Try.ntmps3
  go_wp2_with fail
  refine (C1.out _).mono ?_; rintro e w1 ⟨rfl, hb1⟩
  obtain ⟨hc1, hf1⟩ := bcell hb1
  go_wp2_with fail
  refine (C2.out _).mono ?_; rintro e w2 ⟨rfl, hb2⟩
  have hb12 := hb1.trans (hb2.mono hb1.size)
  clear hc1 hf1
  obtain ⟨hc1, hf1⟩ := bcell hb12
  go_wp2_with fail
  refine (C3.out _).mono ?_; rintro e w3 ⟨rfl, hb3⟩
  have hb13 := hb12.trans (hb3.mono hb12.size)
  clear hc1 hf1
  obtain ⟨hc1, hf1⟩ := bcell hb13
  go_wp2_with fail
  refine (C4.out _).mono ?_; rintro e w4 ⟨rfl, hb4⟩
  have hb14 := hb13.trans (hb4.mono hb13.size)
  clear hc1 hf1
  go_wp2_with (first | (go_at_call 14; refine (awake5_any _).mono ?_; rintro e w' ⟨rfl, hb⟩) | (go_at_call 13; refine (same_any _ _ _).mono ?_; rintro e w' ⟨rfl, rfl⟩))
  go_ret
  exact ⟨rfl, ((Below.refl _ _).alloc (Nat.le_refl _) _).trans ((hb14.trans (hb.mono hb14.size)).mono (by simp))⟩
end Go.Proofs.Ytloldagcbjkelaa
