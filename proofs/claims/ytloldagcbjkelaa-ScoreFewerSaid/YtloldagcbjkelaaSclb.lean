/- The walk of a law on one zone's use and score: the law returns true. -/
import Derived.Test.YtloldagcbjkelaaScl
namespace Go.Proofs.Ytloldagcbjkelaa
open Go.RowKit Fl

/-- the score of a zone that may be and is not unsized -/
theorem scoreV_val {l s t now : Int} (h0 : 0 ≤ l) (h1 : l ≤ s) (h2 : 1 ≤ s) (h3 : s ≤ 1073741824) (h4 : 0 ≤ t) (h5 : t ≤ now) (h6 : now ≤ 1099511627776) :
    scoreV l s t now = (if l = 0 then infW else worthF (useF l s) (now - t)) ∧ scoreE l s t now = 0 := by
  have hn : nowB l s t now = true := by
    unfold nowB mayB; rw [Bool.and_eq_true]; exact ⟨decide_eq_true (by omega), decide_eq_true (by omega)⟩
  constructor
  · rw [score_same]; unfold rscoreV rscoreF; rw [hn, if_neg (show ¬ s = 0 by omega)]; rfl
  · unfold scoreE; rw [hn]; rfl

theorem fewer_facts {size a b s t now : Int} (h1 : 1 ≤ size) (h2 : size ≤ 1048576) (h3 : 0 ≤ a) (h4 : a ≤ b) (h5 : b ≤ size) (h6 : 0 ≤ s) (h7 : s ≤ t) (h8 : t ≤ now) (h9 : now ≤ 1073741824) :
    scoreE a size t now = 0 ∧ scoreE b size t now = 0 ∧ scoreE b size s now = 0 ∧ fge (scoreV a size t now) (scoreV b size t now) = true ∧
    fge (scoreV b size s now) (scoreV b size t now) = true ∧ fge (scoreV b size t now) 0 = true := by
  obtain ⟨e1, e2⟩ := scoreV_val (l := a) (s := size) (t := t) (now := now) h3 (by omega) h1 (by omega) (by omega) h8 (by omega)
  obtain ⟨e3, e4⟩ := scoreV_val (l := b) (s := size) (t := t) (now := now) (by omega) h5 h1 (by omega) (by omega) h8 (by omega)
  obtain ⟨e5, e6⟩ := scoreV_val (l := b) (s := size) (t := s) (now := now) (by omega) h5 h1 (by omega) h6 (by omega) (by omega)
  refine ⟨e2, e4, e6, ?_⟩
  rw [e1, e3, e5]
  have hni : isNaN infW = false := by decide
  have hz : isNaN 0 = false := by decide
  by_cases hb : b = 0
  · obtain rfl : a = 0 := by omega
    subst hb
    exact ⟨fge_inf hni, fge_inf hni, fge_inf hz⟩
  · rw [if_neg hb, if_neg hb]
    obtain ⟨v1, v2, v3⟩ := use_bounds (l := b) (s := size) (by omega) h5 h1 (by omega)
    obtain ⟨_, _, _, w1, w2, _⟩ := worth_parts v1 v2 v3 (a := now - t) (by omega) (by omega)
    obtain ⟨_, _, _, y1, y2, _⟩ := worth_parts v1 v2 v3 (a := now - s) (by omega) (by omega)
    refine ⟨?_, ?_, ?_⟩
    · by_cases ha : a = 0
      · rw [if_pos ha]; exact fge_inf (fin_not_nan w1)
      · rw [if_neg ha]
        obtain ⟨u1, u2, u3⟩ := use_bounds (l := a) (s := size) h3 (by omega) h1 (by omega)
        obtain ⟨_, _, _, x1, _, _⟩ := worth_parts u1 u2 u3 (a := now - t) (by omega) (by omega)
        rw [fge_fin x1 w1]
        exact decide_eq_true (worth_mono v1 u1 u2 v3 (use_mono h3 h4 h5 h1 (by omega)) (by omega) (by omega) (by omega))
    · rw [fge_fin y1 w1]
      exact decide_eq_true (worth_mono v1 v1 v2 v3 Rat.le_refl (by omega) (by omega) (by omega))
    · rw [fge_fin w1 zero_fin.1, zero_fin.2]
      exact decide_eq_true w2

set_option maxHeartbeats 1600000 in
theorem fewer_no1 (size a b s t now : Int) (w : World)  (h1 : size < 1) :
    Calls Try.prog 4 #[.int .i64 size, .int .i64 a, .int .i64 b, .int .i64 s, .int .i64 t, .int .i64 now] w fun e w' => e = .returned (.bool true) ∧ Below w.heap.size w w' := by
  go_enter Try.func4, Try.ntmps4
  go_wp2_with (go_at_call 14; refine (awake5_any _).mono ?_; rintro e w' ⟨rfl, hb⟩)
  go_ret
  exact ⟨rfl, hb⟩

set_option maxHeartbeats 1600000 in
theorem fewer_no2 (size a b s t now : Int) (w : World) (h1 : 1 ≤ size) (h2 : 1048576 < size) :
    Calls Try.prog 4 #[.int .i64 size, .int .i64 a, .int .i64 b, .int .i64 s, .int .i64 t, .int .i64 now] w fun e w' => e = .returned (.bool true) ∧ Below w.heap.size w w' := by
  go_enter Try.func4, Try.ntmps4
  go_wp2_with (go_at_call 14; refine (awake5_any _).mono ?_; rintro e w' ⟨rfl, hb⟩)
  go_ret
  exact ⟨rfl, hb⟩

set_option maxHeartbeats 1600000 in
theorem fewer_no3 (size a b s t now : Int) (w : World) (h1 : 1 ≤ size) (h2 : size ≤ 1048576) (h3 : a < 0) :
    Calls Try.prog 4 #[.int .i64 size, .int .i64 a, .int .i64 b, .int .i64 s, .int .i64 t, .int .i64 now] w fun e w' => e = .returned (.bool true) ∧ Below w.heap.size w w' := by
  go_enter Try.func4, Try.ntmps4
  go_wp2_with (go_at_call 14; refine (awake5_any _).mono ?_; rintro e w' ⟨rfl, hb⟩)
  go_ret
  exact ⟨rfl, hb⟩

set_option maxHeartbeats 1600000 in
theorem fewer_no4 (size a b s t now : Int) (w : World) (h1 : 1 ≤ size) (h2 : size ≤ 1048576) (h3 : 0 ≤ a) (h4 : b < a) :
    Calls Try.prog 4 #[.int .i64 size, .int .i64 a, .int .i64 b, .int .i64 s, .int .i64 t, .int .i64 now] w fun e w' => e = .returned (.bool true) ∧ Below w.heap.size w w' := by
  go_enter Try.func4, Try.ntmps4
  go_wp2_with (go_at_call 14; refine (awake5_any _).mono ?_; rintro e w' ⟨rfl, hb⟩)
  go_ret
  exact ⟨rfl, hb⟩

set_option maxHeartbeats 1600000 in
theorem fewer_no5 (size a b s t now : Int) (w : World) (h1 : 1 ≤ size) (h2 : size ≤ 1048576) (h3 : 0 ≤ a) (h4 : a ≤ b) (h5 : size < b) :
    Calls Try.prog 4 #[.int .i64 size, .int .i64 a, .int .i64 b, .int .i64 s, .int .i64 t, .int .i64 now] w fun e w' => e = .returned (.bool true) ∧ Below w.heap.size w w' := by
  go_enter Try.func4, Try.ntmps4
  go_wp2_with (go_at_call 14; refine (awake5_any _).mono ?_; rintro e w' ⟨rfl, hb⟩)
  go_ret
  exact ⟨rfl, hb⟩

set_option maxHeartbeats 1600000 in
theorem fewer_no6 (size a b s t now : Int) (w : World) (h1 : 1 ≤ size) (h2 : size ≤ 1048576) (h3 : 0 ≤ a) (h4 : a ≤ b) (h5 : b ≤ size) (h6 : s < 0) :
    Calls Try.prog 4 #[.int .i64 size, .int .i64 a, .int .i64 b, .int .i64 s, .int .i64 t, .int .i64 now] w fun e w' => e = .returned (.bool true) ∧ Below w.heap.size w w' := by
  go_enter Try.func4, Try.ntmps4
  go_wp2_with (go_at_call 14; refine (awake5_any _).mono ?_; rintro e w' ⟨rfl, hb⟩)
  go_ret
  exact ⟨rfl, hb⟩

set_option maxHeartbeats 1600000 in
theorem fewer_no7 (size a b s t now : Int) (w : World) (h1 : 1 ≤ size) (h2 : size ≤ 1048576) (h3 : 0 ≤ a) (h4 : a ≤ b) (h5 : b ≤ size) (h6 : 0 ≤ s) (h7 : t < s) :
    Calls Try.prog 4 #[.int .i64 size, .int .i64 a, .int .i64 b, .int .i64 s, .int .i64 t, .int .i64 now] w fun e w' => e = .returned (.bool true) ∧ Below w.heap.size w w' := by
  go_enter Try.func4, Try.ntmps4
  go_wp2_with (go_at_call 14; refine (awake5_any _).mono ?_; rintro e w' ⟨rfl, hb⟩)
  go_ret
  exact ⟨rfl, hb⟩

set_option maxHeartbeats 1600000 in
theorem fewer_no8 (size a b s t now : Int) (w : World) (h1 : 1 ≤ size) (h2 : size ≤ 1048576) (h3 : 0 ≤ a) (h4 : a ≤ b) (h5 : b ≤ size) (h6 : 0 ≤ s) (h7 : s ≤ t) (h8 : now < t) :
    Calls Try.prog 4 #[.int .i64 size, .int .i64 a, .int .i64 b, .int .i64 s, .int .i64 t, .int .i64 now] w fun e w' => e = .returned (.bool true) ∧ Below w.heap.size w w' := by
  go_enter Try.func4, Try.ntmps4
  go_wp2_with (go_at_call 14; refine (awake5_any _).mono ?_; rintro e w' ⟨rfl, hb⟩)
  go_ret
  exact ⟨rfl, hb⟩

set_option maxHeartbeats 1600000 in
theorem fewer_no9 (size a b s t now : Int) (w : World) (h1 : 1 ≤ size) (h2 : size ≤ 1048576) (h3 : 0 ≤ a) (h4 : a ≤ b) (h5 : b ≤ size) (h6 : 0 ≤ s) (h7 : s ≤ t) (h8 : t ≤ now) (h9 : 1073741824 < now) :
    Calls Try.prog 4 #[.int .i64 size, .int .i64 a, .int .i64 b, .int .i64 s, .int .i64 t, .int .i64 now] w fun e w' => e = .returned (.bool true) ∧ Below w.heap.size w w' := by
  go_enter Try.func4, Try.ntmps4
  go_wp2_with (go_at_call 14; refine (awake5_any _).mono ?_; rintro e w' ⟨rfl, hb⟩)
  go_ret
  exact ⟨rfl, hb⟩

set_option maxHeartbeats 3200000 in
theorem fewer_yes (size a b s t now : Int) (w : World) (h1 : 1 ≤ size) (h2 : size ≤ 1048576) (h3 : 0 ≤ a) (h4 : a ≤ b) (h5 : b ≤ size) (h6 : 0 ≤ s) (h7 : s ≤ t) (h8 : t ≤ now) (h9 : now ≤ 1073741824) :
    Calls Try.prog 4 #[.int .i64 size, .int .i64 a, .int .i64 b, .int .i64 s, .int .i64 t, .int .i64 now] w fun e w' => e = .returned (.bool true) ∧ Below w.heap.size w w' := by
  obtain ⟨e1, e2, e3, f1, f2, f3⟩ := fewer_facts h1 h2 h3 h4 h5 h6 h7 h8 h9
  have c1 := score_any a size t now
  have c2 := score_any b size t now
  have c3 := score_any b size s now
  rw [e1] at c1; rw [e2] at c2; rw [e3] at c3
  generalize scoreV a size t now = x at *
  generalize scoreV b size t now = y at *
  generalize scoreV b size s now = z at *
  have C1 := Lib.hid c1
  have C2 := Lib.hid c2
  have C3 := Lib.hid c3
  clear e1 e2 e3 c1 c2 c3
  go_enter Try.func4, Try.ntmps4
  go_wp2_with fail
  refine (C1.out _).mono ?_; rintro e w1 ⟨rfl, hb1⟩
  go_wp2_with fail
  refine (C2.out _).mono ?_; rintro e w2 ⟨rfl, hb2⟩
  have hb12 := hb1.trans (hb2.mono hb1.size)
  clear hb1 hb2
  go_wp2_with fail
  refine (C3.out _).mono ?_; rintro e w3 ⟨rfl, hb3⟩
  have hb13 := hb12.trans (hb3.mono hb12.size)
  clear hb12 hb3 h1 h2 h3 h4 h5 h6 h7 h8 h9
  go_wp2_with (go_at_call 14; refine (awake5_any _).mono ?_; rintro e w' ⟨rfl, hb⟩)
  go_ret
  exact ⟨rfl, hb13.trans (hb.mono hb13.size)⟩

theorem walk_ScoreFewer (size : Int) (_ : (Lit.int .i64 size).wf = true) (a : Int) (_ : (Lit.int .i64 a).wf = true) (b : Int) (_ : (Lit.int .i64 b).wf = true)
    (s : Int) (_ : (Lit.int .i64 s).wf = true) (t : Int) (_ : (Lit.int .i64 t).wf = true) (now : Int) (_ : (Lit.int .i64 now).wf = true) (w : World) :
    Calls Try.prog 4 #[.int .i64 size, .int .i64 a, .int .i64 b, .int .i64 s, .int .i64 t, .int .i64 now] w fun e w' => e = .returned (.bool true) ∧ Below w.heap.size w w' := by
  rcases Int.lt_or_le size 1 with h | h1
  · exact fewer_no1 size a b s t now w  h
  rcases Int.lt_or_le 1048576 size with h | h2
  · exact fewer_no2 size a b s t now w h1 h
  rcases Int.lt_or_le a 0 with h | h3
  · exact fewer_no3 size a b s t now w h1 h2 h
  rcases Int.lt_or_le b a with h | h4
  · exact fewer_no4 size a b s t now w h1 h2 h3 h
  rcases Int.lt_or_le size b with h | h5
  · exact fewer_no5 size a b s t now w h1 h2 h3 h4 h
  rcases Int.lt_or_le s 0 with h | h6
  · exact fewer_no6 size a b s t now w h1 h2 h3 h4 h5 h
  rcases Int.lt_or_le t s with h | h7
  · exact fewer_no7 size a b s t now w h1 h2 h3 h4 h5 h6 h
  rcases Int.lt_or_le now t with h | h8
  · exact fewer_no8 size a b s t now w h1 h2 h3 h4 h5 h6 h7 h
  rcases Int.lt_or_le 1073741824 now with h | h9
  · exact fewer_no9 size a b s t now w h1 h2 h3 h4 h5 h6 h7 h8 h
  exact fewer_yes size a b s t now w h1 h2 h3 h4 h5 h6 h7 h8 h9
end Go.Proofs.Ytloldagcbjkelaa
