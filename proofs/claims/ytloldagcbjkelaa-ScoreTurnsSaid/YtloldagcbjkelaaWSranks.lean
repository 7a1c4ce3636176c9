/- The walk of ScoreRanks: the law returns true. -/
import Derived.Test.YtloldagcbjkelaaRk5
import Derived.Test.YtloldagcbjkelaaScl
namespace Go.Proofs.Ytloldagcbjkelaa
open Go.RowKit Fl

set_option maxHeartbeats 400000 in
theorem small5_any (a : Option Addr) (n cap : Nat) (w : World) :
    Calls Try.prog 15 #[.slice a n cap] w fun e w' => e = .returned (.bool (decide (n ≤ 200))) ∧ w = w' := by
  have h : decide ((n : Int) ≤ 200) = decide (n ≤ 200) := by rw [Bool.eq_iff_iff, decide_eq_true_eq, decide_eq_true_eq]; omega
  have H := Lib.hid h
  clear h
  go_enter Try.func15, Try.ntmps15
  go_wp2
  go_ret
  exact ⟨by rw [← H.out]; rfl, rfl⟩

theorem DrwN.below {w w' : World} (h : DrwN w w') (B : Nat) : Below B w w' := by
  obtain ⟨m, rfl⟩ := h
  exact below_drewN (Below.refl _ _) m

/-- there is a ranking -/
theorem rank_exists (S : Nat → Nat) (ok : Nat → Bool) (n : Nat) : ∃ r, IsRank S ok n r := by
  cases n with
  | zero => exact ⟨[], IsRank.start S ok⟩
  | succ m =>
    obtain ⟨cs, hcs⟩ : ∃ cs : List (Fin (m + 1)), cs.map (·.val) = (List.range (m + 1)).filter ok := fins_of _ (fun x hx => by
      have := (List.mem_filter.1 hx).1
      simpa using this)
    exact ⟨_, sortK_rank hcs⟩

set_option maxHeartbeats 3200000 in
set_option maxRecDepth 8000 in
theorem ranks_small (now : Int) (v : Value) (a : Option Addr) (cap : Nat) (l : List Zn) (hv : v = .slice a l.length cap) (hl : l.length ≤ 200) (w : World) (hS : SlZ w v l) :
    Calls Try.prog 8 #[v, .int .i64 now] w fun e w' => e = .returned (.bool true) ∧ Below w.heap.size w w' := by
  obtain ⟨r, hr⟩ := rank_exists (scS l now) (okB l now) l.length
  have hrl := hr.len
  have C1 : Hid (Calls Try.prog 18 #[v, .int .i64 now] w fun e w' => ∃ v', e = .returned v' ∧ OwnN w' w.heap.size v' r ∧ Below w.heap.size w w') := by
    refine (rrank_any v l now (by omega) w hS).mono ?_
    rintro e w' ⟨v', r', rfl, hr', ho, hb⟩
    obtain rfl := hr.unique hr'
    exact ⟨v', rfl, ho, hb⟩
  have C2 : Hid (∀ w', Below w.heap.size w w' → Calls Try.prog 19 #[v, .int .i64 now] w' fun e w2 => e = .returned (.tuple #[.int .i64 (chK r), .int .i64 (chE r)]) ∧ Below w'.heap.size w' w2) := fun w' h =>
    choose_any v l now r hr (by omega) w' (hS.below (Nat.le_refl _) h)
  have C3 : Hid (∀ w', Below w.heap.size w w' → Calls Try.prog 16 #[v, .int .i64 now] w' fun e w2 => ∃ v', e = .returned v' ∧ OwnN w2 w'.heap.size v' r ∧ Below w'.heap.size w' w2) := fun w' h => by
    refine (rank_any v l now (by omega) w' (hS.below (Nat.le_refl _) h)).mono ?_
    rintro e w2 ⟨v', r', rfl, hr', ho, hb⟩
    obtain rfl := hr.unique hr'
    exact ⟨v', rfl, ho, hb⟩
  have hsm : decide (l.length ≤ 200) = true := decide_eq_true hl
  clear hS hr
  subst hv
  cases r with
  | nil =>
    rw [show chK [] = 0 from rfl, show chE [] = 14 from rfl] at C2
    go_enter Try.func8, Try.ntmps8
    go_wp2_with (go_at_call 15; refine (small5_any _ _ _ _).mono ?_; rintro e w' ⟨rfl, rfl⟩)
    refine C1.out.mono ?_
    rintro e w1 ⟨v1, rfl, ho1, hb1⟩
    obtain ⟨a1, c1, rfl⟩ := ho1.form
    have HB1 := Lib.hid hb1
    clear ho1 hb1
    go_wp2_with fail
    refine (C2.out w1 HB1.out).mono ?_
    rintro e w2 ⟨rfl, hb2⟩
    have HB2 : Hid (Below w.heap.size w w2) := HB1.out.trans (hb2.mono HB1.out.size)
    clear hb2
    try rw [List.length_nil]
    go_wp2_with fail
    refine (C3.out w2 HB2.out).mono ?_
    rintro e w3 ⟨v3, rfl, ho3, hb3⟩
    obtain ⟨a3, c3, rfl⟩ := ho3.form
    have HB3 : Hid (Below w.heap.size w w3) := HB2.out.trans (hb3.mono HB2.out.size)
    clear ho3 hb3
    try rw [List.length_nil]
    go_wp2_with (go_at_call 14; refine (awake5_any _).mono ?_; rintro e w' ⟨rfl, hbb⟩)
    go_ret
    exact ⟨rfl, HB3.out.trans (hbb.mono HB3.out.size)⟩
  | cons x r =>
    rw [show chK (x :: r) = x from rfl, show chE (x :: r) = 0 from rfl] at C2
    rw [List.length_cons] at hrl
    have hne : ((r.length : Int) + 1 == 0) = false := beq_eq_false_iff_ne.2 (by omega)
    go_enter Try.func8, Try.ntmps8
    go_wp2_with (go_at_call 15; refine (small5_any _ _ _ _).mono ?_; rintro e w' ⟨rfl, rfl⟩)
    refine C1.out.mono ?_
    rintro e w1 ⟨v1, rfl, ho1, hb1⟩
    obtain ⟨g1, c1, rfl, _, hg1⟩ := ho1.at0 (by simp)
    have hc1 := (ho1.cellOf 0 (by simp)).1
    rw [show (x :: r).getD 0 0 = x from rfl] at hc1
    have HB1 := Lib.hid hb1
    have HO1 : Hid (Sl encN w1 (.slice (some ⟨g1, 0, none⟩) (x :: r).length c1) (x :: r)) := ho1.sl (by simp; omega)
    have HC1 := Lib.hid hc1
    clear ho1 hb1 hc1
    rw [List.length_cons] at HO1
    try rw [List.length_cons]
    go_wp2_with fail
    refine (C2.out w1 HB1.out).mono ?_
    rintro e w2 ⟨rfl, hb2⟩
    have HB2 : Hid (Below w.heap.size w w2) := HB1.out.trans (hb2.mono HB1.out.size)
    have HD2 : Hid (Below w1.heap.size w1 w2) := hb2
    clear hb2
    go_wp2_with fail
    refine (C3.out w2 HB2.out).mono ?_
    rintro e w3 ⟨v3, rfl, ho3, hb3⟩
    have HB3 : Hid (Below w.heap.size w w3) := HB2.out.trans (hb3.mono HB2.out.size)
    have HD3 : Hid (Below w1.heap.size w1 w3) := HD2.out.trans (hb3.mono HD2.out.size)
    have CI := Lib.hid (ints_any v3 (.slice (some ⟨g1, 0, none⟩) (r.length + 1) c1) (x :: r) (by simp; omega) w3 (ho3.sl (by simp; omega)) (HO1.out.below (Nat.le_refl _) HD3.out))
    have hgl := Lib.hid hg1
    clear ho3 hb3 hg1
    go_wp2_with fail
    refine CI.out.mono ?_
    rintro e w4 ⟨rfl, n4, rfl⟩
    have hc4 : w3.cell? ⟨g1, 0, none⟩ = some (.int .i64 (x : Int)) := by
      rw [HD3.out.cell (p := ⟨g1, 0, none⟩) hgl.out]; exact HC1.out
    go_wp2_with (go_at_call 14; refine (awake5_any _).mono ?_; rintro e w' ⟨rfl, hbb⟩)
    go_ret
    have HB4 : Below w.heap.size w (w3.drewN n4) := below_drewN HB3.out n4
    exact ⟨rfl, HB4.trans (hbb.mono HB4.size)⟩

set_option maxHeartbeats 800000 in
set_option maxRecDepth 8000 in
theorem ranks_big (now : Int) (a : Option Addr) (n cap : Nat) (hl : 200 < n) (w : World) :
    Calls Try.prog 8 #[.slice a n cap, .int .i64 now] w fun e w' => e = .returned (.bool true) ∧ Below w.heap.size w w' := by
  have hsm : decide (n ≤ 200) = false := decide_eq_false (by omega)
  go_enter Try.func8, Try.ntmps8
  go_wp2_with (first | (go_at_call 15; refine (small5_any _ _ _ _).mono ?_; rintro e w' ⟨rfl, rfl⟩) | (go_at_call 14; refine (awake5_any _).mono ?_; rintro e w' ⟨rfl, hbb⟩))
  go_ret
  exact ⟨rfl, hbb⟩

theorem walk_ScoreRanks (w : World) (v : Value) (l : List Zn) (h : SlZ w v l) (now : Int) (_ : (Lit.int .i64 now).wf = true) :
    Calls Try.prog 8 #[v, .int .i64 now] w fun e w' => e = .returned (.bool true) ∧ Below w.heap.size w w' := by
  obtain ⟨a, cap, hv, _⟩ := id h
  rcases Nat.lt_or_ge 200 l.length with hl | hl
  · subst hv; exact ranks_big now a _ cap hl w
  · exact ranks_small now v a cap l hv hl w h
end Go.Proofs.Ytloldagcbjkelaa
