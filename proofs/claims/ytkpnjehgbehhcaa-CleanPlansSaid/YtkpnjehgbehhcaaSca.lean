/- Walks of a zone's use and score, on both sides: what they answer, as plain functions of the zone's numbers. -/
import Derived.Test.YtkpnjehgbehhcaaBits
import Derived.Test.YtkpnjehgbehhcaaClnr
import Derived.Test.YtkpnjehgbehhcaaScp
namespace Go.Proofs.Ytkpnjehgbehhcaa
open Go.RowKit Fl

def mayB (l s t : Int) : Bool := decide (0 ≤ l ∧ l ≤ s ∧ s ≤ 1073741824 ∧ 0 ≤ t ∧ t ≤ 1099511627776)

set_option maxHeartbeats 800000 in
theorem may_any (l s t : Int) (w : World) :
    Calls Try.prog 74 #[.agg #[.int .i64 l, .int .i64 s, .int .i64 t]] w fun e w' => e = .returned (.bool (mayB l s t)) ∧ Below w.heap.size w w' := by
  generalize hb : mayB l s t = b
  unfold mayB at hb
  have key : (0 ≤ l ∧ l ≤ s ∧ s ≤ 1073741824 ∧ 0 ≤ t ∧ t ≤ 1099511627776 ∧ b = true) ∨ (l < 0 ∧ b = false) ∨ (0 ≤ l ∧ s < l ∧ b = false) ∨ (0 ≤ l ∧ l ≤ s ∧ 1073741824 < s ∧ b = false) ∨ (0 ≤ l ∧ l ≤ s ∧ s ≤ 1073741824 ∧ t < 0 ∧ b = false) ∨ (0 ≤ l ∧ l ≤ s ∧ s ≤ 1073741824 ∧ 0 ≤ t ∧ 1099511627776 < t ∧ b = false) := by
    cases b
    · have := of_decide_eq_false hb; simp only [Bool.false_eq_true, and_false, and_true, false_or]; omega
    · have := of_decide_eq_true hb; simp only [Bool.true_eq_false, and_false, and_true, or_false]; omega
  clear hb
  rcases key with ⟨h1, h2, h3, h4, h5, rfl⟩ | ⟨h1, rfl⟩ | ⟨h1, h2, rfl⟩ | ⟨h1, h2, h3, rfl⟩ | ⟨h1, h2, h3, h4, rfl⟩ | ⟨h1, h2, h3, h4, h5, rfl⟩
  all_goals
    try have d5 : decide (t ≤ 1099511627776) = false := decide_eq_false (by omega)
    go_enter Try.func74, Try.ntmps74
    go_wp2
    go_ret
    exact ⟨rfl, (Below.refl _ _).alloc (Nat.le_refl _) _⟩

set_option maxHeartbeats 800000 in
theorem rmay_any (l s t : Int) (w : World) :
    Calls Try.prog 51 #[.agg #[.int .i64 l, .int .i64 s, .int .i64 t]] w fun e w' => e = .returned (.bool (mayB l s t)) ∧ Below w.heap.size w w' := by
  generalize hb : mayB l s t = b
  unfold mayB at hb
  have key : (0 ≤ l ∧ l ≤ s ∧ s ≤ 1073741824 ∧ 0 ≤ t ∧ t ≤ 1099511627776 ∧ b = true) ∨ (l < 0 ∧ b = false) ∨ (0 ≤ l ∧ s < l ∧ b = false) ∨ (0 ≤ l ∧ l ≤ s ∧ 1073741824 < s ∧ b = false) ∨ (0 ≤ l ∧ l ≤ s ∧ s ≤ 1073741824 ∧ t < 0 ∧ b = false) ∨ (0 ≤ l ∧ l ≤ s ∧ s ≤ 1073741824 ∧ 0 ≤ t ∧ 1099511627776 < t ∧ b = false) := by
    cases b
    · have := of_decide_eq_false hb; simp only [Bool.false_eq_true, and_false, and_true, false_or]; omega
    · have := of_decide_eq_true hb; simp only [Bool.true_eq_false, and_false, and_true, or_false]; omega
  clear hb
  rcases key with ⟨h1, h2, h3, h4, h5, rfl⟩ | ⟨h1, rfl⟩ | ⟨h1, h2, rfl⟩ | ⟨h1, h2, h3, rfl⟩ | ⟨h1, h2, h3, h4, rfl⟩ | ⟨h1, h2, h3, h4, h5, rfl⟩
  all_goals
    try have d5 : decide (t ≤ 1099511627776) = false := decide_eq_false (by omega)
    go_enter Try.func51, Try.ntmps51
    go_wp2
    go_ret
    exact ⟨rfl, (Below.refl _ _).alloc (Nat.le_refl _) _⟩



set_option maxHeartbeats 800000 in
theorem use_yes (l s t : Int) (w : World) (hm : mayB l s t = true) :
    Calls Try.prog 64 #[.agg #[.int .i64 l, .int .i64 s, .int .i64 t]] w fun e w' => e = .returned (.tuple #[.float .f64 (useF l s), .int .i64 0]) ∧ Below w.heap.size w w' := by
  go_enter Try.func64, Try.ntmps64
  go_wp2_with fail
  refine (may_any _ _ _ _).mono ?_; rintro e w1 ⟨rfl, hb1⟩; rw [hm]
  obtain ⟨hc1, hf1⟩ := bcell hb1
  go_wp2_with (first | (refine wpList_fquo _ rfl _ _ _ _ rfl _ _ rfl rfl ?_; intro z n hz hl) | (go_at_call 67; refine (bits_any _ _).mono ?_; rintro e w' ⟨rfl, rfl⟩) | (go_at_call 66; refine (from_any _ _).mono ?_; rintro e w' ⟨rfl, rfl⟩))
  go_ret2
  refine ⟨?_, below_drewN (((Below.refl _ _).alloc (Nat.le_refl _) _).trans (hb1.mono (by simp))) n⟩
  show Ending.returned (.tuple #[.float .f64 (canon (useF l s)), .int .i64 0]) = _
  rw [canon_useF]

set_option maxHeartbeats 800000 in
theorem use_no (l s t : Int) (w : World) (hm : mayB l s t = false) :
    Calls Try.prog 64 #[.agg #[.int .i64 l, .int .i64 s, .int .i64 t]] w fun e w' => e = .returned (.tuple #[.float .f64 0, .int .i64 1]) ∧ Below w.heap.size w w' := by
  go_enter Try.func64, Try.ntmps64
  go_wp2_with fail
  refine (may_any _ _ _ _).mono ?_; rintro e w1 ⟨rfl, hb1⟩; rw [hm]
  go_wp2
  go_ret2
  exact ⟨rfl, ((Below.refl _ _).alloc (Nat.le_refl _) _).trans (hb1.mono (by simp))⟩

set_option maxHeartbeats 800000 in
theorem ruse_yes (l s t : Int) (w : World) (hm : mayB l s t = true) :
    Calls Try.prog 39 #[.agg #[.int .i64 l, .int .i64 s, .int .i64 t]] w fun e w' => e = .returned (.tuple #[.float .f64 (useF l s), .int .i64 0]) ∧ Below w.heap.size w w' := by
  go_enter Try.func39, Try.ntmps39
  go_wp2_with fail
  refine (rmay_any _ _ _ _).mono ?_; rintro e w1 ⟨rfl, hb1⟩; rw [hm]
  obtain ⟨hc1, hf1⟩ := bcell hb1
  go_wp2_with (first | (refine wpList_fquo _ rfl _ _ _ _ rfl _ _ rfl rfl ?_; intro z n hz hl) | (go_at_call 52; refine (clean_any _ _).mono ?_; rintro e w' ⟨rfl, rfl⟩))
  go_ret2
  exact ⟨rfl, below_drewN (((Below.refl _ _).alloc (Nat.le_refl _) _).trans (hb1.mono (by simp))) n⟩

set_option maxHeartbeats 800000 in
theorem ruse_no (l s t : Int) (w : World) (hm : mayB l s t = false) :
    Calls Try.prog 39 #[.agg #[.int .i64 l, .int .i64 s, .int .i64 t]] w fun e w' => e = .returned (.tuple #[.float .f64 0, .int .i64 1]) ∧ Below w.heap.size w w' := by
  go_enter Try.func39, Try.ntmps39
  go_wp2_with fail
  refine (rmay_any _ _ _ _).mono ?_; rintro e w1 ⟨rfl, hb1⟩; rw [hm]
  go_wp2
  go_ret2
  exact ⟨rfl, ((Below.refl _ _).alloc (Nat.le_refl _) _).trans (hb1.mono (by simp))⟩


set_option maxHeartbeats 400000 in
theorem inf_any (w : World) :
    Calls Try.prog 65 #[.int .i64 1] w fun e w' => e = .returned (.float .f64 infW) ∧ w = w' := by
  go_enter Try.func65, Try.ntmps65
  go_wp2
  go_ret
  exact ⟨rfl, rfl⟩


theorem worth_of {u zs zm za : Nat} {a : Int} (hs : canon zs = fsub oneW u) (hm : canon zm = fmul zs (ofInt a)) (ha : canon za = fadd oneW u) :
    fdiv zm za = worthF u a := by
  unfold worthF
  rw [← hs, fmul_canon_l, ← hm, ← ha, fdiv_canon]

/-- may a score be told? -/
def nowB (l s t now : Int) : Bool := mayB l s t && decide (t ≤ now ∧ now ≤ 1099511627776)

/-- the score as the code has it -/
def scoreF (l s t now : Int) : Nat := if feq (useF l s) 0 then infW else worthF (useF l s) (now - t)
/-- the score as the reference has it -/
def rscoreF (l s t now : Int) : Nat := if s = 0 then cN else if l = 0 then infW else worthF (useF l s) (now - t)

theorem may_bounds {l s t : Int} (h : mayB l s t = true) : 0 ≤ l ∧ l ≤ s ∧ s ≤ 1073741824 ∧ 0 ≤ t ∧ t ≤ 1099511627776 := of_decide_eq_true h

set_option maxHeartbeats 800000 in
theorem score_no1 (l s t now : Int) (w : World) (hm : mayB l s t = false) :
    Calls Try.prog 57 #[.agg #[.int .i64 l, .int .i64 s, .int .i64 t], .int .i64 now] w fun e w' => e = .returned (.tuple #[.float .f64 0, .int .i64 1]) ∧ Below w.heap.size w w' := by
  go_enter Try.func57, Try.ntmps57
  go_wp2_with fail
  refine (use_no _ _ _ _ hm).mono ?_; rintro e w1 ⟨rfl, hb1⟩
  go_wp2
  go_ret2
  exact ⟨rfl, ((Below.refl _ _).alloc (Nat.le_refl _) _).trans (hb1.mono (by simp))⟩

set_option maxHeartbeats 800000 in
theorem score_no2 (l s t now : Int) (w : World) (hm : mayB l s t = true) (hn : now < t ∨ (t ≤ now ∧ 1099511627776 < now)) :
    Calls Try.prog 57 #[.agg #[.int .i64 l, .int .i64 s, .int .i64 t], .int .i64 now] w fun e w' => e = .returned (.tuple #[.float .f64 0, .int .i64 1]) ∧ Below w.heap.size w w' := by
  rcases hn with h1 | ⟨h1, h2⟩
  all_goals
    go_enter Try.func57, Try.ntmps57
    go_wp2_with fail
    refine (use_yes _ _ _ _ hm).mono ?_; rintro e w1 ⟨rfl, hb1⟩
    obtain ⟨hc1, hf1⟩ := bcell hb1
    go_wp2
    go_ret2
    exact ⟨rfl, ((Below.refl _ _).alloc (Nat.le_refl _) _).trans (hb1.mono (by simp))⟩

set_option maxHeartbeats 800000 in
theorem score_inf (l s t now : Int) (w : World) (hm : mayB l s t = true) (h1 : t ≤ now) (h2 : now ≤ 1099511627776) (hu : (feq (useF l s) 0) = true) :
    Calls Try.prog 57 #[.agg #[.int .i64 l, .int .i64 s, .int .i64 t], .int .i64 now] w fun e w' => e = .returned (.tuple #[.float .f64 infW, .int .i64 0]) ∧ Below w.heap.size w w' := by
  go_enter Try.func57, Try.ntmps57
  go_wp2_with fail
  refine (use_yes _ _ _ _ hm).mono ?_; rintro e w1 ⟨rfl, hb1⟩
  obtain ⟨hc1, hf1⟩ := bcell hb1
  go_wp2_with (go_at_call 65; refine (inf_any _).mono ?_; rintro e w' ⟨rfl, rfl⟩)
  go_ret2
  exact ⟨rfl, ((Below.refl _ _).alloc (Nat.le_refl _) _).trans (hb1.mono (by simp))⟩

set_option maxHeartbeats 1600000 in
theorem score_num (l s t now : Int) (w : World) (hm : mayB l s t = true) (h1 : t ≤ now) (h2 : now ≤ 1099511627776) (hu : (feq (useF l s) 0) = false) :
    Calls Try.prog 57 #[.agg #[.int .i64 l, .int .i64 s, .int .i64 t], .int .i64 now] w fun e w' => e = .returned (.tuple #[.float .f64 (worthF (useF l s) (now - t)), .int .i64 0]) ∧ Below w.heap.size w w' := by
  obtain ⟨m1, m2, m3, m4, m5⟩ := may_bounds hm
  go_enter Try.func57, Try.ntmps57
  go_wp2_with fail
  refine (use_yes _ _ _ _ hm).mono ?_; rintro e w1 ⟨rfl, hb1⟩
  obtain ⟨hc1, hf1⟩ := bcell hb1
  clear hm
  go_wp2_with (first | (refine wpList_fquo _ rfl _ _ _ _ rfl _ _ rfl rfl ?_; intro zq nq hzq hlq) | (refine wpList_fsub _ rfl _ _ _ _ rfl _ _ rfl rfl ?_; intro zs ns hzs hls) | (refine wpList_fmul _ rfl _ _ _ _ rfl _ _ rfl rfl ?_; intro zm nm hzm hlm) | (refine wpList_fadd _ rfl _ _ _ _ rfl _ _ rfl rfl ?_; intro za na hza hla) | (go_at_call 67; refine (bits_any _ _).mono ?_; rintro e w' ⟨rfl, rfl⟩) | (go_at_call 66; refine (from_any _ _).mono ?_; rintro e w' ⟨rfl, rfl⟩))
  go_ret2
  refine ⟨?_, below_drewN (((Below.refl _ _).alloc (Nat.le_refl _) _).trans (hb1.mono (by simp))) _⟩
  show Ending.returned (.tuple #[.float .f64 (canon (fdiv zm za)), .int .i64 0]) = _
  rw [canon_fdiv, worth_of hzs hzm hza]

/-- the score's two results: the number, the error -/
def scoreV (l s t now : Int) : Nat := if nowB l s t now then scoreF l s t now else 0
def rscoreV (l s t now : Int) : Nat := if nowB l s t now then rscoreF l s t now else 0
def scoreE (l s t now : Int) : Int := if nowB l s t now then 0 else 1

theorem score_any (l s t now : Int) (w : World) :
    Calls Try.prog 57 #[.agg #[.int .i64 l, .int .i64 s, .int .i64 t], .int .i64 now] w fun e w' => e = .returned (.tuple #[.float .f64 (scoreV l s t now), .int .i64 (scoreE l s t now)]) ∧ Below w.heap.size w w' := by
  cases hm : mayB l s t
  · have h : nowB l s t now = false := by unfold nowB; rw [hm]; rfl
    unfold scoreV scoreE; rw [h]
    exact score_no1 l s t now w hm
  · by_cases h1 : t ≤ now ∧ now ≤ 1099511627776
    · have h : nowB l s t now = true := by unfold nowB; rw [hm]; simp [h1]
      unfold scoreV scoreE scoreF; rw [h]
      cases hu : (feq (useF l s) 0)
      · exact score_num l s t now w hm h1.1 h1.2 hu
      · exact score_inf l s t now w hm h1.1 h1.2 hu
    · have h : nowB l s t now = false := by unfold nowB; rw [hm]; simp; omega
      unfold scoreV scoreE; rw [h]
      exact score_no2 l s t now w hm (by omega)

set_option maxHeartbeats 800000 in
theorem rscore_no1 (l s t now : Int) (w : World) (hm : mayB l s t = false) :
    Calls Try.prog 17 #[.agg #[.int .i64 l, .int .i64 s, .int .i64 t], .int .i64 now] w fun e w' => e = .returned (.tuple #[.float .f64 0, .int .i64 1]) ∧ Below w.heap.size w w' := by
  go_enter Try.func17, Try.ntmps17
  go_wp2_with fail
  refine (ruse_no _ _ _ _ hm).mono ?_; rintro e w1 ⟨rfl, hb1⟩
  go_wp2
  go_ret2
  exact ⟨rfl, ((Below.refl _ _).alloc (Nat.le_refl _) _).trans (hb1.mono (by simp))⟩

set_option maxHeartbeats 800000 in
theorem rscore_no2 (l s t now : Int) (w : World) (hm : mayB l s t = true) (hn : now < t ∨ (t ≤ now ∧ 1099511627776 < now)) :
    Calls Try.prog 17 #[.agg #[.int .i64 l, .int .i64 s, .int .i64 t], .int .i64 now] w fun e w' => e = .returned (.tuple #[.float .f64 0, .int .i64 1]) ∧ Below w.heap.size w w' := by
  rcases hn with h1 | ⟨h1, h2⟩
  all_goals
    go_enter Try.func17, Try.ntmps17
    go_wp2_with fail
    refine (ruse_yes _ _ _ _ hm).mono ?_; rintro e w1 ⟨rfl, hb1⟩
    obtain ⟨hc1, hf1⟩ := bcell hb1
    go_wp2
    go_ret2
    exact ⟨rfl, ((Below.refl _ _).alloc (Nat.le_refl _) _).trans (hb1.mono (by simp))⟩

theorem rfrom_cN (w : World) : Calls Try.prog 40 #[.int .u64 9221120237041090560] w fun e w' => e = .returned (.float .f64 cN) ∧ w = w' := by
  have h := rfrom_any 9221120237041090560 w
  rwa [show canon 9221120237041090560 = cN from canon_cN] at h
theorem rfrom_inf (w : World) : Calls Try.prog 40 #[.int .u64 9218868437227405312] w fun e w' => e = .returned (.float .f64 infW) ∧ w = w' := by
  have h := rfrom_any 9218868437227405312 w
  rwa [show canon 9218868437227405312 = infW from by decide] at h

set_option maxHeartbeats 1600000 in
theorem rscore_yes (l s t now : Int) (w : World) (hm : mayB l s t = true) (h1 : t ≤ now) (h2 : now ≤ 1099511627776) :
    Calls Try.prog 17 #[.agg #[.int .i64 l, .int .i64 s, .int .i64 t], .int .i64 now] w fun e w' => e = .returned (.tuple #[.float .f64 (rscoreF l s t now), .int .i64 0]) ∧ Below w.heap.size w w' := by
  obtain ⟨m1, m2, m3, m4, m5⟩ := may_bounds hm
  by_cases hs0 : s = 0
  · have e1 : rscoreF l s t now = cN := by unfold rscoreF; rw [if_pos hs0]
    rw [e1]; clear e1
    have hs0' : (s == 0) = true := by simpa using hs0
    clear hs0
    go_enter Try.func17, Try.ntmps17
    go_wp2_with fail
    refine (ruse_yes _ _ _ _ hm).mono ?_; rintro e w1 ⟨rfl, hb1⟩
    obtain ⟨hc1, hf1⟩ := bcell hb1
    go_wp2_with (go_at_call 40; refine (rfrom_cN _).mono ?_; rintro e w' ⟨rfl, rfl⟩)
    go_ret2
    exact ⟨rfl, ((Below.refl _ _).alloc (Nat.le_refl _) _).trans (hb1.mono (by simp))⟩
  · have hs1 : (s == 0) = false := by simpa using hs0
    by_cases hl0 : l = 0
    · have e1 : rscoreF l s t now = infW := by unfold rscoreF; rw [if_neg hs0, if_pos hl0]
      rw [e1]; clear e1 hs0
      have hl0' : (l == 0) = true := by simpa using hl0
      clear hl0
      go_enter Try.func17, Try.ntmps17
      go_wp2_with fail
      refine (ruse_yes _ _ _ _ hm).mono ?_; rintro e w1 ⟨rfl, hb1⟩
      obtain ⟨hc1, hf1⟩ := bcell hb1
      go_wp2_with (go_at_call 40; refine (rfrom_inf _).mono ?_; rintro e w' ⟨rfl, rfl⟩)
      go_ret2
      exact ⟨rfl, ((Below.refl _ _).alloc (Nat.le_refl _) _).trans (hb1.mono (by simp))⟩
    · have e1 : rscoreF l s t now = worthF (useF l s) (now - t) := by unfold rscoreF; rw [if_neg hs0, if_neg hl0]
      rw [e1]; clear e1 hs0
      have hl1 : (l == 0) = false := by simpa using hl0
      clear hl0
      go_enter Try.func17, Try.ntmps17
      go_wp2_with fail
      refine (ruse_yes _ _ _ _ hm).mono ?_; rintro e w1 ⟨rfl, hb1⟩
      obtain ⟨hc1, hf1⟩ := bcell hb1
      clear hm
      go_wp2_with (first | (refine wpList_fquo _ rfl _ _ _ _ rfl _ _ rfl rfl ?_; intro zq nq hzq hlq) | (refine wpList_fsub _ rfl _ _ _ _ rfl _ _ rfl rfl ?_; intro zs ns hzs hls) | (refine wpList_fmul _ rfl _ _ _ _ rfl _ _ rfl rfl ?_; intro zm nm hzm hlm) | (refine wpList_fadd _ rfl _ _ _ _ rfl _ _ rfl rfl ?_; intro za na hza hla))
      go_ret2
      refine ⟨?_, below_drewN (((Below.refl _ _).alloc (Nat.le_refl _) _).trans (hb1.mono (by simp))) _⟩
      show Ending.returned (.tuple #[.float .f64 zq, .int .i64 0]) = _
      rw [worth_of hzs hzm hza] at hzq
      have hs2 : 1 ≤ s := by have : s ≠ 0 := by simpa using hs1
                             omega
      obtain ⟨u1, u2, u3⟩ := use_bounds m1 m2 hs2 m3
      rw [eq_of_canon hzq (fin_not_nan (worth_parts u1 u2 u3 (a := now - t) (by omega) (by omega)).2.2.2.1)]

theorem rscore_any (l s t now : Int) (w : World) :
    Calls Try.prog 17 #[.agg #[.int .i64 l, .int .i64 s, .int .i64 t], .int .i64 now] w fun e w' => e = .returned (.tuple #[.float .f64 (rscoreV l s t now), .int .i64 (scoreE l s t now)]) ∧ Below w.heap.size w w' := by
  cases hm : mayB l s t
  · have h : nowB l s t now = false := by unfold nowB; rw [hm]; rfl
    unfold rscoreV scoreE; rw [h]
    exact rscore_no1 l s t now w hm
  · by_cases h1 : t ≤ now ∧ now ≤ 1099511627776
    · have h : nowB l s t now = true := by unfold nowB; rw [hm]; simp [h1]
      unfold rscoreV scoreE; rw [h]
      exact rscore_yes l s t now w hm h1.1 h1.2
    · have h : nowB l s t now = false := by unfold nowB; rw [hm]; simp; omega
      unfold rscoreV scoreE; rw [h]
      exact rscore_no2 l s t now w hm (by omega)

/-- both sides tell one score -/
theorem score_same (l s t now : Int) : scoreV l s t now = rscoreV l s t now := by
  unfold scoreV rscoreV
  cases hn : nowB l s t now
  · rfl
  · simp only [if_true]
    unfold nowB at hn
    rw [Bool.and_eq_true] at hn
    obtain ⟨m1, m2, m3, m4, m5⟩ := may_bounds hn.1
    have hnow := of_decide_eq_true hn.2
    unfold scoreF rscoreF
    by_cases hs : s = 0
    · have hl : l = 0 := by omega
      subst hs hl
      rw [use_unsized, worth_nan]; unfold feq; rw [nan_order_l 0 cN_nan]; rfl
    · rw [if_neg hs]
      obtain ⟨u1, u2, u3⟩ := use_bounds (l := l) m1 m2 (by omega) m3
      rw [feq_zero u1]
      by_cases hl : l = 0
      · subst hl
        rw [use_zero (by omega) m3]; rfl
      · have := use_pos (l := l) (by omega) m2 m3
        have := tiny_pos
        have h0 : rv (useF l s) ≠ 0 := by grind
        rw [if_neg hl, decide_eq_false h0]; rfl
end Go.Proofs.Ytkpnjehgbehhcaa
