/- The walk of the reference's Quantile. -/
import Derived.Test.YtfnchcafebomlaaQtw
import Derived.Test.YtfnchcafebomlaaRs
import Derived.Test.YtfnchcafebomlaaSame
import Derived.Test.YtfnchcafebomlaaQtn
namespace Go.Proofs.Ytfnchcafebomlaa
open Go.RowKit Fl

theorem rsame_quiet2 {x y : Nat} {b : Bool} (h : (canon x == canon y) = b) (w : World) (a n : Nat) :
    Calls Try.prog 17 #[.float .f64 x, .float .f64 y] (w.drewN (a + n)) fun e w'' => e = .returned (.bool b) ∧ ∃ m, w'' = w.drewN (a + m) := by
  have := same_any x y (w.drewN (a + n))
  rw [h] at this
  exact this.mono fun _ _ ⟨he, hm⟩ => ⟨he, n, hm.symm⟩

set_option maxHeartbeats 400000 in
set_option maxRecDepth 8000 in
theorem rquant_nil (a : Option Addr) (cap q : Nat) (w : World) :
    Calls Try.prog 26 #[.slice a 0 cap, .float .f64 q] w fun e w' => e = .returned (.tuple #[.float .f64 0, .int .i64 14]) ∧ w = w' := by
  go_enter Try.func26, Try.ntmps26
  go_wp2
  go_ret2
  exact ⟨rfl, rfl⟩

set_option maxHeartbeats 800000 in
set_option maxRecDepth 8000 in
theorem rquant_out (a : Option Addr) (n cap q : Nat) (h0 : 0 < n) (hq : inB q = false) (w : World) :
    Calls Try.prog 26 #[.slice a n cap, .float .f64 q] w fun e w' => e = .returned (.tuple #[.float .f64 0, .int .i64 1]) ∧ w = w' := by
  have hne : ((n : Int) == 0) = false := beq_eq_false_iff_ne.2 (by omega)
  have h := inB_no hq
  clear hq
  rcases h with h | ⟨h, h2⟩ | ⟨h, h2, h3⟩
  all_goals
    go_enter Try.func26, Try.ntmps26
    go_wp2
    go_ret2
    exact ⟨rfl, rfl⟩

set_option maxHeartbeats 3200000 in
set_option maxRecDepth 8000 in
theorem rquant_in (a : Option Addr) (m cap q : Nat) (l : List Nat) (hlm : l.length = m + 1) (hm : m < 1000000) (hq : inB q = true) (hbd : ∀ x ∈ l, x < 2^64) (w : World) (h : Sl encF w (.slice a (m + 1) cap) l) :
    Calls Try.prog 26 #[.slice a (m + 1) cap, .float .f64 q] w fun e w' => e = .returned (.tuple #[.float .f64 (quantS l q), .int .i64 0]) ∧ Below w.heap.size w w' := by
  have hne : ((m : Int) + 1 == 0) = false := beq_eq_false_iff_ne.2 (by omega)
  obtain ⟨q1, q2, q3⟩ := inB_yes hq
  have hst := rsort_any _ l (by rw [hlm]; omega) w h
  have hpz := part_zero (n := m + 1) (by omega) (by omega) hq
  obtain ⟨k1, k2, k3, k4⟩ := qk_facts (n := m + 1) (by omega) (by omega) hq
  obtain ⟨l1, l2, l3, l4, l5⟩ := qlow_facts (n := m + 1) (by omega) (by omega) hq
  obtain ⟨p1, p2, p3, p4⟩ := qpart_fin (n := m + 1) (by omega) (by omega) hq
  have RK : Hid (∀ z, canon z = fmul q (floatOfInt .f64 (m : Int)) → z = qk (m + 1) q) := fun z hz => canon_eq_of hz (fin_nan k1)
  have RP : Hid (∀ z, canon z = fsub (qk (m + 1) q) (floatOfInt .f64 (qlow (m + 1) q : Int)) → z = qpart (m + 1) q) := fun z hz => canon_eq_of hz (fin_nan p1)
  have FL := Lib.hid (floor_any k1)
  have hcv : ∀ w, (convert 25 3 (.float .f64 (flW (qk (m + 1) q)))).run Try.prog w = .ok (.int .i64 (qlow (m + 1) q : Int)) w := fun w =>
    run_convert_float_int _ _ _ _ _ _ _ (by rw [Try.underlying25]; rfl) Try.underlying3 l3
  have hS : Hid (quantS l q = if isNaN ((sortF l).getD m 0) then cN else quantAt (sortF l) (m + 1) q) := by show _ = _; unfold quantS; rw [hlm]; rfl
  have hsl : Hid ((sortF l).length = m + 1) := by show _ = _; rw [sortF_len]; exact hlm
  have hql : qlow (m + 1) q ≤ m := l4
  obtain ⟨hi, hhi⟩ : ∃ hi, min (qlow (m + 1) q + 1) m = hi := ⟨_, rfl⟩
  have hqa : Hid (quantAt (sortF l) (m + 1) q = if (canon ((sortF l).getD (qlow (m + 1) q) 0) == canon ((sortF l).getD hi 0) || feq (qpart (m + 1) q) 0) = true then (sortF l).getD (qlow (m + 1) q) 0
      else if isNaN (qline ((sortF l).getD (qlow (m + 1) q) 0) ((sortF l).getD hi 0) (qpart (m + 1) q)) then (sortF l).getD (qlow (m + 1) q) 0
      else qline ((sortF l).getD (qlow (m + 1) q) 0) ((sortF l).getD hi 0) (qpart (m + 1) q)) := by rw [← hhi]; rfl
  have hmin : min ((qlow (m + 1) q : Int) + 1) (m : Int) = (hi : Int) := by omega
  have hhm : hi ≤ m := by omega
  clear hhi
  clear k1 k2 k3 k4 l1 l2 l3 l4 l5 p1 p2 p3 p4 hq h
  generalize quantAt (sortF l) (m + 1) q = QA at *
  generalize flW (qk (m + 1) q) = fw at *
  generalize qk (m + 1) q = k at *
  generalize qlow (m + 1) q = lo at *
  generalize qpart (m + 1) q = p at *
  have hst' : Calls Try.prog 27 #[.slice a (m + 1) cap] w fun e w' => ∃ g cp s, e = .returned (.slice (some ⟨g, 0, none⟩) (m + 1) cp) ∧ isNaN (s.getD m 0) = isNaN ((sortF l).getD m 0) ∧ (isNaN ((sortF l).getD m 0) = false → s = sortF l) ∧ (∀ j, j ≤ m → w'.cell? ⟨g, j, none⟩ = some (.float .f64 (s.getD j 0))) ∧ Below w.heap.size w w' := by
    refine hst.mono ?_
    rintro e w' ⟨v', s, rfl, hr, ho, hb⟩
    have hsl2 : s.length = m + 1 := by rw [hr.len]; exact hlm
    obtain ⟨g, cp, rfl, _, _, hrd⟩ := ho.read (by intro h0; rw [h0] at hsl2; simp at hsl2)
    obtain ⟨n1, n2⟩ := sorted_raw hr hbd (by omega : m < s.length)
    refine ⟨g, cp, s, by rw [hsl2], n1, fun hn => n2 (by omega) hn, fun j hj => ?_, hb⟩
    have hj' : j < s.length := by omega
    rw [hrd j hj', List.getD_eq_getElem?_getD, List.getElem?_eq_getElem hj']; rfl
  have HST := Lib.hid hst'
  clear hst hst' hbd hlm
  generalize sortF l = s at *
  have HPZ := Lib.hid hpz
  clear hpz
  go_enter Try.func26, Try.ntmps26
  go_wp2_with fail
  refine HST.out.mono ?_
  rintro e w1 ⟨g, cp, s2, rfl, hnn, hss, hc, hb1⟩
  have HB1 := Lib.hid hb1
  have HSS := Lib.hid hss
  have hcm := hc m (Nat.le_refl _)
  have HC := Lib.hid hc
  clear hc hb1 HST hss
  have hwr : IntKind.i64.wrap ((m : Int)) = m := IntWalk.i64_in _ (by omega)
  cases hN : isNaN (s.getD m 0)
  · obtain rfl := HSS.out hN
    have e1 := hS.out
    rw [hN] at e1
    have E1 : Hid (quantS l q = QA) := e1
    clear e1 hS hnn
    generalize s2.getD m 0 = sm at *
    go_wp2
    go_quiet (fail)
    clear hwr
    go_wp2_with (first
      | (refine wpList_fmul _ rfl _ _ _ _ rfl _ _ rfl rfl ?_; intro z n hz hl; obtain rfl := RK.out _ hz; clear hz)
      | (go_at_call 36; refine (FL.out _).mono ?_; rintro e w' ⟨rfl, rfl⟩))
    have hclo := HC.out lo hql
    have hchi := HC.out hi hhm
    generalize s2.getD lo 0 = A0 at *
    generalize s2.getD hi 0 = B0 at *
    cases hb : (canon A0 == canon B0)
    · have HB := Lib.hid hb
      cases hp : feq p 0
      · have e2 := hqa.out
        rw [hb, hp] at e2
        have E2 : Hid (QA = if isNaN (qline A0 B0 p) then A0 else qline A0 B0 p) := e2
        have hpp := HPZ.out
        rw [hp] at hpp
        obtain ⟨Zs, Ns, runs, hZs⟩ := float_runs2 .sub (.inr (.inl rfl)) 25
        have HX : Hid (∀ w1 z2 z3, canon z2 = fmul p (Zs B0 A0 w1) → canon z3 = fadd A0 z2 → canon z3 = qline A0 B0 p) := fun w1 z2 z3 h2 h3 => by
          rw [h3, ← fadd_canon_r, h2, ← fmul_canon_r, hZs]; rfl
        clear hb e2 hqa hZs hp HPZ
        cases hx : isNaN (qline A0 B0 p)
        · have e3 := E2.out
          rw [hx] at e3
          have HE : Hid (∀ z3, canon z3 = qline A0 B0 p → isNaN z3 = false ∧ z3 = QA) := fun z3 h3 => by
            have h := canon_eq_of h3 hx
            exact ⟨by rw [h]; exact hx, by rw [h, e3]; rfl⟩
          clear hx e3 E2
          go_quiet ((go_at_call 17; exact rsame_quiet2 HB.out _ _ _))
          go_wp2_with (refine wpList_fsub _ rfl _ _ _ _ rfl _ _ rfl rfl ?_; intro z n hz hl; obtain rfl := RP.out _ hz; clear hz)
          go_region
          all_goals
            go_wp2_with (first
              | (refine wpList_fmul _ rfl _ _ _ _ rfl _ _ rfl rfl ?_; intro z2 n2 hz2 hl2; have HZ2 := Lib.hid hz2; clear hz2)
              | (refine wpList_fadd _ rfl _ _ _ _ rfl _ _ rfl rfl ?_; intro z3 n3 hz3 hl3; obtain ⟨hnn, hq3⟩ := HE.out _ (HX.out _ _ _ HZ2.out hz3); have HQ3 := Lib.hid hq3; clear hz3 hq3))
            go_ret2
            exact ⟨by rw [E1.out, ← HQ3.out]; rfl, below_drewN HB1.out _⟩
        · have e3 := E2.out
          rw [hx] at e3
          have HQ3 : Hid (QA = A0) := e3
          have HE : Hid (∀ z3, canon z3 = qline A0 B0 p → isNaN z3 = true) := fun z3 h3 => by
            rw [← isNaN_canon, h3]; exact hx
          clear hx e3 E2
          go_quiet ((go_at_call 17; exact rsame_quiet2 HB.out _ _ _))
          go_wp2_with (refine wpList_fsub _ rfl _ _ _ _ rfl _ _ rfl rfl ?_; intro z n hz hl; obtain rfl := RP.out _ hz; clear hz)
          go_region
          all_goals
            go_wp2_with (first
              | (refine wpList_fmul _ rfl _ _ _ _ rfl _ _ rfl rfl ?_; intro z2 n2 hz2 hl2; have HZ2 := Lib.hid hz2; clear hz2)
              | (refine wpList_fadd _ rfl _ _ _ _ rfl _ _ rfl rfl ?_; intro z3 n3 hz3 hl3; have hnn := HE.out _ (HX.out _ _ _ HZ2.out hz3); clear hz3))
            go_ret2
            exact ⟨by rw [E1.out, HQ3.out]; rfl, below_drewN HB1.out _⟩
      · have e2 := hqa.out
        rw [hb, hp] at e2
        have E2 : Hid (QA = A0) := e2
        have hpp := HPZ.out
        rw [hp] at hpp
        clear hb e2 hqa hp HPZ
        go_quiet ((go_at_call 17; exact rsame_quiet2 HB.out _ _ _))
        go_wp2
        go_ret2
        exact ⟨by rw [E1.out, E2.out]; rfl, below_drewN HB1.out _⟩
    · have HB := Lib.hid hb
      have e2 := hqa.out
      rw [hb, Bool.true_or] at e2
      have E2 : Hid (QA = A0) := e2
      clear hb e2 hqa HPZ
      go_quiet ((go_at_call 17; exact rsame_quiet2 HB.out _ _ _))
      go_wp2
      go_ret2
      exact ⟨by rw [E1.out, E2.out]; rfl, below_drewN HB1.out _⟩
  · rw [hN] at hnn
    have e1 := hS.out
    rw [hN] at e1
    have E1 : Hid (quantS l q = cN) := e1
    clear e1 hS hN
    generalize s2.getD m 0 = sm at *
    have HCC : Hid (canon 9221120237041090560 = cN) := canon_cN
    go_wp2
    go_quiet (fail)
    go_wp2_with (go_at_call 34; refine (rfrom_any _ _).mono ?_; rintro e w' ⟨rfl, rfl⟩; rw [HCC.out])
    go_ret2
    exact ⟨by rw [E1.out]; rfl, below_drewN HB1.out _⟩

theorem rquantile_any (v : Value) (l : List Nat) (q : Nat) (hl : l.length ≤ 1000000) (hbd : ∀ x ∈ l, x < 2^64) (w : World) (h : Sl encF w v l) :
    Calls Try.prog 26 #[v, .float .f64 q] w fun e w' => e = .returned (.tuple #[.float .f64 (quantV l q), .int .i64 (quantE l q)]) ∧ Below w.heap.size w w' := by
  obtain ⟨a, cap, rfl, _⟩ := id h
  by_cases h0 : l = []
  · subst h0
    refine (rquant_nil a cap q w).mono ?_
    rintro e w' ⟨rfl, rfl⟩
    exact ⟨rfl, Below.refl _ _⟩
  · have hp : 0 < l.length := List.length_pos_iff.2 h0
    unfold quantV quantE
    rw [if_neg h0, if_neg h0]
    cases hq : inB q
    · refine (rquant_out a l.length cap q hp hq w).mono ?_
      rintro e w' ⟨rfl, rfl⟩
      exact ⟨rfl, Below.refl _ _⟩
    · obtain ⟨m, hm⟩ : ∃ m, l.length = m + 1 := ⟨l.length - 1, by omega⟩
      have h' := h
      rw [hm] at h' ⊢
      exact rquant_in a m cap q l hm (by omega) hq hbd w h'
end Go.Proofs.Ytfnchcafebomlaa
