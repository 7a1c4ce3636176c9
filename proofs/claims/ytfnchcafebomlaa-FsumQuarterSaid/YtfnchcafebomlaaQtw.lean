/- The walk of the program's Quantile. -/
import Derived.Test.YtfnchcafebomlaaQtp
import Derived.Test.YtfnchcafebomlaaOwn1
import Derived.Test.YtfnchcafebomlaaOwn3
import Derived.Test.YtfnchcafebomlaaAbs
import Derived.Test.YtfnchcafebomlaaFsame
import Derived.Test.YtfnchcafebomlaaSd
import Derived.Deep.RegionLaw
namespace Go.Proofs.Ytfnchcafebomlaa
open Go.RowKit Fl

theorem float_runs2 (op : BinOp) (hop : op = .add ∨ op = .sub ∨ op = .mul ∨ op = .quo) (t : TypeId) :
    ∃ (Z : Nat → Nat → World → Nat) (N : Nat → Nat → World → Nat), (∀ x y w, (Go.binOp op t (.float .f64 x) (.float .f64 y)).run Try.prog w = .ok (.float .f64 (Z x y w)) (w.drewN (N x y w))) ∧ ∀ x y w, canon (Z x y w) = fop op x y :=
  ⟨fun x y w => (float_run (P := Try.prog) w op hop t x y).choose, fun x y w => (float_run (P := Try.prog) w op hop t x y).choose_spec.choose,
    fun x y w => (float_run (P := Try.prog) w op hop t x y).choose_spec.choose_spec.1, fun x y w => (float_run (P := Try.prog) w op hop t x y).choose_spec.choose_spec.2.1⟩
theorem fsame_quiet2 {x y : Nat} {b : Bool} (h : (canon x == canon y) = b) (w : World) (a n : Nat) :
    Calls Try.prog 37 #[.float .f64 x, .float .f64 y] (w.drewN (a + n)) fun e w'' => e = .returned (.bool b) ∧ ∃ m, w'' = w.drewN (a + m) := by
  have := fsame_any x y (w.drewN (a + n))
  rw [h] at this
  exact this.mono fun _ _ ⟨he, hm⟩ => ⟨he, n, hm.symm⟩

theorem run_archFloor {x : Nat} (h : fin x) (w : World) : (callFunc 46 #[.float .f64 x]).run Try.prog w = .ok (.value (.float .f64 (flW x))) w := by
  obtain ⟨m, i, hr, _⟩ := rv_read h
  have hd : FloatKind.f64.decode x = .number (sg x) m i := hr
  rw [run_callFunc_extern Try.func46 rfl rfl rfl rfl]
  have e : Go.Extern.MathFloor.toIntegral "math.archFloor" .down #[.float .f64 x] =
      (match FloatKind.f64.decode x with
      | .nan s t =>
        if FloatKind.f64.format.quiet t = t then pure (.float .f64 x) else do
        let kept ← choose (.extern "math.Floor,Ceil,Trunc,RoundToEven.signallingNaN kept" 2)
        pure (.float .f64 (if kept == 1 then x else FloatKind.f64.encode (.nan s (FloatKind.f64.format.quiet t))))
      | d => pure (.float .f64 (FloatKind.f64.encode (d.integral .down)))) := rfl
  rw [hd] at e
  have e2 : Go.Extern.MathFloor.toIntegral "math.archFloor" .down #[.float .f64 x] = pure (.float .f64 (flW x)) := by
    rw [e]; unfold flW; rw [hr]; rfl
  rw [e2]
  rfl

set_option maxHeartbeats 400000 in
theorem floor_any {x : Nat} (h : fin x) (w : World) :
    Calls Try.prog 36 #[.float .f64 x] w fun e w' => e = .returned (.float .f64 (flW x)) ∧ w = w' := by
  have hr := run_archFloor h
  generalize flW x = y at *
  go_enter Try.func36, Try.ntmps36
  go_wp2
  go_ret
  exact ⟨rfl, rfl⟩

set_option maxHeartbeats 400000 in
set_option maxRecDepth 8000 in
theorem quant_nil (a : Option Addr) (cap q : Nat) (w : World) :
    Calls Try.prog 25 #[.slice a 0 cap, .float .f64 q] w fun e w' => e = .returned (.tuple #[.float .f64 0, .int .i64 14]) ∧ w = w' := by
  go_enter Try.func25, Try.ntmps25
  go_wp2
  go_ret2
  exact ⟨rfl, rfl⟩

set_option maxHeartbeats 800000 in
set_option maxRecDepth 8000 in
theorem quant_out (a : Option Addr) (n cap q : Nat) (h0 : 0 < n) (hq : inB q = false) (w : World) :
    Calls Try.prog 25 #[.slice a n cap, .float .f64 q] w fun e w' => e = .returned (.tuple #[.float .f64 0, .int .i64 1]) ∧ w = w' := by
  have hne : ((n : Int) == 0) = false := beq_eq_false_iff_ne.2 (by omega)
  have h : fge q 0 = false ∨ (fge q 0 = true ∧ fle q 4607182418800017408 = false) := by
    unfold inB at hq
    cases h : fge q 0
    · exact .inl rfl
    · rw [h, Bool.true_and] at hq; exact .inr ⟨rfl, hq⟩
  clear hq
  rcases h with h | ⟨h, h2⟩
  all_goals
    go_enter Try.func25, Try.ntmps25
    go_wp2
    go_ret2
    exact ⟨rfl, rfl⟩

theorem qpart_fin {n q : Nat} (hn : 1 ≤ n) (hn2 : n ≤ 1000000) (h : inB q = true) : fin (qpart n q) ∧ 0 ≤ rv (qpart n q) ∧ rv (qpart n q) ≤ 1 ∧ RN (rv (qk n q) - (qlow n q : Rat)) (qpart n q) := by
  obtain ⟨k1, k2, k3, _⟩ := qk_facts hn hn2 h
  obtain ⟨l1, l2, l3, l4, l5⟩ := qlow_facts hn hn2 h
  obtain ⟨i1, i2⟩ := ofInt_fin ((qlow n q : Nat) : Int) (by omega)
  have hr := fsub_rn k1 i1
  rw [i2, Rat.intCast_natCast] at hr
  have hb := hr.between Rep.zero (rep_nat 1 (by omega)) (by grind) (by
    rw [Rat.natCast_add] at l2
    grind)
  exact ⟨hb.1, hb.2.1, hb.2.2, hr⟩

set_option maxHeartbeats 3200000 in
set_option maxRecDepth 8000 in
theorem quant_in (a : Option Addr) (m cap q : Nat) (l : List Nat) (hlm : l.length = m + 1) (hm : m < 1000000) (hq : inB q = true) (hbd : ∀ x ∈ l, x < 2^64) (w : World) (h : Sl encF w (.slice a (m + 1) cap) l) :
    Calls Try.prog 25 #[.slice a (m + 1) cap, .float .f64 q] w fun e w' => e = .returned (.tuple #[.float .f64 (quantS l q), .int .i64 0]) ∧ Below w.heap.size w w' := by
  have hne : ((m : Int) + 1 == 0) = false := beq_eq_false_iff_ne.2 (by omega)
  obtain ⟨q1, q2⟩ : fge q 0 = true ∧ fle q 4607182418800017408 = true := by
    unfold inB at hq; rw [Bool.and_eq_true] at hq; exact hq
  have hst := sort_any _ l hbd (by rw [hlm]; omega) w h
  obtain ⟨k1, k2, k3, k4⟩ := qk_facts (n := m + 1) (by omega) (by omega) hq
  obtain ⟨l1, l2, l3, l4, l5⟩ := qlow_facts (n := m + 1) (by omega) (by omega) hq
  obtain ⟨p1, p2, p3, p4⟩ := qpart_fin (n := m + 1) (by omega) (by omega) hq
  have RK : Hid (∀ z, canon z = fmul q (floatOfInt .f64 (m : Int)) → z = qk (m + 1) q) := fun z hz => canon_eq_of hz (fin_nan k1)
  have RP : Hid (∀ z, canon z = fsub (qk (m + 1) q) (floatOfInt .f64 (qlow (m + 1) q : Int)) → z = qpart (m + 1) q) := fun z hz => canon_eq_of hz (fin_nan p1)
  have FL := Lib.hid (floor_any k1)
  have hcv : ∀ w, (convert 25 3 (.float .f64 (flW (qk (m + 1) q)))).run Try.prog w = .ok (.int .i64 (qlow (m + 1) q : Int)) w := fun w =>
    run_convert_float_int _ _ _ _ _ _ _ (by rw [Try.underlying25]; rfl) Try.underlying3 l3
  have hS : Hid (quantS l q = if isNaN ((sortF l).getD m 0) then cN else quantAt (sortF l) (m + 1) q) := by show _ = _; unfold quantS; rw [hlm]; rfl
  have hsl : Hid ((sortF l).length = m + 1) := by show _ = _; rw [sortF_len]; exact hlm
  have hql : qlow (m + 1) q ≤ m := l4
  obtain ⟨hi, hhi⟩ : ∃ hi, min (qlow (m + 1) q + 1) m = hi := ⟨_, rfl⟩
  have hqa : Hid (quantAt (sortF l) (m + 1) q = if (canon ((sortF l).getD (qlow (m + 1) q) 0) == canon ((sortF l).getD hi 0) || feq (qpart (m + 1) q) 0) = true then (sortF l).getD (qlow (m + 1) q) 0
      else if isNaN (qline ((sortF l).getD (qlow (m + 1) q) 0) ((sortF l).getD hi 0) (qpart (m + 1) q)) then (sortF l).getD (qlow (m + 1) q) 0
      else qline ((sortF l).getD (qlow (m + 1) q) 0) ((sortF l).getD hi 0) (qpart (m + 1) q)) := by rw [← hhi]; rfl
  have hmin : min ((qlow (m + 1) q : Int) + 1) (m : Int) = (hi : Int) := by omega
  have hhm : hi ≤ m := by omega
  clear hhi
  clear k1 k2 k3 k4 l1 l2 l3 l4 l5 p1 p2 p3 p4 hq h hbd hlm
  generalize quantAt (sortF l) (m + 1) q = QA at *
  generalize flW (qk (m + 1) q) = fw at *
  generalize qk (m + 1) q = k at *
  generalize qlow (m + 1) q = lo at *
  generalize qpart (m + 1) q = p at *
  have hst' : Calls Try.prog 35 #[.slice a (m + 1) cap] w fun e w' => ∃ g cp, e = .returned (.slice (some ⟨g, 0, none⟩) (m + 1) cp) ∧ (∀ j, j ≤ m → w'.cell? ⟨g, j, none⟩ = some (.float .f64 ((sortF l).getD j 0))) ∧ Below w.heap.size w w' := by
    refine hst.mono ?_
    rintro e w' ⟨v', rfl, ho, hb⟩
    obtain ⟨g, cp, rfl, _, _, hr⟩ := ho.read (by intro h0; have := hsl.out; rw [h0] at this; simp at this)
    refine ⟨g, cp, by rw [hsl.out], fun j hj => ?_, hb⟩
    have hj' : j < (sortF l).length := by rw [hsl.out]; omega
    rw [hr j hj', List.getD_eq_getElem?_getD, List.getElem?_eq_getElem hj']; rfl
  have HST := Lib.hid hst'
  clear hst hst'
  generalize sortF l = s at *
  go_enter Try.func25, Try.ntmps25
  go_wp2_with fail
  refine HST.out.mono ?_
  rintro e w1 ⟨g, cp, rfl, hc, hb1⟩
  have HB1 := Lib.hid hb1
  have hcm := hc m (Nat.le_refl _)
  have HC := Lib.hid hc
  clear hc hb1 HST
  have hwr : IntKind.i64.wrap ((m : Int)) = m := IntWalk.i64_in _ (by omega)
  cases hN : isNaN (s.getD m 0)
  · have e1 := hS.out
    rw [hN] at e1
    have E1 : Hid (quantS l q = QA) := e1
    clear e1 hS
    generalize s.getD m 0 = sm at *
    go_wp2
    go_quiet (fail)
    clear hwr
    go_wp2_with (first
      | (refine wpList_fmul _ rfl _ _ _ _ rfl _ _ rfl rfl ?_; intro z n hz hl; obtain rfl := RK.out _ hz; clear hz)
      | (go_at_call 36; refine (FL.out _).mono ?_; rintro e w' ⟨rfl, rfl⟩)
      | (refine wpList_fsub _ rfl _ _ _ _ rfl _ _ rfl rfl ?_; intro z n hz hl; obtain rfl := RP.out _ hz; clear hz))
    have hclo := HC.out lo hql
    have hchi := HC.out hi hhm
    generalize s.getD lo 0 = A0 at *
    generalize s.getD hi 0 = B0 at *
    cases hb : (canon A0 == canon B0)
    · cases hp : feq z 0
      · have HB := Lib.hid hb
        have e2 := hqa.out
        rw [hb, hp] at e2
        have E2 : Hid (QA = if isNaN (qline A0 B0 z) then A0 else qline A0 B0 z) := e2
        obtain ⟨Zs, Ns, runs, hZs⟩ := float_runs2 .sub (.inr (.inl rfl)) 25
        obtain ⟨Zm, Nm, runm, hZm⟩ := float_runs2 .mul (.inr (.inr (.inl rfl))) 25
        obtain ⟨Za, Na, runa, hZa⟩ := float_runs2 .add (.inl rfl) 25
        have HX : Hid (∀ x y w1 w2 w3, canon (Za x (Zm y (Zs B0 A0 w1) w2) w3) = fadd x (fmul y (fsub B0 A0))) := fun x y w1 w2 w3 => by
          rw [hZa]
          show fadd _ _ = _
          rw [← fadd_canon_r, hZm]
          show fadd _ (fmul _ _) = _
          rw [← fmul_canon_r, hZs]; rfl
        clear hb e2 hqa hZs hZm hZa
        cases hx : isNaN (qline A0 B0 z)
        · have hnx : ∀ w1 w2 w3, isNaN (Za A0 (Zm z (Zs B0 A0 w1) w2) w3) = false := fun w1 w2 w3 => by
            rw [← isNaN_canon, HX.out]; exact hx
          have e3 := E2.out
          rw [hx] at e3
          have HE : Hid (∀ w1 w2 w3, Za A0 (Zm z (Zs B0 A0 w1) w2) w3 = QA) := fun w1 w2 w3 => by
            have h := canon_eq_of (HX.out A0 z w1 w2 w3) hx
            rw [h, e3]; rfl
          clear hx e3 E2
          go_quiet ((go_at_call 37; exact fsame_quiet2 HB.out _ _ _))
          go_wp2
          go_region
          all_goals
            go_wp2
            go_ret2
            exact ⟨by rw [E1.out, ← HE.out]; rfl, below_drewN HB1.out _⟩
        · have hnx : ∀ w1 w2 w3, isNaN (Za A0 (Zm z (Zs B0 A0 w1) w2) w3) = true := fun w1 w2 w3 => by
            rw [← isNaN_canon, HX.out]; exact hx
          have e3 := E2.out
          rw [hx] at e3
          have HE : Hid (QA = A0) := e3
          clear hx e3 E2
          go_quiet ((go_at_call 37; exact fsame_quiet2 HB.out _ _ _))
          go_wp2
          go_region
          all_goals
            go_wp2
            go_ret2
            exact ⟨by rw [E1.out, HE.out]; rfl, below_drewN HB1.out _⟩
      · have HB := Lib.hid hb
        have e2 := hqa.out
        rw [hb, hp] at e2
        have E2 : Hid (QA = A0) := e2
        clear hb e2 hqa
        go_quiet ((go_at_call 37; exact fsame_quiet2 HB.out _ _ _))
        go_wp2
        go_ret2
        exact ⟨by rw [E1.out, E2.out]; rfl, below_drewN HB1.out _⟩
    · have HB := Lib.hid hb
      have e2 := hqa.out
      rw [hb, Bool.true_or] at e2
      have E2 : Hid (QA = A0) := e2
      clear hb e2 hqa
      go_quiet ((go_at_call 37; exact fsame_quiet2 HB.out _ _ _))
      go_wp2
      go_ret2
      exact ⟨by rw [E1.out, E2.out]; rfl, below_drewN HB1.out _⟩
  · have e1 := hS.out
    rw [hN] at e1
    have E1 : Hid (quantS l q = cN) := e1
    have E2 := Lib.hid (canon_of_nan hN)
    clear e1 hS
    generalize s.getD m 0 = sm at *
    go_wp2
    go_quiet (fail)
    go_wp2_with (go_at_call 31; refine (plain_any _ _).mono ?_; rintro e w' ⟨rfl, rfl⟩; rw [E2.out])
    go_ret2
    exact ⟨by rw [E1.out]; rfl, below_drewN HB1.out _⟩

theorem quantile_any (v : Value) (l : List Nat) (q : Nat) (hl : l.length ≤ 1000000) (hbd : ∀ x ∈ l, x < 2^64) (w : World) (h : Sl encF w v l) :
    Calls Try.prog 25 #[v, .float .f64 q] w fun e w' => e = .returned (.tuple #[.float .f64 (quantV l q), .int .i64 (quantE l q)]) ∧ Below w.heap.size w w' := by
  obtain ⟨a, cap, rfl, _⟩ := id h
  by_cases h0 : l = []
  · subst h0
    refine (quant_nil a cap q w).mono ?_
    rintro e w' ⟨rfl, rfl⟩
    exact ⟨rfl, Below.refl _ _⟩
  · have hp : 0 < l.length := List.length_pos_iff.2 h0
    unfold quantV quantE
    rw [if_neg h0, if_neg h0]
    cases hq : inB q
    · refine (quant_out a l.length cap q hp hq w).mono ?_
      rintro e w' ⟨rfl, rfl⟩
      exact ⟨rfl, Below.refl _ _⟩
    · obtain ⟨m, hm⟩ : ∃ m, l.length = m + 1 := ⟨l.length - 1, by omega⟩
      have h' := h
      rw [hm] at h' ⊢
      exact quant_in a m cap q l hm (by omega) hq hbd w h'
end Go.Proofs.Ytfnchcafebomlaa
