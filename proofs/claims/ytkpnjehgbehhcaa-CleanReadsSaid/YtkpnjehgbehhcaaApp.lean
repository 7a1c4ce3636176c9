/- extmap's Apply: the pieces that only read. -/
import Derived.Test.YtkpnjehgbehhcaaGet
namespace Go.Proofs.Ytkpnjehgbehhcaa
open Go.RowKit

/-- do the first k LBAs rise? -/
def riseN (l : List Pt) : Nat → Bool
  | 0 => true
  | k + 1 => riseN l k && (k == 0 || decide ((l.getD (k - 1) (0, 0)).1 < (l.getD k (0, 0)).1))
def riseP (l : List Pt) : Bool := riseN l l.length && decide (0 < l.length)
theorem riseN_le {l : List Pt} {k : Nat} (h : riseN l k = true) : ∀ j, j ≤ k → riseN l j = true := by
  induction k with
  | zero => intro j hj; obtain rfl : j = 0 := by omega
            exact h
  | succ k ih =>
    intro j hj
    rcases Nat.lt_or_ge j (k + 1) with h' | h'
    · unfold riseN at h
      simp only [Bool.and_eq_true] at h
      exact ih h.1 j (by omega)
    · obtain rfl : j = k + 1 := by omega
      exact h

/-- an int of the first field, in every later world -/
def RdP (w : World) (B : Nat) (a : Option Addr) (l : List Pt) : Prop := ∀ i, i < l.length → ∃ b o u x c, a = some ⟨b, o, none⟩ ∧ u = .slice x (l.getD i (0, 0)).2 c ∧
  ∀ w', Hid (Below B w w') → w'.cell? ⟨b, o + i * 2, none⟩ = some (.int .i64 (l.getD i (0, 0)).1) ∧ w'.cell? ⟨b, o + i * 2 + 1, none⟩ = some u ∧ SlB w' u (l.getD i (0, 0)).2
theorem SlP.rd {w : World} {a : Option Addr} {m cap : Nat} {l : List Pt} (h : SlP w (.slice a m cap) l) {B : Nat} (hB : w.heap.size = B) : RdP w B a l := fun i hi => by
  obtain ⟨b, o, u, h1, h2, h3, h4, h5⟩ := h.at rfl hi
  obtain ⟨x, c, rfl⟩ := h5.form'
  refine ⟨b, o, _, x, c, h1, rfl, fun w' hb => ⟨?_, ?_, h5.below (by rw [hB]; exact hb.out)⟩⟩
  · rw [hb.out.cell (p := ⟨b, o + i * 2, none⟩) (by rw [← hB]; exact h2)]; exact h3
  · rw [hb.out.cell (p := ⟨b, o + i * 2 + 1, none⟩) (by rw [← hB]; exact h2)]; exact h4

set_option maxHeartbeats 1600000 in
set_option maxRecDepth 8000 in
theorem rise_any (v : Value) (l : List Pt) (w : World) (h : SlP w v l) :
    Calls Try.prog 45 #[v] w fun e w' => e = .returned (.bool (riseP l)) ∧ Below w.heap.size w w' := by
  obtain ⟨a, cap, rfl, ha, hle, hcap⟩ := SlG.form h
  generalize hB : w.heap.size = B
  have HC := Lib.hid (h.rd hB)
  have hb00 : Hid (Below B w w) := Below.refl B w
  have HR : Hid (∀ k, riseN l (k + 1) = (riseN l k && (k == 0 || decide ((l.getD (k - 1) (0, 0)).1 < (l.getD k (0, 0)).1)))) := fun k => rfl
  have HL : Hid (∀ {k}, riseN l k = true → ∀ j, j ≤ k → riseN l j = true) := fun h => riseN_le h
  have HP : Hid (riseP l = (riseN l l.length && decide (0 < l.length))) := rfl
  clear h hB
  go_enter Try.func45, Try.ntmps45
  go_wp2
  go_loopw [3] (fun i wr => ∃ k : Nat, 1 ≤ k ∧ (k ≤ l.length ∨ k = 1) ∧ i = .int .i64 k ∧ Hid (riseN l k = true) ∧ Hid (Below B w wr)) (fun i _ => l.length - (intOf i).toNat)
  case atStart => exact ⟨1, Nat.le_refl _, .inr rfl, rfl, rfl, hb00⟩
  case round =>
    obtain ⟨k, h1, hk, rfl, hr, hb⟩ := hrel
    by_cases hlt : k < l.length
    · obtain ⟨b, o, u, x, c, rfl, rfl, hcell⟩ := HC.out k hlt
      obtain ⟨b', o', u', x', c', hbo, rfl, hcell'⟩ := HC.out (k - 1) (by omega)
      simp only [Option.some.injEq, Addr.mk.injEq] at hbo
      obtain ⟨rfl, rfl, _⟩ := hbo
      obtain ⟨c1, _, _⟩ := hcell wr hb
      obtain ⟨c2, _, _⟩ := hcell' wr hb
      have HR1 : Hid (riseN l (k + 1) = decide ((l.getD (k - 1) (0, 0)).1 < (l.getD k (0, 0)).1)) := by
        have h5 := HR.out k
        show _ = _
        rw [h5, hr.out, show (k == 0) = false from beq_eq_false_iff_ne.2 (by omega)]
        simp
      have hkz : ((k : Int) - 1) = ((k - 1 : Nat) : Int) := by omega
      generalize (l.getD k (0, 0)).1 = p1 at *
      generalize (l.getD (k - 1) (0, 0)).1 = p2 at *
      have hkl : ((k - 1 : Nat) : Int) < (l.length : Int) := by omega
      generalize k - 1 = j at *
      have hwr : IntKind.i64.wrap (j : Int) = (j : Int) := IntWalk.i64_in _ (by omega)
      have hlt2 : (k : Int) < (l.length : Int) := by omega
      clear HC HR hcell hcell'
      by_cases hp : p1 ≤ p2
      · have hf : Hid (riseP l = false) := by
          have h5 := HR1.out
          rw [decide_eq_false (by omega)] at h5
          show riseP l = false
          rw [HP.out]
          cases hq : riseN l l.length
          · rfl
          · have h6 := HL.out hq (k + 1) (by omega)
            rw [h5] at h6
            cases h6
        clear HL HP HR1
        go_wp2
        go_quiet (fail)
        go_wp2
        go_ret
        exact ⟨by rw [hf.out]; rfl, below_drewN hb.out _⟩
      · have hd : decide (p1 ≤ p2) = false := decide_eq_false hp
        have hr2 : Hid (riseN l (k + 1) = true) := by
          have h5 := HR1.out
          rw [decide_eq_true (by omega)] at h5
          exact h5
        clear HL HP HR1
        go_wp2
        go_quiet (fail)
        go_wp2
        exact ⟨⟨k + 1, by omega, .inl (by omega), by go_num, hr2.out, below_drewN hb.out _⟩, by simp [intOf]; omega⟩
    · have hf : Hid (riseP l = decide (0 < l.length)) := by
        show riseP l = _
        rw [HP.out]
        by_cases h0 : l.length = 0
        · rw [h0]; rfl
        · have : k = l.length := by omega
          rw [← this, hr.out]; rfl
      clear HC HR HL HP
      go_wp2
      go_ret
      exact ⟨by rw [hf.out]; rfl, hb.out⟩

theorem app1_any (k : Int) (x : Option Addr) (n c : Nat) (w : World) :
    Calls Try.prog 47 #[.agg #[.int .i64 k, .slice x n c]] w fun e w' => e = .returned (.bool ((n : Int) != 40)) ∧ Below w.heap.size w w' := by
  have hbl : Hid (Below w.heap.size w (w.alloc (.cells #[.int .i64 k, .slice x n c] 65))) := (Below.refl _ _).alloc (Nat.le_refl _) _
  go_enter Try.func47, Try.ntmps47
  go_wp2
  go_ret
  exact ⟨rfl, hbl.out⟩

/-- are the first k puts of forty bytes each? -/
def fortyN (l : List Pt) : Nat → Bool
  | 0 => true
  | k + 1 => fortyN l k && !(((l.getD k (0, 0)).2 : Int) != 40)
theorem fortyN_le {l : List Pt} {k : Nat} (h : fortyN l k = true) : ∀ j, j ≤ k → fortyN l j = true := by
  induction k with
  | zero => intro j hj; obtain rfl : j = 0 := by omega
            exact h
  | succ k ih =>
    intro j hj
    rcases Nat.lt_or_ge j (k + 1) with h' | h'
    · unfold fortyN at h
      simp only [Bool.and_eq_true] at h
      exact ih h.1 j (by omega)
    · obtain rfl : j = k + 1 := by omega
      exact h
/-- what IndexFunc returns -/
def IxR (l : List Pt) (e : Ending) : Prop := ∃ r : Int, e = .returned (.int .i64 r) ∧ decide (0 ≤ r) = !fortyN l l.length ∧ -1 ≤ r

set_option maxHeartbeats 1600000 in
set_option maxRecDepth 8000 in
theorem ixp_any (v : Value) (l : List Pt) (w : World) (h : SlP w v l) :
    Calls Try.prog 56 #[v, .func (.func 47) #[] #[]] w fun e w' => IxR l e ∧ Below w.heap.size w w' := by
  obtain ⟨a, cap, rfl, ha, hle, hcap⟩ := SlG.form h
  generalize hB : w.heap.size = B
  have hB0 : Hid (B ≤ w.heap.size) := Nat.le_of_eq hB.symm
  have HC := Lib.hid (h.rd hB)
  have hb00 : Hid (Below B w w) := Below.refl B w
  have HR : Hid (∀ k, fortyN l (k + 1) = (fortyN l k && !(((l.getD k (0, 0)).2 : Int) != 40))) := fun k => rfl
  have HL : Hid (∀ {k}, fortyN l k = true → ∀ j, j ≤ k → fortyN l j = true) := fun h => fortyN_le h
  clear h hB
  go_enter Try.func56, Try.ntmps56
  go_wp2
  go_loopw [8] (fun i wr => ∃ k : Nat, k ≤ l.length ∧ i = .int .i64 k ∧ Hid (fortyN l k = true) ∧ Hid (Below B w wr)) (fun i _ => l.length - (intOf i).toNat)
  case atStart => exact ⟨0, Nat.zero_le _, rfl, rfl, hb00⟩
  case round =>
    obtain ⟨k, hk, rfl, hr, hb⟩ := hrel
    by_cases hlt : k < l.length
    · obtain ⟨b, o, u, x, c, rfl, rfl, hcell⟩ := HC.out k hlt
      obtain ⟨c1, c2, _⟩ := hcell wr hb
      have hS : Hid (B ≤ wr.heap.size) := Nat.le_trans hB0.out hb.out.size
      have HR1 : Hid (fortyN l (k + 1) = !(((l.getD k (0, 0)).2 : Int) != 40)) := by
        have h5 := HR.out k
        show _ = _
        rw [h5, hr.out]
        simp
      have hlt2 : (k : Int) < (l.length : Int) := by omega
      rename_i q
      clear HC HR hcell q
      generalize (l.getD k (0, 0)).2 = m at *
      generalize (l.getD k (0, 0)).1 = p1 at *
      by_cases hm : ((m : Int) != 40) = true
      · have hf : Hid (fortyN l l.length = false) := by
          have h5 := HR1.out
          rw [hm] at h5
          show _ = false
          cases hq : fortyN l l.length
          · rfl
          · have h6 := HL.out hq (k + 1) (by omega)
            rw [h5] at h6
            cases h6
        clear HL HR1
        go_wp2_with (go_at_call 47; refine (app1_any p1 x m c _).mono ?_; rintro e w1 ⟨rfl, hb1⟩; have hb2 : Hid (Below B w w1) := hb.out.trans (hb1.mono hS.out); clear hb1)
        go_ret
        refine ⟨⟨(k : Int), rfl, ?_, by omega⟩, hb2.out⟩
        rw [hf.out, decide_eq_true (by omega : (0 : Int) ≤ k)]
        rfl
      · have hm0 : ((m : Int) != 40) = false := by simpa using hm
        have hr2 : Hid (fortyN l (k + 1) = true) := by
          have h5 := HR1.out
          rw [hm0] at h5
          exact h5
        clear HL HR1 hm
        go_wp2_with (go_at_call 47; refine (app1_any p1 x m c _).mono ?_; rintro e w1 ⟨rfl, hb1⟩; have hb2 : Hid (Below B w w1) := hb.out.trans (hb1.mono hS.out); clear hb1)
        exact ⟨⟨k + 1, by omega, by go_num, hr2.out, hb2.out⟩, by simp [intOf]; omega⟩
    · have hf : Hid (fortyN l l.length = true) := by
        have : k = l.length := by omega
        rw [← this]; exact hr
      clear HC HR HL
      go_wp2
      go_ret
      exact ⟨⟨-1, rfl, by rw [hf.out]; rfl, Int.le_refl _⟩, hb.out⟩

theorem cfp_any (v : Value) (l : List Pt) (w : World) (h : SlP w v l) :
    Calls Try.prog 46 #[v, .func (.func 47) #[] #[]] w fun e w' => e = .returned (.bool (!fortyN l l.length)) ∧ Below w.heap.size w w' := by
  have CI := Lib.hid (ixp_any v l w h)
  clear h
  go_enter Try.func46, Try.ntmps46
  go_wp2_with (go_at_call 56; refine CI.out.mono ?_; rintro e w1 ⟨⟨r, rfl, hr, hr1⟩, hb1⟩; have HR := Lib.hid hr; have HB := Lib.hid hb1; clear hr hb1)
  trace_state
  go_ret
  exact ⟨by rw [← HR.out]; rfl, HB.out⟩
end Go.Proofs.Ytkpnjehgbehhcaa
