/- The walk of ForderPlaces: the law returns true. -/
import Derived.Test.YticpfopjffbgbaaWFfinds
import Derived.Test.YticpfopjffbgbaaWFsorts
import Derived.Test.YticpfopjffbgbaaFpl
namespace Go.Proofs.Yticpfopjffbgbaa
open Go.RowKit Fl

set_option maxHeartbeats 3200000 in
set_option maxRecDepth 8000 in
theorem places_small (x : Nat) (hx : x < 2^64) (a : Option Addr) (cap : Nat) (l : List Nat) (hl : l.length ≤ 300) (hbd : ∀ x ∈ l, x < 2^64) (w : World) (hS : Sl encF w (.slice a l.length cap) l) :
    Calls Try.prog 9 #[.slice a l.length cap, .float .f64 x] w fun e w' => e = .returned (.bool true) ∧ Below w.heap.size w w' := by
  generalize hB : w.heap.size = B
  have HL : Hid (∀ w', Hid (Below B w w') → Sl encF w' (.slice a l.length cap) l) := fun w' h => hS.below (Nat.le_of_eq hB) h.out
  have l8 : l.length * 8 ≤ 140737488351232 := by omega
  have C1 := Lib.hid (rsort_any (.slice a l.length cap) l l8 w hS)
  have C4 : Hid (∀ m, RSL l m → ∀ w' v', Sl encF w' v' m → Fz w' v' m → Calls Try.prog 24 #[v', .float .f64 x] w' fun e w2 => e = .returned (.tuple #[.int .i64 (findK m x), .bool (findB m x)]) ∧ Below w'.heap.size w' w2) := fun m hm w' v' h1 h2 =>
    find_any v' m x (by rw [hm.len]; omega) w' h1 h2
  have HP : Hid (∀ m, RSL l m → findK m x ≤ l.length ∧ (∀ t, t < findK m x → ckf (m.getD t 0) < ckf x) ∧ (∀ t, findK m x ≤ t → t < l.length → ckf x ≤ ckf (m.getD t 0))) := fun m hm => by
    have h := find_place hm.sorted x
    rw [hm.len] at h; exact h
  have HM : Hid (∀ m, RSL l m → findB m x = l.any (fun y => canon y == canon x)) := fun m hm => find_met hm hbd hx
  have hsm : decide (l.length ≤ 300) = true := decide_eq_true hl
  have hB1 : Hid (B ≤ w.heap.size) := Nat.le_of_eq hB.symm
  clear hS hbd l8 hx hB
  go_enter Try.func9, Try.ntmps9
  go_wp2_with (go_at_call 11; refine (small2_any _ _ _ _).mono ?_; rintro e w' ⟨rfl, rfl⟩)
  refine C1.out.mono ?_
  rintro e w1 ⟨v1, m, rfl, hr, ho, hb⟩
  have B1 : Hid (Below B w w1) := hb.mono hB1.out
  have S1 : Hid (B ≤ w1.heap.size) := Nat.le_trans hB1.out B1.out.size
  have HSM : Hid (Sl encF w1 v1 m) := ho.sl (by rw [hr.len]; omega)
  have HFM : Hid (Fz w1 v1 m) := ho.fz
  have C4 := Lib.hid (C4.out m hr)
  have hmm := HM.out m hr
  obtain ⟨hk, P1, P2⟩ := HP.out m hr
  have HP1 := Lib.hid P1
  have HP2 := Lib.hid P2
  have HLE := Lib.hid hr.len
  obtain ⟨a1, c1, hv1, _⟩ := HSM.out
  rw [HLE.out] at hv1
  subst hv1
  clear hr ho hb C1 HP HM P1 P2
  generalize findK m x = K at *
  rw [hmm] at C4
  clear hmm
  go_wp2_with fail
  refine (C4.out w1 _ HSM.out HFM.out).mono ?_
  rintro e w2 ⟨rfl, hb2⟩
  have B2 : Hid (Below B w w2) := B1.out.trans (hb2.mono S1.out)
  have HC1 : Hid (CellsF w2 a1 m) := Sl.cells (HSM.out.below (Nat.le_refl _) hb2)
  have HC0 : Hid (CellsF w2 a l) := Sl.cells (HL.out w2 B2)
  clear hb2 HSM HFM C4
  have hkl : decide (l.length < K) = false := decide_eq_false (by omega)
  generalize hany : (l.any fun y => canon y == canon x) = mt at *
  have HAN := Lib.hid hany
  clear hany
  go_wp2
  go_loop [8] (fun iv => ∃ (i : Nat), i ≤ l.length ∧ iv = .int .i64 i) (fun iv => l.length - (intOf iv).toNat)
  case atStart => exact ⟨0, by omega, rfl⟩
  case round =>
    obtain ⟨i, hi, rfl⟩ := hrel
    by_cases hil : i < l.length
    · obtain ⟨b, o, rfl, hc⟩ := HC1.out i (by rw [HLE.out]; omega)
      have hc0 := hc i (by rw [HLE.out]; omega)
      clear hc
      by_cases hik : i < K
      · have hp : Hid (cmpF (m.getD i 0) x = -1) := (cmpF_ltf (HP1.out i hik)).1
        have hd : decide (i < K) = true := decide_eq_true hik
        generalize m.getD i 0 = x0 at *
        go_wp2_with (go_at_call 21; refine (rcompare_any _ _ _).mono ?_; rintro e w' ⟨rfl, rfl⟩; rw [hp.out])
        go_round
        case rel => exact ⟨i + 1, by omega, by go_num⟩
        case measure => simp [intOf]; omega
      · have hp : cmpF (m.getD i 0) x = 0 ∨ cmpF (m.getD i 0) x = 1 := by
          rcases Nat.lt_or_eq_of_le (HP2.out i (by omega) hil) with h | h
          · exact .inr (cmpF_ltf h).2
          · exact .inl (cmpF_eqf h.symm)
        have hd : decide (i < K) = false := decide_eq_false hik
        generalize m.getD i 0 = x0 at *
        rcases hp with hp | hp
        all_goals
          have HPP := Lib.hid hp
          clear hp
          go_wp2_with (go_at_call 21; refine (rcompare_any _ _ _).mono ?_; rintro e w' ⟨rfl, rfl⟩; rw [HPP.out])
          go_round
          case rel => exact ⟨i + 1, by omega, by go_num⟩
          case measure => simp [intOf]; omega
    · clear HC1 HP1 HP2
      go_wp2
      go_loop [9, 10] (fun tv iv => ∃ (j : Nat) (t : Bool), j ≤ l.length ∧ Hid (t = (l.take j).any (fun y => canon y == canon x)) ∧ iv = .int .i64 j ∧ tv = .bool t) (fun _ iv => l.length - (intOf iv).toNat)
      case atStart => exact ⟨0, false, by omega, rfl, rfl, rfl⟩
      case round =>
        obtain ⟨j, t, hj, ht, rfl, rfl⟩ := hrel
        by_cases hjl : j < l.length
        · obtain ⟨b, o, rfl, hc⟩ := HC0.out j hjl
          have hc0 := hc j hjl
          clear hc
          have HN := Lib.hid (any_take (p := fun y => canon y == canon x) hjl)
          obtain ⟨q, hq⟩ : ∃ q, (canon (l.getD j 0) == canon x) = q := ⟨_, rfl⟩
          have HQ := Lib.hid hq
          have HT : Hid ((t || q) = (l.take (j + 1)).any (fun y => canon y == canon x)) := by show _ = _; rw [HN.out, ht.out]; simp only [hq]
          clear hq ht HN
          generalize l.getD j 0 = x0 at *
          cases t
          · rw [Bool.false_or] at HT
            go_wp2_with (go_at_call 15; refine (same_any _ _ _).mono ?_; rintro e w' ⟨rfl, rfl⟩; rw [HQ.out])
            go_round
            case rel => exact ⟨j + 1, q, by omega, HT, by go_num, rfl⟩
            case measure => simp [intOf]; omega
          · rw [Bool.true_or] at HT
            go_wp2_with (go_at_call 15; refine (same_any _ _ _).mono ?_; rintro e w' ⟨rfl, rfl⟩; rw [HQ.out])
            go_round
            case rel => exact ⟨j + 1, true, by omega, HT, by go_num, rfl⟩
            case measure => simp [intOf]; omega
        · have htm : t = mt := by rw [ht.out, ← HAN.out, List.take_of_length_le (by omega)]
          subst htm
          clear ht HAN
          go_wp2_with (go_at_call 12; refine (awake2_any _).mono ?_; rintro e w' ⟨rfl, hbb⟩)
          go_ret
          exact ⟨rfl, B2.out.trans (hbb.mono (Nat.le_trans hB1.out B2.out.size))⟩

set_option maxHeartbeats 800000 in
set_option maxRecDepth 8000 in
theorem places_big (x : Nat) (a : Option Addr) (n cap : Nat) (hl : 300 < n) (w : World) :
    Calls Try.prog 9 #[.slice a n cap, .float .f64 x] w fun e w' => e = .returned (.bool true) ∧ Below w.heap.size w w' := by
  have hsm : decide (n ≤ 300) = false := decide_eq_false (by omega)
  go_enter Try.func9, Try.ntmps9
  go_wp2_with (first | (go_at_call 11; refine (small2_any _ _ _ _).mono ?_; rintro e w' ⟨rfl, rfl⟩) | (go_at_call 12; refine (awake2_any _).mono ?_; rintro e w' ⟨rfl, hbb⟩))
  go_ret
  exact ⟨rfl, hbb⟩

theorem walk_ForderPlaces (w : World) (v : Value) (l : List Nat) (h : Sl encF w v l) (hb : ∀ x ∈ l, x < 2^64) (_ : l.length * 8 ≤ 140737488351232) (x : Nat) (hx : x < 2^64) :
    Calls Try.prog 9 #[v, .float .f64 x] w fun e w' => e = .returned (.bool true) ∧ Below w.heap.size w w' := by
  obtain ⟨a, cap, rfl, _⟩ := id h
  rcases Nat.lt_or_ge 300 l.length with hl | hl
  · exact places_big x a _ cap hl w
  · exact places_small x hx a cap l hl hb w h
end Go.Proofs.Yticpfopjffbgbaa
