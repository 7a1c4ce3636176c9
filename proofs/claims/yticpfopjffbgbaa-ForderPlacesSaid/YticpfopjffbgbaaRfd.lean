/- The walk of the reference's Find and Clamp. -/
import Derived.Test.YticpfopjffbgbaaFnp
import Derived.Test.YticpfopjffbgbaaRnm
namespace Go.Proofs.Yticpfopjffbgbaa
open Go.RowKit Fl

set_option maxHeartbeats 3200000 in
set_option maxRecDepth 8000 in
theorem rfind_any (v : Value) (l : List Nat) (x : Nat) (hl : l.length * 8 ≤ 140737488351232) (hx : x < 2^64) (hbd : ∀ y ∈ l, y < 2^64) (w : World) (h : Sl encF w v l) :
    Calls Try.prog 25 #[v, .float .f64 x] w fun e w' => e = .returned (.tuple #[.int .i64 (findK l x), .bool (findB l x)]) ∧ Drw w w' := by
  obtain ⟨a, cap, rfl, _, _, hA⟩ := h
  have HA : Hid (∀ k (hk : k < l.length), ∃ b o, a = some ⟨b, o, none⟩ ∧ ∀ i (h : i < l.length), w.cell? ⟨b, o + i, none⟩ = some (.float .f64 (l.getD i 0))) := fun k hk => by
    obtain h0 | ⟨b, o, rfl, hb, hc⟩ := hA
    · exfalso; rw [h0] at hk; simp at hk
    · exact ⟨b, o, rfl, fun i hi => by rw [getD_eq hi]; exact hc i hi⟩
  clear hA
  have HNO : Hid (∀ i, i + 1 < l.length → ckf (l.getD (i + 1) 0) < ckf (l.getD i 0) → findK l x = 0 ∧ findB l x = false) := fun i hi hlt => find_no x (sortedB_no hi hlt)
  have HYES : Hid ((∀ i, i + 1 < l.length → ckf (l.getD i 0) ≤ ckf (l.getD (i + 1) 0)) → ∀ k, k ≤ l.length → (∀ t, t < k → ckf (l.getD t 0) < ckf x) → (k < l.length → ckf x ≤ ckf (l.getD k 0)) →
      findK l x = k ∧ (k < l.length → findB l x = (canon (l.getD k 0) == canon x)) ∧ (k = l.length → findB l x = false)) := fun hs k hk h1 h2 => by
    have hs' := (sortedB_iff l).2 hs
    have hf := find_at hs' hk h1 h2
    exact ⟨hf, fun hlt => findB_in hs' hlt hf hx (hbd _ (getD_mem hlt)), fun he => findB_out (by rw [hf, he])⟩
  clear hbd hx
  generalize findK l x = K at *
  generalize findB l x = F at *
  go_enter Try.func25, Try.ntmps25
  go_wp2
  go_loopw [6] (fun i wr => ∃ (j : Nat), (l.length = 0 ∨ j + 1 ≤ l.length) ∧ i = .int .i64 ((j : Int) + 1) ∧ Hid (∀ t, t < j → ckf (l.getD t 0) ≤ ckf (l.getD (t + 1) 0)) ∧ Drw w wr) (fun i _ => l.length - (intOf i).toNat)
  case atStart => exact ⟨0, by omega, rfl, fun t ht => by omega, Drw.refl _⟩
  case round =>
    obtain ⟨j, hj, rfl, hs, hd⟩ := hrel
    by_cases hlt : j + 1 < l.length
    · obtain ⟨b, o, rfl, hc⟩ := HA.out j (by omega)
      have hc0 : wr.cell? ⟨b, o + j, none⟩ = some (.float .f64 (l.getD j 0)) := by obtain ⟨n, rfl⟩ := hd; exact hc j (by omega)
      have hc1 : wr.cell? ⟨b, o + (j + 1), none⟩ = some (.float .f64 (l.getD (j + 1) 0)) := by obtain ⟨n, rfl⟩ := hd; exact hc (j + 1) hlt
      have HD := Lib.hid hd
      clear hd hc HA
      have hwr : IntKind.i64.wrap ((j : Int)) = j := IntWalk.i64_in _ (by omega)
      by_cases hle : ckf (l.getD j 0) ≤ ckf (l.getD (j + 1) 0)
      · have hp : cmpF (l.getD j 0) (l.getD (j + 1) 0) = -1 ∨ cmpF (l.getD j 0) (l.getD (j + 1) 0) = 0 := by
          rcases Nat.lt_or_eq_of_le hle with h | h
          · exact .inl (cmpF_ltf h).1
          · exact .inr (cmpF_eqf h)
        have hs2 : Hid (∀ t, t < j + 1 → ckf (l.getD t 0) ≤ ckf (l.getD (t + 1) 0)) := fun t ht => by
          rcases Nat.lt_or_ge t j with h | h
          · exact hs.out t h
          · obtain rfl : t = j := by omega
            exact hle
        clear hs hle
        generalize l.getD j 0 = x0 at *
        generalize l.getD (j + 1) 0 = x1 at *
        rcases hp with hp | hp
        all_goals
          have HP := Lib.hid hp
          clear hp
          go_wp2
          go_quiet ((go_at_call 21; exact rcmp_quiet HP.out _ _))
          go_wp2
          exact ⟨⟨j + 1, by omega, by go_num, hs2, HD.out.more _⟩, by simp [intOf]; omega⟩
      · have hp : Hid (cmpF (l.getD j 0) (l.getD (j + 1) 0) = 1) := (cmpF_ltf (by omega)).2
        obtain ⟨e1, e2⟩ := HNO.out j hlt (by omega)
        clear hs hle HNO HYES
        subst e1 e2
        generalize l.getD j 0 = x0 at *
        generalize l.getD (j + 1) 0 = x1 at *
        go_wp2
        go_quiet ((go_at_call 21; exact rcmp_quiet hp.out _ _))
        go_wp2
        go_ret2
        exact ⟨rfl, HD.out.more _⟩
    · have hs2 : Hid (∀ t, t + 1 < l.length → ckf (l.getD t 0) ≤ ckf (l.getD (t + 1) 0)) := fun t ht => hs.out t (by omega)
      clear hs HNO
      have HY := Lib.hid (HYES.out hs2.out)
      clear HYES hs2
      obtain ⟨wo, hwo⟩ : ∃ wo : World, wo = wr := ⟨_, rfl⟩
      subst hwo
      have HD := Lib.hid hd
      have HC : Hid (∀ k (hk : k < l.length), ∃ b o, a = some ⟨b, o, none⟩ ∧ ∀ i (h : i < l.length), wo.cell? ⟨b, o + i, none⟩ = some (.float .f64 (l.getD i 0))) := by
        obtain ⟨n, rfl⟩ := hd; exact HA.out
      clear hd HA
      go_wp2
      go_loop [7] (fun kv => ∃ (k : Nat), k ≤ l.length ∧ kv = .int .i64 k ∧ Hid (∀ t, t < k → ckf (l.getD t 0) < ckf x)) (fun kv => l.length - (intOf kv).toNat)
      case atStart => exact ⟨0, Nat.zero_le _, rfl, fun t ht => by omega⟩
      case round =>
        obtain ⟨k, hk, rfl, hs⟩ := hrel
        by_cases hkl : k < l.length
        · obtain ⟨b, o, rfl, hc⟩ := HC.out k hkl
          have hc0 := hc k hkl
          clear hc HC
          by_cases hle : ckf (l.getD k 0) < ckf x
          · have hp : Hid (cmpF (l.getD k 0) x = -1) := (cmpF_ltf hle).1
            have hs2 : Hid (∀ t, t < k + 1 → ckf (l.getD t 0) < ckf x) := fun t ht => by
              rcases Nat.lt_or_ge t k with h | h
              · exact hs.out t h
              · obtain rfl : t = k := by omega
                exact hle
            clear hs hle
            generalize l.getD k 0 = x0 at *
            go_wp2_with (go_at_call 21; refine (rcompare_any _ _ _).mono ?_; rintro e w' ⟨rfl, rfl⟩; rw [hp.out])
            go_round
            case rel => exact ⟨k + 1, by omega, by go_num, hs2⟩
            case measure => simp [intOf]; omega
          · have hp : cmpF (l.getD k 0) x = 0 ∨ cmpF (l.getD k 0) x = 1 := by
              rcases Nat.lt_or_eq_of_le (Nat.le_of_not_lt hle) with h | h
              · exact .inr (cmpF_ltf h).2
              · exact .inl (cmpF_eqf h.symm)
            obtain ⟨e1, e2, _⟩ := HY.out k (by omega) hs.out (fun _ => Nat.le_of_not_lt hle)
            have e2 := Lib.hid (e2 hkl)
            clear hs hle HY
            subst e1
            generalize l.getD K 0 = x0 at *
            rcases hp with hp | hp
            all_goals
              have HP := Lib.hid hp
              clear hp
              go_wp2_with (first
                | (go_at_call 21; refine (rcompare_any _ _ _).mono ?_; rintro e w' ⟨rfl, rfl⟩; rw [HP.out])
                | (go_at_call 15; refine (same_any _ _ _).mono ?_; rintro e w' ⟨rfl, rfl⟩))
              go_ret2
              exact ⟨by rw [e2.out]; rfl, HD.out⟩
        · have hke : k = l.length := by omega
          obtain ⟨e1, _, e2⟩ := HY.out k hk hs.out (fun h => absurd h hkl)
          have e3 := e2 hke
          clear hs HY e2
          subst e1
          subst e3
          subst hke
          go_wp2
          go_ret2
          exact ⟨rfl, HD.out⟩
end Go.Proofs.Yticpfopjffbgbaa
