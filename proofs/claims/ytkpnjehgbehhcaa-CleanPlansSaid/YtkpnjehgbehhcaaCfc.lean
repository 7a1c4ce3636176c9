/- ContainsFunc at rows of copies, with clean.Next's test. -/
import Derived.Test.YtkpnjehgbehhcaaZon
namespace Go.Proofs.Ytkpnjehgbehhcaa
open Go.RowKit

theorem next1_any (x : Option Addr) (n c A : Nat) (size : Int) (w : World) (h : w.cell? ⟨A, 0, none⟩ = some (.int .i64 size)) :
    Calls Try.prog 32 #[.slice x n c, .pointer (some ⟨A, 0, none⟩)] w fun e w' => e = .returned (.bool (decide (size < (n : Int)))) ∧ w' = w := by
  go_enter Try.func32, Try.ntmps32
  go_wp2
  go_ret
  exact ⟨rfl, rfl⟩

/-- is none of the first k rows too long? -/
def fitN (L : List (List Cp)) (size : Int) : Nat → Bool
  | 0 => true
  | k + 1 => fitN L size k && !decide (size < ((L.getD k []).length : Int))
theorem fitN_le {L : List (List Cp)} {size : Int} {k : Nat} (h : fitN L size k = true) : ∀ j, j ≤ k → fitN L size j = true := by
  induction k with
  | zero => intro j hj; obtain rfl : j = 0 := by omega
            exact h
  | succ k ih =>
    intro j hj
    rcases Nat.lt_or_ge j (k + 1) with h' | h'
    · unfold fitN at h
      simp only [Bool.and_eq_true] at h
      exact ih h.1 j (by omega)
    · obtain rfl : j = k + 1 := by omega
      exact h

/-- what IndexFunc returns -/
def IxC (L : List (List Cp)) (size : Int) (e : Ending) : Prop := ∃ r : Int, e = .returned (.int .i64 r) ∧ decide (0 ≤ r) = !fitN L size L.length

set_option maxHeartbeats 1600000 in
set_option maxRecDepth 8000 in
theorem ixc_any (v : Value) (L : List (List Cp)) (A : Nat) (size : Int) (w : World) (h : SlR w v L) (hA : w.cell? ⟨A, 0, none⟩ = some (.int .i64 size)) :
    Calls Try.prog 48 #[v, .func (.func 32) #[] #[.pointer (some ⟨A, 0, none⟩)]] w fun e w' => IxC L size e ∧ w' = w := by
  obtain ⟨a, cap, rfl, ha, hle, hcap⟩ := SlG.form h
  have HC : Hid (∀ k, k < L.length → ∃ b o x c, a = some ⟨b, o, none⟩ ∧ w.cell? ⟨b, o + k, none⟩ = some (.slice x (L.getD k []).length c)) := fun k hk => by
    obtain ⟨b, o, u, h1, h2, h3, h4⟩ := h.at rfl hk
    obtain ⟨x, c, rfl, _⟩ := SlG.form h4
    exact ⟨b, o, x, c, h1, h3⟩
  have HR : Hid (∀ k, fitN L size (k + 1) = (fitN L size k && !decide (size < ((L.getD k []).length : Int)))) := fun k => rfl
  have HL : Hid (∀ {k}, fitN L size k = true → ∀ j, j ≤ k → fitN L size j = true) := fun h => fitN_le h
  clear h
  go_enter Try.func48, Try.ntmps48
  go_wp2
  go_loop [8] (fun i => ∃ k : Nat, k ≤ L.length ∧ i = .int .i64 k ∧ Hid (fitN L size k = true)) (fun i => L.length - (intOf i).toNat)
  case atStart => exact ⟨0, Nat.zero_le _, rfl, rfl⟩
  case round =>
    obtain ⟨k, hk, rfl, hr⟩ := hrel
    by_cases hlt : k < L.length
    · obtain ⟨b, o, x, c, rfl, c1⟩ := HC.out k hlt
      have HR1 : Hid (fitN L size (k + 1) = !decide (size < ((L.getD k []).length : Int))) := by
        have h5 := HR.out k
        show _ = _
        rw [h5, hr.out]
        simp
      have hlt2 : (k : Int) < (L.length : Int) := by omega
      clear HC HR
      generalize (L.getD k []).length = m at *
      by_cases hm : size < (m : Int)
      · have hf : Hid (fitN L size L.length = false) := by
          have h5 := HR1.out
          rw [decide_eq_true hm] at h5
          show _ = false
          cases hq : fitN L size L.length
          · rfl
          · have h6 := HL.out hq (k + 1) (by omega)
            rw [h5] at h6
            cases h6
        have hd : decide (size < (m : Int)) = true := decide_eq_true hm
        clear HL HR1
        go_wp2_with (go_at_call 32; refine (next1_any x m c A size _ hA).mono ?_; rintro e w1 ⟨rfl, rfl⟩)
        go_ret
        refine ⟨⟨(k : Int), rfl, ?_⟩, rfl⟩
        rw [hf.out, decide_eq_true (by omega : (0 : Int) ≤ k)]
        rfl
      · have hr2 : Hid (fitN L size (k + 1) = true) := by
          have h5 := HR1.out
          rw [decide_eq_false hm] at h5
          exact h5
        have hd : decide (size < (m : Int)) = false := decide_eq_false hm
        clear HL HR1
        go_wp2_with (go_at_call 32; refine (next1_any x m c A size _ hA).mono ?_; rintro e w1 ⟨rfl, rfl⟩)
        exact ⟨⟨k + 1, by omega, by go_num, hr2.out⟩, by simp [intOf]; omega⟩
    · have hf : Hid (fitN L size L.length = true) := by
        have : k = L.length := by omega
        rw [← this]; exact hr
      clear HC HR HL
      go_wp2
      go_ret
      exact ⟨⟨-1, rfl, by rw [hf.out]; rfl⟩, rfl⟩

theorem cfc_any (v : Value) (L : List (List Cp)) (A : Nat) (size : Int) (w : World) (h : SlR w v L) (hA : w.cell? ⟨A, 0, none⟩ = some (.int .i64 size)) :
    Calls Try.prog 31 #[v, .func (.func 32) #[] #[.pointer (some ⟨A, 0, none⟩)]] w fun e w' => e = .returned (.bool (!fitN L size L.length)) ∧ w' = w := by
  have CI := Lib.hid (ixc_any v L A size w h hA)
  clear h
  go_enter Try.func31, Try.ntmps31
  go_wp2_with (go_at_call 48; refine CI.out.mono ?_; rintro e w1 ⟨⟨r, rfl, hr⟩, rfl⟩; have HR := Lib.hid hr; clear hr)
  go_ret
  exact ⟨by rw [← HR.out]; rfl, rfl⟩
end Go.Proofs.Ytkpnjehgbehhcaa
