/- The walks of the comparison by which zones are ranked. -/
import Derived.Test.YtkpnjehgbehhcaaCkf
import Derived.Test.YtkpnjehgbehhcaaKey
import Derived.Lib.Hide
import Derived.Deep.RegionHeld3
import Derived.Sort.Grow
namespace Go.Proofs.Ytkpnjehgbehhcaa
open Go.RowKit Fl

set_option maxHeartbeats 400000 in
theorem cmpI_any (a b : Nat) (w : World) :
    Calls Try.prog 62 #[.int .i64 a, .int .i64 b] w fun e w' => e = .returned (.int .i64 (cmpN a b)) ∧ w = w' := by
  have ha : ((a : Int) != a) = false := by simp
  have hb : ((b : Int) != b) = false := by simp
  rcases Nat.lt_trichotomy a b with h | h | h
  · have e1 : cmpN a b = -1 := by unfold cmpN; rw [if_pos h]
    rw [e1]; clear e1
    go_enter Try.func62, Try.ntmps62
    go_wp2
    go_ret
    exact ⟨rfl, rfl⟩
  · subst h
    have e1 : cmpN a a = 0 := by unfold cmpN; rw [if_neg (by omega), if_neg (by omega)]
    rw [e1]; clear e1 hb
    go_enter Try.func62, Try.ntmps62
    go_wp2
    go_ret
    exact ⟨rfl, rfl⟩
  · have e1 : cmpN a b = 1 := by unfold cmpN; rw [if_neg (by omega), if_pos h]
    rw [e1]; clear e1
    go_enter Try.func62, Try.ntmps62
    go_wp2
    go_ret
    exact ⟨rfl, rfl⟩

def orI (p q : Int) : Int := if p = 0 then q else p
def OrRel (p q : Int) (iv : Value) : Prop := iv = .int .i64 0 ∨ (iv = .int .i64 1 ∧ p = 0) ∨ (iv = .int .i64 2 ∧ p = 0 ∧ q = 0)

set_option maxHeartbeats 400000 in
theorem or2_any (g c : Nat) (p q : Int) (w : World) (hp : w.cell? ⟨g, 0, none⟩ = some (.int .i64 p)) (hq : w.cell? ⟨g, 1, none⟩ = some (.int .i64 q)) :
    Calls Try.prog 60 #[.slice (some ⟨g, 0, none⟩) 2 c] w fun e w' => e = .returned (.int .i64 (orI p q)) ∧ w = w' := by
  go_enter Try.func60, Try.ntmps60
  go_wp2
  go_loop [8] (fun iv => OrRel p q iv) (fun iv => 3 - (intOf iv).toNat)
  case atStart => exact .inl rfl
  case round =>
    rcases hrel with rfl | ⟨rfl, h⟩ | ⟨rfl, h, h'⟩
    · by_cases h0 : p = 0
      · subst h0
        go_wp2
        go_round
        case rel => exact .inr (.inl ⟨rfl, rfl⟩)
        case measure => simp [intOf]
      · have hb : (p != 0) = true := by simpa using h0
        have H0 : Hid (orI p q = p) := if_neg h0
        clear h0
        go_wp2
        go_ret
        exact ⟨by rw [H0.out]; rfl, rfl⟩
    · by_cases h0 : q = 0
      · subst h h0
        go_wp2
        go_round
        case rel => exact .inr (.inr ⟨rfl, rfl, rfl⟩)
        case measure => simp [intOf]
      · have hb : (q != 0) = true := by simpa using h0
        have H0 : Hid (orI p q = q) := if_pos h
        clear h0 h
        go_wp2
        go_ret
        exact ⟨by rw [H0.out]; rfl, rfl⟩
    · have H0 : Hid (orI p q = 0) := by show _ = _; unfold orI; rw [if_pos h, h']
      clear h h'
      go_wp2
      go_ret
      exact ⟨by rw [H0.out]; rfl, rfl⟩

set_option maxHeartbeats 1600000 in
set_option maxRecDepth 8000 in
theorem rankcmp_any (a b n Bx gs : Nat) (x y : Nat) (ha : a < n) (hb : b < n) (w : World) (h0 : w.cell? ⟨Bx, 0, none⟩ = some (.slice (some ⟨gs, 0, none⟩) n n)) (hx : w.cell? ⟨gs, a, none⟩ = some (.float .f64 x)) (hy : w.cell? ⟨gs, b, none⟩ = some (.float .f64 y)) :
    Calls Try.prog 59 #[.int .i64 a, .int .i64 b, .pointer (some ⟨Bx, 0, none⟩)] w fun e w' => e = .returned (.int .i64 (orI (cmpF y x) (cmpN a b))) ∧ ∃ q os', w' = Sort.grow (w.drewN q) os' := by
  obtain ⟨p, hp⟩ : ∃ p, cmpF y x = p := ⟨_, rfl⟩
  obtain ⟨q, hq⟩ : ∃ q, cmpN a b = q := ⟨_, rfl⟩
  have HP := Lib.hid hp
  have HQ := Lib.hid hq
  rw [hp, hq]
  clear hp hq
  have i0 : (0 : Int) ≤ (a : Int) := by omega
  have i1 : (a : Int) < (n : Int) := by omega
  have i2 : (0 : Int) ≤ (b : Int) := by omega
  have i3 : (b : Int) < (n : Int) := by omega
  have n0 := World.new_ne w ⟨Bx, 0, none⟩ h0
  have n1 := World.new_ne w ⟨gs, a, none⟩ hx
  have n2 := World.new_ne w ⟨gs, b, none⟩ hy
  go_enter Try.func59, Try.ntmps59
  go_wp2
  go_region_held3 (fun w' => w'.cell? ⟨Bx, 0, none⟩ = some (.slice (some ⟨gs, 0, none⟩) n n) ∧ w'.cell? ⟨gs, a, none⟩ = some (.float .f64 x) ∧ w'.cell? ⟨gs, b, none⟩ = some (.float .f64 y)) (go_keep)
    (first
      | (go_at_call 61; refine (compare_any _ _ _).mono ?_; rintro e w' ⟨rfl, rfl⟩; rw [HP.out])
      | (go_at_call 62; refine (cmpI_any _ _ _).mono ?_; rintro e w' ⟨rfl, rfl⟩; rw [HQ.out])
      | (go_at_call 60; refine (or2_any _ _ p q _ ?_ ?_).mono ?_; (exact World.cell?_alloc_at _ _ _ 0 (by simp)); (exact World.cell?_alloc_at _ _ _ 1 (by simp)); rintro e w' ⟨rfl, rfl⟩))
  all_goals
    go_wp2
    go_ret
    exact ⟨rfl, _, #[_], by rw [← Sort.alloc_eq_grow]; rfl⟩
end Go.Proofs.Ytkpnjehgbehhcaa
