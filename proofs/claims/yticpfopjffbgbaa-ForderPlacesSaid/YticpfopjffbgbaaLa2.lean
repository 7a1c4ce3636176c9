/- forder's laws: awake. -/
import Derived.Test.YticpfopjffbgbaaSrt
import Derived.Test.YticpfopjffbgbaaOwn1
import Derived.Test.YticpfopjffbgbaaSame
namespace Go.Proofs.Yticpfopjffbgbaa
open Go.RowKit Fl

set_option maxHeartbeats 400000 in
theorem most_nil (a : Option Addr) (cap : Nat) (way : Int) (w : World) :
    Calls Try.prog 34 #[.slice a 0 cap, .int .i64 way] w fun e w' => e = .returned (.tuple #[.float .f64 0, .int .i64 14]) ∧ w = w' := by
  go_enter Try.func34, Try.ntmps34
  go_wp2
  go_ret2
  exact ⟨rfl, rfl⟩

set_option maxHeartbeats 400000 in
theorem min_nil (a : Option Addr) (cap : Nat) (w : World) :
    Calls Try.prog 18 #[.slice a 0 cap] w fun e w' => e = .returned (.tuple #[.float .f64 0, .int .i64 14]) ∧ w = w' := by
  go_enter Try.func18, Try.ntmps18
  go_wp2_with (go_at_call 34; refine (most_nil _ _ _ _).mono ?_; rintro e w' ⟨rfl, rfl⟩)
  go_ret2
  exact ⟨rfl, rfl⟩

theorem awake2_sort : sortF [0, 9218868437227405312, 18442240474082181120, 4607182418800017408] = [18442240474082181120, 0, 4607182418800017408, 9218868437227405312] := by
  unfold sortF
  rw [← sortC_unique (l := [0, 9218868437227405312, 18442240474082181120, 4607182418800017408].map toCW) (m := [18442240474082181120, 0, 4607182418800017408, 9218868437227405312].map toCW) ((show List.Perm [18442240474082181120, 0, 4607182418800017408, 9218868437227405312] [0, 9218868437227405312, 18442240474082181120, 4607182418800017408] by decide).map toCW) (by
    rw [List.pairwise_map]
    exact (by decide +kernel : List.Pairwise (fun a b => (toCW a).key ≤ (toCW b).key) [18442240474082181120, 0, 4607182418800017408, 9218868437227405312]))]
  decide +kernel
theorem awake2_val : cmpF 4607182418800017408 4611686018427387904 = -1 ∧
    canon 9218868437227405312 = 9218868437227405312 ∧ feq 18442240474082181120 18442240474082181120 = true ∧ feq 9218868437227405312 9218868437227405312 = true := by decide +kernel
theorem neg_inf (w : World) : (Op.unary .neg (.float .f64 9218868437227405312)).run Try.prog w = .ok (.float .f64 18442240474082181120) w := by kernel_rfl

set_option maxHeartbeats 1600000 in
set_option maxRecDepth 8000 in
theorem awake2_any (w : World) :
    Calls Try.prog 12 #[] w fun e w' => e = .returned (.bool true) ∧ Below w.heap.size w w' := by
  obtain ⟨h2, h3, h4, h5⟩ := awake2_val
  have h1 := awake2_sort
  have hneg := neg_inf
  have s1 : ∀ (w : World) b, b < w.heap.size → w.cell? ⟨b, 0, none⟩ = some (.float .f64 0) → w.cell? ⟨b, 1, none⟩ = some (.float .f64 9218868437227405312) →
      w.cell? ⟨b, 2, none⟩ = some (.float .f64 18442240474082181120) → w.cell? ⟨b, 3, none⟩ = some (.float .f64 4607182418800017408) →
      Calls Try.prog 13 #[.slice (some ⟨b, 0, none⟩) 4 4] w fun e w' => ∃ g cap, e = .returned (.slice (some ⟨g, 0, none⟩) 4 cap) ∧ w'.cell? ⟨g, 0, none⟩ = some (.float .f64 18442240474082181120) ∧ w'.cell? ⟨g, 3, none⟩ = some (.float .f64 9218868437227405312) ∧ Below w.heap.size w w' := by
    intro w b hb c0 c1 c2 c3
    refine (sort_any (.slice (some ⟨b, 0, none⟩) 4 4) [0, 9218868437227405312, 18442240474082181120, 4607182418800017408] (by decide) (by decide) w ⟨some ⟨b, 0, none⟩, 4, rfl, fun h => (by cases h), by simp, .inr ⟨b, 0, rfl, hb, ?_⟩⟩).mono ?_
    · intro i hi
      match i, hi with
      | 0, _ => exact c0
      | 1, _ => exact c1
      | 2, _ => exact c2
      | 3, _ => exact c3
    · rintro e w' ⟨v', rfl, ho, hb'⟩
      rw [h1] at ho
      obtain ⟨g, cap, rfl, _, _, hr⟩ := ho.read (by simp)
      exact ⟨g, cap, rfl, hr 0 (by simp), hr 3 (by simp), hb'⟩
  have S1 := Lib.hid s1
  clear s1 h1
  go_enter Try.func12, Try.ntmps12
  go_wp2_with (first
    | (go_at_call 27; refine (rfrom_any _ _).mono ?_; rintro e w' ⟨rfl, rfl⟩; rw [h3])
    | (go_at_call 13; refine (S1.out _ _ ?k1 ?k2 ?k3 ?k4 ?k5).mono ?k6))
  case k1 => simp
  case k2 => exact World.cell?_alloc_at _ _ _ 0 (by simp)
  case k3 => exact World.cell?_alloc_at _ _ _ 1 (by simp)
  case k4 => exact World.cell?_alloc_at _ _ _ 2 (by simp)
  case k5 => exact World.cell?_alloc_at _ _ _ 3 (by simp)
  rintro e w2 ⟨g, cap, rfl, hg0, hg3, hb⟩
  have HB2 : Hid (Below w.heap.size w w2) := ((Below.refl _ w).alloc (Nat.le_refl _) _).trans (hb.mono (by simp))
  clear hb
  go_wp2_with (first
    | (go_at_call 18; refine (min_nil _ _ _).mono ?_; rintro e w' ⟨rfl, rfl⟩)
    | (go_at_call 14; refine (compare_any _ _ _).mono ?_; rintro e w' ⟨rfl, rfl⟩; rw [h2]))
  go_ret
  exact ⟨rfl, HB2.out⟩
end Go.Proofs.Yticpfopjffbgbaa
