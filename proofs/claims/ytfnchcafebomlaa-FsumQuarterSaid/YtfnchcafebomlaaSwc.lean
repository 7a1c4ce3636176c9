/- The walks of Mean and of the laws' awake. -/
import Derived.Test.YtfnchcafebomlaaSwb
namespace Go.Proofs.Ytfnchcafebomlaa
open Go.RowKit Fl

def meanV (l : List Nat) : Nat := if l = [] then 0 else meanF l
def meanE (l : List Nat) : Int := if l = [] then 14 else 0

set_option maxHeartbeats 800000 in
theorem mean_any (v : Value) (l : List Nat) (hbd : ∀ x ∈ l, x < 2^64) (w : World) (h : Sl encF w v l) :
    Calls Try.prog 19 #[v] w fun e w' => e = .returned (.tuple #[.float .f64 (meanV l), .int .i64 (meanE l)]) ∧ ∃ n, w' = w.drewN n := by
  have hs := sum_any v l hbd w h
  obtain ⟨a, cap, rfl, _, hl, h⟩ := h
  have HS := Lib.hid hs
  clear hs hbd h
  by_cases h0 : l = []
  · subst h0
    go_enter Try.func19, Try.ntmps19
    go_wp2
    go_ret2
    exact ⟨rfl, 0, rfl⟩
  · have e1 : meanV l = meanF l := if_neg h0
    have e2 : meanE l = 0 := if_neg h0
    have hpos : 0 < l.length := List.length_pos_iff.2 h0
    have hne : ((l.length : Int) == 0) = false := by simp; omega
    rw [e1, e2]
    have HM : Hid (meanF l = fdiv (sumF l) (ofInt l.length)) := rfl
    clear e1 e2 h0
    go_enter Try.func19, Try.ntmps19
    go_wp2_with (first | (refine wpList_fquo _ rfl _ _ _ _ rfl _ _ rfl rfl ?_; intro z n hz hlz) | (go_at_call 14; refine (HS.out).mono ?_; rintro e w' ⟨rfl, n1, rfl⟩) | (go_at_call 31; refine (plain_any _ _).mono ?_; rintro e w' ⟨rfl, rfl⟩))
    go_ret2
    refine ⟨?_, _, rfl⟩
    rw [HM.out]; rfl

theorem awake4_val : feq (meanV [4607182418800017408, 4611686018427387904]) 4609434218613702656 = true ∧ meanE [4607182418800017408, 4611686018427387904] = 0 ∧
    feq (sumF [4607182418800017408, 6103021453049119613, 4607182418800017408, 15326393489903895421]) 4611686018427387904 = true := by decide +kernel

set_option maxHeartbeats 1600000 in
theorem awake4_any (w : World) :
    Calls Try.prog 12 #[] w fun e w' => e = .returned (.bool true) ∧ Below w.heap.size w w' := by
  obtain ⟨h1, h2, h3⟩ := awake4_val
  have m0 : ∀ w, Calls Try.prog 19 #[.slice none 0 0] w fun e w' => e = .returned (.tuple #[.float .f64 0, .int .i64 14]) ∧ ∃ n, w' = w.drewN n :=
    fun w => mean_any _ [] (by simp) w ⟨none, 0, rfl, fun _ => rfl, by simp, .inl rfl⟩
  have m1 : ∀ (w : World) b, b < w.heap.size → w.cell? ⟨b, 0, none⟩ = some (.float .f64 4607182418800017408) → w.cell? ⟨b, 1, none⟩ = some (.float .f64 4611686018427387904) →
      Calls Try.prog 19 #[.slice (some ⟨b, 0, none⟩) 2 2] w fun e w' => e = .returned (.tuple #[.float .f64 (meanV [4607182418800017408, 4611686018427387904]), .int .i64 (meanE [4607182418800017408, 4611686018427387904])]) ∧ ∃ n, w' = w.drewN n := by
    intro w b hb c0 c1
    refine mean_any _ _ (by decide) w ⟨some ⟨b, 0, none⟩, 2, rfl, fun h => (by cases h), by simp, .inr ⟨b, 0, rfl, hb, ?_⟩⟩
    intro i hi
    match i, hi with
    | 0, _ => exact c0
    | 1, _ => exact c1
  have m2 : ∀ (w : World) b, b < w.heap.size → w.cell? ⟨b, 0, none⟩ = some (.float .f64 4607182418800017408) → w.cell? ⟨b, 1, none⟩ = some (.float .f64 6103021453049119613) →
      w.cell? ⟨b, 2, none⟩ = some (.float .f64 4607182418800017408) → w.cell? ⟨b, 3, none⟩ = some (.float .f64 15326393489903895421) →
      Calls Try.prog 14 #[.slice (some ⟨b, 0, none⟩) 4 4] w fun e w' => e = .returned (.float .f64 (sumF [4607182418800017408, 6103021453049119613, 4607182418800017408, 15326393489903895421])) ∧ ∃ n, w' = w.drewN n := by
    intro w b hb c0 c1 c2 c3
    refine sum_any _ _ (by decide) w ⟨some ⟨b, 0, none⟩, 4, rfl, fun h => (by cases h), by simp, .inr ⟨b, 0, rfl, hb, ?_⟩⟩
    intro i hi
    match i, hi with
    | 0, _ => exact c0
    | 1, _ => exact c1
    | 2, _ => exact c2
    | 3, _ => exact c3
  rw [h2] at m1
  generalize meanV [4607182418800017408, 4611686018427387904] = x at *
  generalize sumF [4607182418800017408, 6103021453049119613, 4607182418800017408, 15326393489903895421] = y at *
  have M0 := Lib.hid m0
  have M1 := Lib.hid m1
  have M2 := Lib.hid m2
  clear m0 m1 m2 h2
  go_enter Try.func12, Try.ntmps12
  go_wp2_with fail
  refine (M0.out _).mono ?_; rintro e w' ⟨rfl, n0, rfl⟩
  go_wp2_with fail
  refine (M1.out _ _ ?_ ?_ ?_).mono ?_
  · simp
  · exact World.cell?_alloc_at _ _ _ 0 rfl
  · exact World.cell?_alloc_at _ _ _ 1 rfl
  rintro e w' ⟨rfl, n1, rfl⟩
  go_wp2_with fail
  refine (M2.out _ _ ?_ ?_ ?_ ?_ ?_).mono ?_
  · simp
  · exact World.cell?_alloc_at _ _ _ 0 (by simp)
  · exact World.cell?_alloc_at _ _ _ 1 (by simp)
  · exact World.cell?_alloc_at _ _ _ 2 (by simp)
  · exact World.cell?_alloc_at _ _ _ 3 (by simp)
  rintro e w' ⟨rfl, n2, rfl⟩
  go_wp2
  go_ret
  refine ⟨rfl, ?_⟩
  exact below_drewN ((below_drewN ((below_drewN (Below.refl _ _) _).alloc (Nat.le_refl _) _) _).alloc (by simp) _) _
end Go.Proofs.Ytfnchcafebomlaa
