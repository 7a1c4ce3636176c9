/- The walks of Find on both sides. -/
import Derived.Test.YticpfopjffbgbaaFnp
import Derived.Test.YticpfopjffbgbaaFnl
import Derived.Test.YticpfopjffbgbaaRnm
import Derived.Test.YticpfopjffbgbaaCap
namespace Go.Proofs.Yticpfopjffbgbaa
open Go.RowKit Fl Go.Sort Go.Lib Go.Shelf

theorem cmpReadsN (blk off size : Nat) (w : World) : CmpReads Try.prog 14 #[] encF cmpF blk off size w := fun _ _ _ _ x y => by
  refine (compare_any x y _).mono ?_
  rintro e w' ⟨rfl, rfl⟩
  exact ⟨rfl, 0, rfl⟩
theorem cmpReadsT (x blk off size : Nat) (w : World) : CmpLaysT Try.prog 14 #[] encF (.float .f64 x) (fun y => cmpF y x) blk off size w := fun _ _ _ _ y => by
  refine (compare_any y x _).mono ?_
  rintro e w' ⟨rfl, rfl⟩
  exact ⟨rfl, 0, #[], by rw [grow_empty]; rfl⟩

theorem sw_below {w w' : World} {blk off : Nat} {d : Array Nat} (h : SW encF w blk off d w') (hH : Holds encF w blk off d) : Below w.heap.size w w' := by
  obtain ⟨m, os, rfl⟩ := h
  unfold sortWorld
  rw [putRow_self encF (Sort.ahead w m) blk off d hH]
  exact Below.grown (below_drewN (Below.refl _ w) m) (grownBy_grow _ os) (Nat.le_refl _) (fun k h => by cases h)

theorem isSorted_any (a : Option Addr) (cap : Nat) (l : List Nat) (hl : l.length * 8 ≤ 140737488351232) (w : World) (h : Sl encF w (.slice a l.length cap) l) (hf : Fz w (.slice a l.length cap) l) :
    Calls Try.prog 36 #[.slice a l.length cap, .func (.func 14) #[] #[]] w fun e w' => e = .returned (.bool (sortedB l)) ∧ Below w.heap.size w w' := by
  obtain ⟨_, _, hv, _, _, hA⟩ := h
  simp only [Value.slice.injEq] at hv
  obtain ⟨rfl, _, rfl⟩ := hv
  by_cases h0 : l = []
  · subst h0
    have hS := Any.slices_IsSortedFunc_none (P := Try.prog) Try.sortedL a cap (.func (.func 14) #[] #[]) w
    refine hS.mono ?_
    rintro e w' ⟨rfl, rfl⟩
    exact ⟨rfl, Below.refl _ _⟩
  · obtain h1 | ⟨b, o, rfl, hb, hc⟩ := hA
    · exact absurd h1 h0
    · have hH : Holds encF w b o l.toArray := fun j hj => by
        rw [List.size_toArray] at hj
        refine ⟨?_, hf b o _ _ rfl j hj⟩
        rw [hc j hj, arr_get, getD_eq hj]
      have hS := Any.slices_IsSortedFunc Try.sortedL encF (fun _ => rfl) cmpF 14 #[] b o cap l.toArray w eg45 (cmpReadsN b o l.toArray.size w).lays hH hb (by rw [List.size_toArray]; omega)
      rw [List.size_toArray] at hS
      refine hS.mono ?_
      rintro e w' ⟨rfl, hw⟩
      exact ⟨rfl, sw_below hw hH⟩

theorem search_any (a : Option Addr) (cap : Nat) (l : List Nat) (x : Nat) (hl : l.length * 8 ≤ 140737488351232) (w : World) (h : Sl encF w (.slice a l.length cap) l) (hf : Fz w (.slice a l.length cap) l) (hs : sortedB l = true) :
    Calls Try.prog 37 #[.slice a l.length cap, .float .f64 x, .func (.func 14) #[] #[]] w fun e w' => e = .returned (.tuple #[.int .i64 (findK l x), .bool (findB l x)]) ∧ Below w.heap.size w w' := by
  obtain ⟨_, _, hv, _, _, hA⟩ := h
  simp only [Value.slice.injEq] at hv
  obtain ⟨rfl, _, rfl⟩ := hv
  by_cases h0 : l = []
  · subst h0
    have hS := Any.slices_BinarySearchFunc_none (P := Try.prog) Try.searchL a cap (.float .f64 x) (.func (.func 14) #[] #[]) w
    refine hS.mono ?_
    rintro e w' ⟨rfl, rfl⟩
    exact ⟨rfl, Below.refl _ _⟩
  · obtain h1 | ⟨b, o, rfl, hb, hc⟩ := hA
    · exact absurd h1 h0
    · have hH : Holds encF w b o l.toArray := fun j hj => by
        rw [List.size_toArray] at hj
        refine ⟨?_, hf b o _ _ rfl j hj⟩
        rw [hc j hj, arr_get, getD_eq hj]
      have hS := Any.slices_BinarySearchFunc Try.searchL encF (fun _ => rfl) (.float .f64 x) (fun y => cmpF y x) 14 #[] b o cap l.toArray w eg45 (cmpReadsT x b o l.toArray.size w) hH hb (by rw [List.size_toArray]; omega) (by
        intro p q hpq hq hlt
        rw [List.size_toArray] at hq
        have h1 := of_decide_eq_true ((cmpF_neg _ _).symm.trans (decide_eq_true hlt))
        rw [arr_get] at h1
        have h2 := sortedB_mono hs hpq hq
        have := (cmpF_neg (l.getD p 0) x).trans (decide_eq_true (by omega))
        rw [arr_get]
        exact of_decide_eq_true this)
      rw [List.size_toArray] at hS
      refine hS.mono ?_
      rintro e w' ⟨rfl, hw⟩
      refine ⟨?_, sw_below hw hH⟩
      have e1 : findK l x = l.countP (fun y => decide (cmpF y x < 0)) := if_pos hs
      unfold findB
      rw [hs, e1, arr_get]; rfl

set_option maxHeartbeats 800000 in
theorem find_any (v : Value) (l : List Nat) (x : Nat) (hl : l.length * 8 ≤ 140737488351232) (w : World) (h : Sl encF w v l) (hf : Fz w v l) :
    Calls Try.prog 24 #[v, .float .f64 x] w fun e w' => e = .returned (.tuple #[.int .i64 (findK l x), .bool (findB l x)]) ∧ Below w.heap.size w w' := by
  obtain ⟨a, cap, rfl, _⟩ := id h
  have C1 := Lib.hid (isSorted_any a cap l hl w h hf)
  cases hs : sortedB l
  · rw [hs] at C1
    obtain ⟨e1, e2⟩ := find_no x hs
    rw [e1, e2]
    clear h hf hs e1 e2
    go_enter Try.func24, Try.ntmps24
    go_wp2_with (go_at_call 36; refine (C1.out).mono ?_; rintro e w' ⟨rfl, hb⟩)
    go_ret2
    exact ⟨rfl, hb⟩
  · rw [hs] at C1
    have C2 : Hid (∀ w', Below w.heap.size w w' → Calls Try.prog 37 #[.slice a l.length cap, .float .f64 x, .func (.func 14) #[] #[]] w' fun e w2 => e = .returned (.tuple #[.int .i64 (findK l x), .bool (findB l x)]) ∧ Below w'.heap.size w' w2) := fun w' hb =>
      search_any a cap l x hl w' (h.below (Nat.le_refl _) hb) (fun b o n cp hv i hi => by
        obtain ⟨_, _, hv2, _, _, hA⟩ := h
        simp only [Value.slice.injEq] at hv hv2
        obtain ⟨rfl, _, rfl⟩ := hv
        obtain ⟨rfl, _, rfl⟩ := hv2
        obtain h1 | ⟨b2, o2, h2, hb2, _⟩ := hA
        · rw [h1] at hi; simp at hi
        · obtain ⟨rfl, rfl⟩ := by simpa using h2
          rw [hb.frozen (p := ⟨b, o + i, none⟩) hb2]; exact hf b o _ _ rfl i hi) hs
    clear h hf hs
    generalize findK l x = K at *
    generalize findB l x = F at *
    go_enter Try.func24, Try.ntmps24
    go_wp2_with (go_at_call 36; refine (C1.out).mono ?_; rintro e w1 ⟨rfl, hb⟩; have HB := Lib.hid hb; clear hb)
    refine (C2.out w1 HB.out).mono ?_
    rintro e w2 ⟨rfl, hb2⟩
    have HB2 := Lib.hid hb2
    clear hb2
    go_wp2
    go_ret2
    exact ⟨rfl, HB.out.trans (HB2.out.mono HB.out.size)⟩
end Go.Proofs.Yticpfopjffbgbaa
