/- Rank at every length; Choose; two lists of ints held against each other. -/
import Derived.Test.YtkpnjehgbehhcaaRk4
import Derived.Deep.QuietTactic
import Derived.BigQuiet
namespace Go.Proofs.Ytkpnjehgbehhcaa
open Go.RowKit Fl

set_option maxHeartbeats 1600000 in
set_option maxRecDepth 8000 in
theorem rank_none (a : Option Addr) (cap : Nat) (now : Int) (w : World) :
    Calls Try.prog 49 #[.slice a 0 cap, .int .i64 now] w fun e w' => e = .returned (.slice none 0 0) ∧ Below w.heap.size w w' := by
  generalize hB : w.heap.size = B
  have hB0 : Hid (B ≤ w.heap.size) := Nat.le_of_eq hB.symm
  clear hB
  go_enter Try.func49, Try.ntmps49
  go_wp2
  go_step3
  go_wp2_with (refine wpList_mkF (w := w) rfl _ _ rfl B 0 rfl rfl (by omega) hB0.out ?_; intro w1 ho1 hg1; have hb1 : Hid (Below B w w1) := (Below.refl _ _).grown hg1 hB0.out (fun k h => by cases h); have HO1 := Lib.hid ho1; clear ho1 hg1)
  go_step3
  go_wp2
  have hb2 : Hid (Below B w (w1.alloc (.cells #[.slice (some ⟨w.heap.size, 0, none⟩) 0 0] 110))) := hb1.out.alloc (Nat.le_trans hB0.out hb1.out.size) _
  generalize w1.alloc (.cells #[.slice (some ⟨w.heap.size, 0, none⟩) 0 0] 110) = W1 at *
  clear hb1 HO1
  generalize w1.heap.size = Bx
  go_loop [4, 15] (fun vo iv => vo = .slice none 0 0 ∧ iv = .int .i64 0) (fun _ _ => 0)
  case atStart => exact ⟨rfl, rfl⟩
  case round =>
    obtain ⟨rfl, rfl⟩ := hrel
    have hS := AnyF.slices_SortFunc_none (P := Try.prog) (ρ := Try.sortI_ren) { Try.sortI with } none 0 (.func (.func 59) #[] #[.pointer (some ⟨Bx, 0, none⟩)]) W1
    change Calls Try.prog 58 _ _ _ at hS
    have HS := Lib.hid hS
    clear hS
    go_wp2_with (go_at_call 58; refine (HS.out).mono ?_; rintro e w2 ⟨rfl, rfl⟩)
    try rw [Exit.noGoto_ret]
    go_ret
    exact ⟨rfl, hb2.out⟩

theorem rank_any (v : Value) (l : List Zn) (now : Int) (hl : l.length ≤ 1000000) (w : World) (h : SlZ w v l) :
    Calls Try.prog 49 #[v, .int .i64 now] w fun e w' => ∃ v' r, e = .returned v' ∧ IsRank (scS l now) (okB l now) l.length r ∧ OwnN w' w.heap.size v' r ∧ Below w.heap.size w w' := by
  obtain ⟨a, cap, rfl, _⟩ := id h
  by_cases h0 : l.length = 0
  · rw [h0]
    refine (rank_none a cap now w).mono ?_
    rintro e w' ⟨rfl, hb⟩
    exact ⟨_, [], rfl, IsRank.start _ _, OwnN.nil _ _, hb⟩
  · obtain ⟨m, hm⟩ : ∃ m, l.length = m + 1 := ⟨l.length - 1, by omega⟩
    have h' := h
    rw [hm] at h' ⊢
    exact rank_some a m cap l now hm (by omega) w h'
theorem rrank_any (v : Value) (l : List Zn) (now : Int) (hl : l.length ≤ 1000000) (w : World) (h : SlZ w v l) :
    Calls Try.prog 41 #[v, .int .i64 now] w fun e w' => ∃ v' r, e = .returned v' ∧ IsRank (scS l now) (okB l now) l.length r ∧ OwnN w' w.heap.size v' r ∧ Below w.heap.size w w' := by
  obtain ⟨a, cap, rfl, _⟩ := id h
  exact rrank_any0 a cap l now hl w h

def chK (r : List Nat) : Nat := r.headD 0
def chE (r : List Nat) : Int := if r = [] then 14 else 0

set_option maxHeartbeats 800000 in
theorem choose_any (v : Value) (l : List Zn) (now : Int) (r : List Nat) (hr : IsRank (scS l now) (okB l now) l.length r) (hl : l.length ≤ 1000000) (w : World) (h : SlZ w v l) :
    Calls Try.prog 33 #[v, .int .i64 now] w fun e w' => e = .returned (.tuple #[.int .i64 (chK r), .int .i64 (chE r)]) ∧ Below w.heap.size w w' := by
  have C1 : Hid (Calls Try.prog 49 #[v, .int .i64 now] w fun e w' => ∃ v', e = .returned v' ∧ OwnN w' w.heap.size v' r ∧ Below w.heap.size w w') := by
    refine (rank_any v l now hl w h).mono ?_
    rintro e w' ⟨v', r', rfl, hr', ho, hb⟩
    obtain rfl := hr.unique hr'
    exact ⟨v', rfl, ho, hb⟩
  have hrl := hr.len
  clear h hr
  cases r with
  | nil =>
    go_enter Try.func33, Try.ntmps33
    go_wp2_with fail
    refine C1.out.mono ?_
    rintro e w1 ⟨v1, rfl, ho, hb⟩
    obtain ⟨a1, c1, rfl⟩ := ho.form
    have HB := Lib.hid hb
    clear ho hb
    rw [List.length_nil]
    go_wp2
    go_ret2
    exact ⟨rfl, HB.out⟩
  | cons x r =>
    go_enter Try.func33, Try.ntmps33
    go_wp2_with fail
    refine C1.out.mono ?_
    rintro e w1 ⟨v1, rfl, ho, hb⟩
    obtain ⟨g, c1, rfl, _, _⟩ := ho.at0 (by simp)
    have hc := (ho.cellOf 0 (by simp)).1
    rw [show (x :: r).getD 0 0 = x from rfl] at hc
    have HB := Lib.hid hb
    clear ho hb
    rw [List.length_cons] at hrl ⊢
    have hne : ((r.length : Int) + 1 == 0) = false := beq_eq_false_iff_ne.2 (by omega)
    go_wp2
    go_ret2
    exact ⟨rfl, HB.out⟩
end Go.Proofs.Ytkpnjehgbehhcaa
