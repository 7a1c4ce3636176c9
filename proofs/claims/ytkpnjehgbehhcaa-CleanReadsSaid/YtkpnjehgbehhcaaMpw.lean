/- extmap's readers: gone, Blocks, block, at, Get; the library's Clone at bytes; clean's Live. -/
import Derived.Test.YtkpnjehgbehhcaaMpx
import Derived.Maps.OwnOps
import Derived.WalkMore
import Derived.Deep.LoopGhost
namespace Go.Proofs.Ytkpnjehgbehhcaa
open Go.RowKit

/-- p leads to a map of 30 blocks with the versions V, last the greatest time -/
def Mp (w : World) (B p : Nat) (V : Int → List Int) (last : Int) (n : Nat) : Prop :=
  B ≤ p ∧ ∃ b, w.heap[p]? = some (Obj.cells #[.int .i64 30, .map (some b), .int .i64 last] 89 (0, 0)) ∧ Ma w B b V n
theorem Mp.keep {w w' : World} {B p : Nat} {V : Int → List Int} {last : Int} {n : Nat} (h : Mp w B p V last n) (hk : ∀ g, g < w.heap.size → w'.heap[g]? = w.heap[g]?) : Mp w' B p V last n := by
  obtain ⟨h0, b, h1, h2⟩ := h
  exact ⟨h0, b, by rw [hk p ((Array.getElem?_eq_some_iff.1 h1).1)]; exact h1, h2.keep hk⟩
theorem Mp.below {w w' : World} {B p : Nat} {V : Int → List Int} {last : Int} {n : Nat} (h : Mp w B p V last n) (hb : Below w.heap.size w w') : Mp w' B p V last n :=
  h.keep fun g hg => hb.block g hg
theorem Mp.cells {w : World} {B p : Nat} {V : Int → List Int} {last : Int} {n : Nat} (h : Mp w B p V last n) :
    p < w.heap.size ∧ w.cell? ⟨p, 0, none⟩ = some (.int .i64 30) ∧ (∃ b, w.cell? ⟨p, 1, none⟩ = some (.map (some b)) ∧ Ma w B b V n) ∧ w.cell? ⟨p, 2, none⟩ = some (.int .i64 last) := by
  obtain ⟨_, b, h1, h2⟩ := h
  refine ⟨(Array.getElem?_eq_some_iff.1 h1).1, ?_, ⟨b, ?_, h2⟩, ?_⟩ <;> simp [World.cell?, h1]

theorem gone_any (p : Nat) (w : World) (h : w.cell? ⟨p, 0, none⟩ = some (.int .i64 30)) :
    Calls Try.prog 44 #[.pointer (some ⟨p, 0, none⟩)] w fun e w' => e = .returned (.bool false) ∧ w' = w := by
  go_enter Try.func44, Try.ntmps44
  go_wp2
  go_ret
  exact ⟨rfl, rfl⟩
theorem blocks_any (p : Nat) (w : World) (h : w.cell? ⟨p, 0, none⟩ = some (.int .i64 30)) :
    Calls Try.prog 50 #[.pointer (some ⟨p, 0, none⟩)] w fun e w' => e = .returned (.int .i64 30) ∧ w' = w := by
  go_enter Try.func50, Try.ntmps50
  go_wp2
  go_ret
  exact ⟨rfl, rfl⟩
def inB (k : Int) : Bool := decide (0 ≤ k) && decide (k < 30)
theorem block_any (p : Nat) (k : Int) (w : World) (h : w.cell? ⟨p, 0, none⟩ = some (.int .i64 30)) :
    Calls Try.prog 35 #[.pointer (some ⟨p, 0, none⟩), .int .i64 k] w fun e w' => e = .returned (.bool (inB k)) ∧ w' = w := by
  unfold inB
  go_enter Try.func35, Try.ntmps35
  by_cases h0 : 0 ≤ k
  · have e : decide (0 ≤ k) = true := decide_eq_true h0
    rw [e]
    go_wp2_with (go_at_call 50; refine (blocks_any p _ h).mono ?_; rintro e w' ⟨rfl, rfl⟩)
    go_ret
    exact ⟨rfl, rfl⟩
  · have e : decide (0 ≤ k) = false := decide_eq_false h0
    rw [e]
    go_wp2
    go_ret
    exact ⟨rfl, rfl⟩

theorem Dat.form {w : World} {B : Nat} {v : Value} (h : Dat w B v) : ∃ g cap, v = .slice (some ⟨g, 0, none⟩) 40 cap ∧ g < w.heap.size ∧ ∀ i, i < 40 → ∃ k, w.cell? ⟨g, i, none⟩ = some (.int .u8 k) := by
  obtain ⟨xs, h1, h2⟩ := h
  have h1' := h1
  obtain ⟨h3, ⟨_, h4⟩ | ⟨g, cap, cur, rfl, _, h5, _⟩⟩ := h1
  · cases h4
  · refine ⟨g, cap, rfl, (Array.getElem?_eq_some_iff.1 h5).1, fun i hi => ?_⟩
    have h6 := World.ownsRow.cellAt h1' i (by omega)
    rw [h6, List.getElem?_eq_getElem (by omega)]
    obtain ⟨k, hk⟩ := h2 _ (List.getElem_mem (show i < xs.length by omega))
    exact ⟨k, by rw [hk]⟩
theorem RowV.form {w : World} {B : Nat} {v : Value} {ts : List Int} (h : RowV w B v ts) :
    ∃ a cap, v = .slice a ts.length cap ∧ ts.length ≤ 9223372036854775807 ∧ ∀ i, i < ts.length → ∃ g d, a = some ⟨g, 0, none⟩ ∧ g < w.heap.size ∧ w.cell? ⟨g, i * 2, none⟩ = some (.int .i64 (ts.getD i 0)) ∧ w.cell? ⟨g, i * 2 + 1, none⟩ = some d ∧ Dat w B d := by
  obtain ⟨rs, rfl, h1, h2⟩ := h
  have h1' := h1
  obtain ⟨h3, ⟨rfl, h4⟩ | ⟨g, cap, cur, rfl, _, h5, h6, h7, _⟩⟩ := h1
  · have : rs = [] := List.eq_nil_of_length_eq_zero h4
    subst this
    exact ⟨none, 0, rfl, by decide, fun i hi => absurd hi (Nat.not_lt_zero _)⟩
  · refine ⟨some ⟨g, 0, none⟩, cap, by rw [List.length_map], by rw [List.length_map]; simp only [maxLen] at h7; omega, fun i hi => ?_⟩
    rw [List.length_map] at hi
    obtain ⟨f0, f1⟩ := flatV_get rs i hi
    refine ⟨g, rs[i].2, rfl, (Array.getElem?_eq_some_iff.1 h5).1, ?_, ?_, h2 _ (List.getElem_mem hi)⟩
    · rw [World.ownsRow.cellAt h1' (i * 2) (by omega), f0, List.getD_eq_getElem?_getD, List.getElem?_map, List.getElem?_eq_getElem hi]
      rfl
    · rw [World.ownsRow.cellAt h1' (i * 2 + 1) (by omega), f1]

/-- how many versions stand up to the newest one that is not above t, among the first k -/
def atN (ts : List Int) (t : Int) : Nat → Nat
  | 0 => 0
  | k + 1 => if ts.getD k 0 ≤ t then k + 1 else atN ts t k
theorem atN_le (ts : List Int) (t : Int) : ∀ k, atN ts t k ≤ k
  | 0 => Nat.le_refl _
  | k + 1 => by unfold atN; split; exact Nat.le_refl _; have := atN_le ts t k; omega

/-- 'm[k]' at the operation, its run being known -/
theorem wpList_look {P : Program} {w : World} {ops : Array Oper} {rest : List Oper} {o : Oper} {a : Act} {Q : Exit → Act → World → Prop} (hg : o.guard = none) (m x : Operand) (t : TypeId) (hop : o.op = Op.lookup t m x false)
    (mv xv v : Value) (hm : a.eval m = mv) (hx : a.eval x = xv) (hrun : (Instr.lookup t mv xv false).run P w = .ok v w) (hK : wpList P ops Q rest (a.put o.dst v) w) : wpList P ops Q (o :: rest) a w := by
  refine wpList_plain hg fun K' hK' => ?_
  unfold Oper.wp
  simp [execOp, hop, hm, hx, hrun, Result.andThen]
  exact hK' _ _ hK

set_option maxHeartbeats 1600000 in
set_option maxRecDepth 8000 in
theorem at_any {B p : Nat} {V : Int → List Int} {last : Int} {n : Nat} (k t : Int) (hk : inB k = true) (w : World) (h : Mp w B p V last n) :
    Calls Try.prog 36 #[.pointer (some ⟨p, 0, none⟩), .int .i64 k, .int .i64 t] w fun e w' => e = .returned (.int .i64 ((atN (V k) t (V k).length : Nat) - 1 : Int)) ∧ w' = w := by
  have hk' : 0 ≤ k ∧ k < 30 := by unfold inB at hk; simpa using hk
  obtain ⟨_, _, ⟨b, c1, hm⟩, _⟩ := h.cells
  obtain ⟨v, hrun, hrow, _⟩ := hm.look hk'
  obtain ⟨a, cap, rfl, hlen, hrd⟩ := hrow.form
  have HC : Hid (∀ i, i < (V k).length → ∃ g, a = some ⟨g, 0, none⟩ ∧ w.cell? ⟨g, i * 2, none⟩ = some (.int .i64 ((V k).getD i 0))) := fun i hi => by
    obtain ⟨g, _, h1, _, h2, _⟩ := hrd i hi
    exact ⟨g, h1, h2⟩
  have HR := Lib.hid hrun
  rename_i q1 q2 q3 q4
  clear hm hrow h hrd hk hrun q1 q2 q3 q4
  generalize V k = ts at *
  have HA : Hid (∀ q, atN ts t (q + 1) = if ts.getD q 0 ≤ t then q + 1 else atN ts t q) := fun q => rfl
  have HA0 : Hid (atN ts t 0 = 0) := rfl
  go_enter Try.func36, Try.ntmps36
  go_wp2
  go_step3
  go_wp2_with (first | (at_lookup; refine wpList_look rfl _ _ _ rfl _ _ _ rfl rfl HR.out ?_) | fail)
  go_step3
  go_wp2
  go_loop [8] (fun i => ∃ j : Nat, j ≤ ts.length ∧ i = .int .i64 ((j : Int) - 1) ∧ Hid (atN ts t j = atN ts t ts.length)) (fun i => (intOf i + 1).toNat)
  case atStart => exact ⟨ts.length, Nat.le_refl _, rfl, rfl⟩
  case round =>
    obtain ⟨j, hj, rfl, hS⟩ := hrel
    cases j with
    | zero =>
      have e0 : Hid (atN ts t ts.length = 0) := hS.out.symm
      clear HC HA HA0 hS
      go_wp2
      try rw [Exit.noGoto_ret]
      go_ret
      rw [e0.out]
      exact ⟨rfl, rfl⟩
    | succ j =>
      have hqz : (((j + 1 : Nat) : Int) - 1) = (j : Int) := by omega
      rw [hqz]
      obtain ⟨g, rfl, hc⟩ := HC.out j (by omega)
      have hS2 : Hid (atN ts t ts.length = if ts.getD j 0 ≤ t then j + 1 else atN ts t j) := hS.out.symm
      have hlt : (j : Int) < (ts.length : Int) := by omega
      clear HC HA HA0 hS hqz
      generalize ts.getD j 0 = x at *
      by_cases hx : x ≤ t
      · go_wp2
        try rw [Exit.noGoto_ret]
        go_ret
        have := hS2.out
        rw [if_pos hx] at this
        rw [this]
        refine ⟨?_, rfl⟩
        have e : (((j + 1 : Nat) : Int) - 1) = (j : Int) := by omega
        rw [e]
        rfl
      · have hd : decide (x ≤ t) = false := decide_eq_false hx
        go_wp2
        have := hS2.out
        rw [if_neg hx] at this
        exact ⟨⟨j, by omega, rfl, this.symm⟩, by simp [intOf]⟩
end Go.Proofs.Ytkpnjehgbehhcaa
