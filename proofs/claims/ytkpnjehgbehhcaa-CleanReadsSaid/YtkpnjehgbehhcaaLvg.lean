/- clean's newest and living. -/
import Derived.Test.YtkpnjehgbehhcaaAp5
namespace Go.Proofs.Ytkpnjehgbehhcaa
open Go.RowKit

/-- the greatest time of the first k copies -/
def newN (l : List Cp) : Nat → Int
  | 0 => 0
  | k + 1 => if k = 0 ∨ newN l k < (l.getD k (0, 0)).2 then (l.getD k (0, 0)).2 else newN l k

/-- a copy's cells in every later world -/
def RdC (w : World) (B : Nat) (a : Option Addr) (l : List Cp) : Prop := ∀ i, i < l.length → ∃ b o, a = some ⟨b, o, none⟩ ∧
  ∀ w', Hid (Below B w w') → w'.cell? ⟨b, o + i * 2, none⟩ = some (.int .i64 (l.getD i (0, 0)).1) ∧ w'.cell? ⟨b, o + i * 2 + 1, none⟩ = some (.int .i64 (l.getD i (0, 0)).2)
theorem SlC.rd {w : World} {a : Option Addr} {m cap : Nat} {l : List Cp} (h : SlC w (.slice a m cap) l) {B : Nat} (hB : w.heap.size = B) : RdC w B a l := fun i hi => by
  obtain ⟨b, o, h1, h2, h3, h4⟩ := h.at rfl hi
  refine ⟨b, o, h1, fun w' hb => ⟨?_, ?_⟩⟩
  · rw [hb.out.cell (p := ⟨b, o + i * 2, none⟩) (by rw [← hB]; exact h2)]; exact h3
  · rw [hb.out.cell (p := ⟨b, o + i * 2 + 1, none⟩) (by rw [← hB]; exact h2)]; exact h4

set_option maxHeartbeats 1600000 in
set_option maxRecDepth 8000 in
theorem newest_any (v : Value) (l : List Cp) (w : World) (h : SlC w v l) :
    Calls Try.prog 38 #[v] w fun e w' => e = .returned (.int .i64 (newN l l.length)) ∧ Below w.heap.size w w' := by
  obtain ⟨a, cap, rfl, ha, hle, hcap⟩ := SlG.form h
  generalize hB : w.heap.size = B
  have hB0 : Hid (B ≤ w.heap.size) := Nat.le_of_eq hB.symm
  have HC := Lib.hid (h.rd hB)
  have hb00 : Hid (Below B w w) := Below.refl B w
  have HR : Hid (∀ k, newN l (k + 1) = if k = 0 ∨ newN l k < (l.getD k (0, 0)).2 then (l.getD k (0, 0)).2 else newN l k) := fun k => rfl
  clear h hB
  go_enter Try.func38, Try.ntmps38
  go_wp2
  go_loopw [7, 2] (fun i t wr => ∃ k : Nat, k ≤ l.length ∧ i = .int .i64 k ∧ t = .int .i64 (newN l k) ∧ Hid (Below B w wr)) (fun i _ _ => l.length - (intOf i).toNat)
  case atStart => exact ⟨0, Nat.zero_le _, rfl, rfl, hb00⟩
  case round =>
    obtain ⟨k, hk, rfl, rfl, hb⟩ := hrel
    by_cases hlt : k < l.length
    · obtain ⟨b, o, rfl, hcell⟩ := HC.out k hlt
      obtain ⟨c1, c2⟩ := hcell wr hb
      have hS : Hid (B ≤ wr.heap.size) := Nat.le_trans hB0.out hb.out.size
      have HR1 := Lib.hid (HR.out k)
      have hlt2 : (k : Int) < (l.length : Int) := by omega
      clear HC HR hcell
      generalize (l.getD k (0, 0)).2 = t1 at *
      generalize (l.getD k (0, 0)).1 = p1 at *
      generalize newN l k = nk at *
      have hbn : Hid (∀ o, Below B w (wr.alloc o)) := fun o => hb.out.alloc hS.out o
      by_cases hk0 : k = 0
      · have e : Hid (t1 = newN l (k + 1)) := by have h5 := HR1.out; rw [if_pos (.inl hk0)] at h5; exact h5.symm
        have hkz : ((k : Int) == 0) = true := by rw [hk0]; rfl
        clear HR1 hk0
        go_wp2
        exact ⟨⟨k + 1, by omega, by go_num, by rw [e.out], hbn.out _⟩, by simp [intOf]; omega⟩
      · have hkz : ((k : Int) == 0) = false := beq_eq_false_iff_ne.2 (by omega)
        by_cases hg : nk < t1
        · have hd : decide (nk < t1) = true := decide_eq_true hg
          have e : Hid (t1 = newN l (k + 1)) := by have h5 := HR1.out; rw [if_pos (.inr hg)] at h5; exact h5.symm
          clear HR1
          go_wp2
          exact ⟨⟨k + 1, by omega, by go_num, by rw [e.out], hbn.out _⟩, by simp [intOf]; omega⟩
        · have hd : decide (nk < t1) = false := decide_eq_false hg
          have e : Hid (nk = newN l (k + 1)) := by have h5 := HR1.out; rw [if_neg (by rintro (h | h); exact hk0 h; exact hg h)] at h5; exact h5.symm
          clear HR1
          go_wp2
          exact ⟨⟨k + 1, by omega, by go_num, by rw [e.out], hbn.out _⟩, by simp [intOf]; omega⟩
    · have : k = l.length := by omega
      subst this
      clear HC HR
      go_wp2
      go_ret
      exact ⟨rfl, hb.out⟩

def flatC (l : List Cp) : List Value := l.flatMap fun c => [.int .i64 c.1, .int .i64 c.2]
theorem flatC_len (l : List Cp) : (flatC l).length = l.length * 2 := by
  induction l with
  | nil => rfl
  | cons c l ih =>
    have e : flatC (c :: l) = [.int .i64 c.1, .int .i64 c.2] ++ flatC l := rfl
    rw [e, List.length_append, ih, List.length_cons]; simp; omega
theorem flatC_app (a b : List Cp) : flatC (a ++ b) = flatC a ++ flatC b := List.flatMap_append
theorem flatC_get (l : List Cp) : ∀ i, i < l.length → (flatC l)[i * 2]? = some (.int .i64 (l.getD i (0, 0)).1) ∧ (flatC l)[i * 2 + 1]? = some (.int .i64 (l.getD i (0, 0)).2) := by
  induction l with
  | nil => intro i hi; simp at hi
  | cons c l ih =>
    intro i hi
    have e : flatC (c :: l) = [.int .i64 c.1, .int .i64 c.2] ++ flatC l := rfl
    rw [e]
    cases i with
    | zero => exact ⟨rfl, rfl⟩
    | succ i =>
      obtain ⟨a, b⟩ := ih i (by simpa using hi)
      refine ⟨?_, ?_⟩
      · rw [List.getElem?_append_right (by simp; omega)]
        simpa [show (i + 1) * 2 - 2 = i * 2 by omega] using a
      · rw [List.getElem?_append_right (by simp; omega)]
        simpa [show (i + 1) * 2 + 1 - 2 = i * 2 + 1 by omega] using b
theorem flatC_one {l : List Cp} : ∀ u ∈ flatC l, u.oneCell' = true := fun u hu => by
  unfold flatC at hu
  obtain ⟨c, _, hc⟩ := List.mem_flatMap.1 hu
  simp only [List.mem_cons, List.not_mem_nil, or_false] at hc
  rcases hc with rfl | rfl <;> rfl
/-- a row of one's own that holds these copies -/
def OwnC (w : World) (B : Nat) (v : Value) (l : List Cp) : Prop := w.ownsRow B 33 2 v l.length (flatC l)
theorem infoC : (Try.prog.info? 33).map (fun i => (i.zero, i.size, i.bytes)) = some (some (.agg #[.int .i64 0, .int .i64 0]), 2, 16) := by kernel_rfl
theorem OwnC.slc {w : World} {B : Nat} {v : Value} {l : List Cp} (h : OwnC w B v l) : SlC w v l := by
  have h' := h
  obtain ⟨h1, ⟨rfl, h0⟩ | ⟨g, cap, cur, rfl, _, hg, hle, hm, _⟩⟩ := h
  · have : l = [] := List.eq_nil_of_length_eq_zero h0
    subst this
    exact SlG.nil _ _ _
  · refine ⟨_, cap, rfl, (fun h => by cases h), hle, by simpa [maxLen] using hm, fun i hi => ⟨g, 0, rfl, (Array.getElem?_eq_some_iff.1 hg).1, fun j hj => ?_⟩⟩
    obtain ⟨f0, f1⟩ := flatC_get l i hi
    match j, hj with
    | 0, _ => exact ⟨_, by rw [Nat.zero_add]; show w.cell? ⟨g, i * 2 + 0, none⟩ = _; rw [Nat.add_zero, World.ownsRow.cellAt h' (i * 2) (by omega)]; exact f0, .inl ⟨rfl, rfl⟩⟩
    | 1, _ => exact ⟨_, by rw [Nat.zero_add, World.ownsRow.cellAt h' (i * 2 + 1) (by omega)]; exact f1, .inr ⟨rfl, rfl⟩⟩
end Go.Proofs.Ytkpnjehgbehhcaa
