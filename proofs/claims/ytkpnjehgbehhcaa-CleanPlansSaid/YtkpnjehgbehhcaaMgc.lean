/- clean's newest and living. clean's living. -/
import Derived.Test.YtkpnjehgbehhcaaMgb
namespace Go.Proofs.Ytkpnjehgbehhcaa
open Go.RowKit

/-- the greatest time of the first k copies -/
def newN (l : List Cp) : Nat → Int
  | 0 => 0
  | k + 1 => if k = 0 ∨ newN l k < (l.getD k (0, 0)).2 then (l.getD k (0, 0)).2 else newN l k

/-- a copy's cells in every later world -/
def RdC (w : World) (B : Nat) (a : Option Addr) (l : List Cp) : Prop := ∀ i, i < l.length → ∃ b o, a = some ⟨b, o, none⟩ ∧
  ∀ w', Hid (Below B w w') → w'.cell? ⟨b, o + i * 2, none⟩ = some (.int .i64 (l.getD i (0, 0)).1) ∧ w'.cell? ⟨b, o + i * 2 + 1, none⟩ = some (.int .i64 (l.getD i (0, 0)).2)
theorem SlC.rd {w : World} {a : Option Addr} {m cap : Nat} {l : List Cp} (h : SlC w (.slice a m cap) l) {B : Nat} (hB : w.heap.size = B) : RdC w B a l := fun i hi => by
  obtain ⟨b, o, h1, h2, h3, h4⟩ := h.at rfl hi
  refine ⟨b, o, h1, fun w' hb => ⟨?_, ?_⟩⟩
  · rw [hb.out.cell (p := ⟨b, o + i * 2, none⟩) (by rw [← hB]; exact h2)]; exact h3
  · rw [hb.out.cell (p := ⟨b, o + i * 2 + 1, none⟩) (by rw [← hB]; exact h2)]; exact h4

set_option maxHeartbeats 1600000 in
set_option maxRecDepth 8000 in
theorem newest_any (v : Value) (l : List Cp) (w : World) (h : SlC w v l) :
    Calls Try.prog 38 #[v] w fun e w' => e = .returned (.int .i64 (newN l l.length)) ∧ Below w.heap.size w w' := by
  obtain ⟨a, cap, rfl, ha, hle, hcap⟩ := SlG.form h
  generalize hB : w.heap.size = B
  have hB0 : Hid (B ≤ w.heap.size) := Nat.le_of_eq hB.symm
  have HC := Lib.hid (h.rd hB)
  have hb00 : Hid (Below B w w) := Below.refl B w
  have HR : Hid (∀ k, newN l (k + 1) = if k = 0 ∨ newN l k < (l.getD k (0, 0)).2 then (l.getD k (0, 0)).2 else newN l k) := fun k => rfl
  clear h hB
  go_enter Try.func38, Try.ntmps38
  go_wp2
  go_loopw [7, 2] (fun i t wr => ∃ k : Nat, k ≤ l.length ∧ i = .int .i64 k ∧ t = .int .i64 (newN l k) ∧ Hid (Below B w wr)) (fun i _ _ => l.length - (intOf i).toNat)
  case atStart => exact ⟨0, Nat.zero_le _, rfl, rfl, hb00⟩
  case round =>
    obtain ⟨k, hk, rfl, rfl, hb⟩ := hrel
    by_cases hlt : k < l.length
    · obtain ⟨b, o, rfl, hcell⟩ := HC.out k hlt
      obtain ⟨c1, c2⟩ := hcell wr hb
      have hS : Hid (B ≤ wr.heap.size) := Nat.le_trans hB0.out hb.out.size
      have HR1 := Lib.hid (HR.out k)
      have hlt2 : (k : Int) < (l.length : Int) := by omega
      clear HC HR hcell
      generalize (l.getD k (0, 0)).2 = t1 at *
      generalize (l.getD k (0, 0)).1 = p1 at *
      generalize newN l k = nk at *
      have hbn : Hid (∀ o, Below B w (wr.alloc o)) := fun o => hb.out.alloc hS.out o
      by_cases hk0 : k = 0
      · have e : Hid (t1 = newN l (k + 1)) := by have h5 := HR1.out; rw [if_pos (.inl hk0)] at h5; exact h5.symm
        have hkz : ((k : Int) == 0) = true := by rw [hk0]; rfl
        clear HR1 hk0
        go_wp2
        exact ⟨⟨k + 1, by omega, by go_num, by rw [e.out], hbn.out _⟩, by simp [intOf]; omega⟩
      · have hkz : ((k : Int) == 0) = false := beq_eq_false_iff_ne.2 (by omega)
        by_cases hg : nk < t1
        · have hd : decide (nk < t1) = true := decide_eq_true hg
          have e : Hid (t1 = newN l (k + 1)) := by have h5 := HR1.out; rw [if_pos (.inr hg)] at h5; exact h5.symm
          clear HR1
          go_wp2
          exact ⟨⟨k + 1, by omega, by go_num, by rw [e.out], hbn.out _⟩, by simp [intOf]; omega⟩
        · have hd : decide (nk < t1) = false := decide_eq_false hg
          have e : Hid (nk = newN l (k + 1)) := by have h5 := HR1.out; rw [if_neg (by rintro (h | h); exact hk0 h; exact hg h)] at h5; exact h5.symm
          clear HR1
          go_wp2
          exact ⟨⟨k + 1, by omega, by go_num, by rw [e.out], hbn.out _⟩, by simp [intOf]; omega⟩
    · have : k = l.length := by omega
      subst this
      clear HC HR
      go_wp2
      go_ret
      exact ⟨rfl, hb.out⟩

def flatC (l : List Cp) : List Value := l.flatMap fun c => [.int .i64 c.1, .int .i64 c.2]
theorem flatC_len (l : List Cp) : (flatC l).length = l.length * 2 := by
  induction l with
  | nil => rfl
  | cons c l ih =>
    have e : flatC (c :: l) = [.int .i64 c.1, .int .i64 c.2] ++ flatC l := rfl
    rw [e, List.length_append, ih, List.length_cons]; simp; omega
theorem flatC_app (a b : List Cp) : flatC (a ++ b) = flatC a ++ flatC b := List.flatMap_append
theorem flatC_get (l : List Cp) : ∀ i, i < l.length → (flatC l)[i * 2]? = some (.int .i64 (l.getD i (0, 0)).1) ∧ (flatC l)[i * 2 + 1]? = some (.int .i64 (l.getD i (0, 0)).2) := by
  induction l with
  | nil => intro i hi; simp at hi
  | cons c l ih =>
    intro i hi
    have e : flatC (c :: l) = [.int .i64 c.1, .int .i64 c.2] ++ flatC l := rfl
    rw [e]
    cases i with
    | zero => exact ⟨rfl, rfl⟩
    | succ i =>
      obtain ⟨a, b⟩ := ih i (by simpa using hi)
      refine ⟨?_, ?_⟩
      · rw [List.getElem?_append_right (by simp; omega)]
        simpa [show (i + 1) * 2 - 2 = i * 2 by omega] using a
      · rw [List.getElem?_append_right (by simp; omega)]
        simpa [show (i + 1) * 2 + 1 - 2 = i * 2 + 1 by omega] using b
theorem flatC_one {l : List Cp} : ∀ u ∈ flatC l, u.oneCell' = true := fun u hu => by
  unfold flatC at hu
  obtain ⟨c, _, hc⟩ := List.mem_flatMap.1 hu
  simp only [List.mem_cons, List.not_mem_nil, or_false] at hc
  rcases hc with rfl | rfl <;> rfl
/-- a row of one's own that holds these copies -/
def OwnC (w : World) (B : Nat) (v : Value) (l : List Cp) : Prop := w.ownsRow B 33 2 v l.length (flatC l)
theorem infoC : (Try.prog.info? 33).map (fun i => (i.zero, i.size, i.bytes)) = some (some (.agg #[.int .i64 0, .int .i64 0]), 2, 16) := by kernel_rfl
theorem OwnC.slc {w : World} {B : Nat} {v : Value} {l : List Cp} (h : OwnC w B v l) : SlC w v l := by
  have h' := h
  obtain ⟨h1, ⟨rfl, h0⟩ | ⟨g, cap, cur, rfl, _, hg, hle, hm, _⟩⟩ := h
  · have : l = [] := List.eq_nil_of_length_eq_zero h0
    subst this
    exact SlG.nil _ _ _
  · refine ⟨_, cap, rfl, (fun h => by cases h), hle, by simpa [maxLen] using hm, fun i hi => ⟨g, 0, rfl, (Array.getElem?_eq_some_iff.1 hg).1, fun j hj => ?_⟩⟩
    obtain ⟨f0, f1⟩ := flatC_get l i hi
    match j, hj with
    | 0, _ => exact ⟨_, by rw [Nat.zero_add]; show w.cell? ⟨g, i * 2 + 0, none⟩ = _; rw [Nat.add_zero, World.ownsRow.cellAt h' (i * 2) (by omega)]; exact f0, .inl ⟨rfl, rfl⟩⟩
    | 1, _ => exact ⟨_, by rw [Nat.zero_add, World.ownsRow.cellAt h' (i * 2 + 1) (by omega)]; exact f1, .inr ⟨rfl, rfl⟩⟩
end Go.Proofs.Ytkpnjehgbehhcaa
namespace Go.Proofs.Ytkpnjehgbehhcaa
open Go.RowKit

theorem ownsRow_after {w w' : World} {B : Nat} {e : TypeId} {k n : Nat} {v : Value} {xs : List Value} (h : w.ownsRow B e k v n xs) (hb : Below w.heap.size w w') : w'.ownsRow B e k v n xs :=
  ownsRow_keep h fun g hg => by
    obtain ⟨_, cur, h1⟩ := ownsRow_block h hg
    exact hb.block g (Array.getElem?_eq_some_iff.1 h1).1
theorem below_own {w w' w0 : World} {B B' n k : Nat} {e : TypeId} {v : Value} {xs : List Value} (h : w.ownsRow B e k v n xs) (hg : w.grownBy w' v.ownBlock) (hb : Below B' w0 w) (hB : B' ≤ B) (hs : B' ≤ w.heap.size) : Below B' w0 w' :=
  hb.grown hg hs fun _ hk => Nat.le_trans hB (ownsRow_block h hk).1

theorem take_filter {l : List Cp} {f : Cp → Bool} {k : Nat} (hk : k < l.length) : (l.take (k + 1)).filter f = (l.take k).filter f ++ (if f (l.getD k (0, 0)) = true then [l.getD k (0, 0)] else []) := by
  rw [List.take_add_one, List.getElem?_eq_getElem hk, List.filter_append, List.getD_eq_getElem?_getD, List.getElem?_eq_getElem hk]
  congr 1
  simp only [Option.toList_some, Option.getD_some, List.filter_cons, List.filter_nil]

set_option maxHeartbeats 3200000 in
set_option maxRecDepth 8000 in
theorem living_any {Bm p : Nat} {V : Int → List Int} {last : Int} {n : Nat} (v : Value) (l : List Cp) (hl : l.length ≤ 1000000) (hz : Int) (w : World) (h : SlC w v l) (hM : Mp w Bm p V last n) :
    Calls Try.prog 34 #[.pointer (some ⟨p, 0, none⟩), v, .int .i64 hz] w fun e w' => (∃ v', e = .returned v' ∧ OwnC w' w.heap.size v' (l.filter fun c => liveV V c hz)) ∧ Below w.heap.size w w' := by
  obtain ⟨a, cap, rfl, ha, hle, hcap⟩ := SlG.form h
  have HM : Hid (∀ w', Hid (Below w.heap.size w w') → Mp w' Bm p V last n) := fun w' hb => hM.below hb.out
  generalize hB : w.heap.size = B at *
  have hB0 : Hid (B ≤ w.heap.size) := Nat.le_of_eq hB.symm
  have HC := Lib.hid (h.rd hB)
  have hb00 : Hid (Below B w w) := Below.refl B w
  have HT : Hid (∀ k, k < l.length → (l.take (k + 1)).filter (fun c => liveV V c hz) = (l.take k).filter (fun c => liveV V c hz) ++ (if liveV V (l.getD k (0, 0)) hz = true then [l.getD k (0, 0)] else [])) := fun k hk => take_filter hk
  have HLN : Hid (∀ k, ((l.take k).filter (fun c => liveV V c hz)).length ≤ 1000000) := fun k => by
    have h1 := List.length_filter_le (fun c => liveV V c hz) (l.take k)
    rw [List.length_take] at h1
    omega
  have HTA : Hid (l.take l.length = l) := List.take_length
  clear h hM hB
  go_enter Try.func34, Try.ntmps34
  go_wp2
  go_loopw [11, 6] (fun i vo wr => ∃ (k : Nat) (v1 : Value), k ≤ l.length ∧ i = .int .i64 k ∧ vo = v1 ∧ Hid (OwnC wr B v1 ((l.take k).filter fun c => liveV V c hz)) ∧ Hid (Below B w wr)) (fun i _ _ => l.length - (intOf i).toNat)
  case atStart => exact ⟨0, _, Nat.zero_le _, rfl, rfl, World.ownsRow_nil w B _ 2, hb00⟩
  case round =>
    obtain ⟨k, v1, hk, rfl, rfl, ho, hb⟩ := hrel
    by_cases hlt : k < l.length
    · obtain ⟨b, o, rfl, hcell⟩ := HC.out k hlt
      obtain ⟨c1, c2⟩ := hcell wr hb
      have hS : B ≤ wr.heap.size := Nat.le_trans hB0.out hb.out.size
      have HT1 := Lib.hid (HT.out k hlt)
      have HLN1 := HLN.out k
      have hlt2 : (k : Int) < (l.length : Int) := by omega
      have HQ : Hid (∀ w' : World, Hid (Below B w w') → Calls Try.prog 12 #[.pointer (some ⟨p, 0, none⟩), .agg #[.int .i64 (l.getD k (0, 0)).1, .int .i64 (l.getD k (0, 0)).2], .int .i64 hz] w' fun e w'' => e = .returned (.bool (liveV V (l.getD k (0, 0)) hz)) ∧ Below w'.heap.size w' w'') := fun w' hb' => live_any (l.getD k (0, 0)) hz w' (HM.out w' hb')
      have HT2 : Hid (if liveV V (l.getD k (0, 0)) hz = true then flatC ((l.take (k + 1)).filter fun c => liveV V c hz) = flatC ((l.take k).filter fun c => liveV V c hz) ++ [.int .i64 (l.getD k (0, 0)).1, .int .i64 (l.getD k (0, 0)).2] ∧ ((l.take (k + 1)).filter fun c => liveV V c hz).length = ((l.take k).filter fun c => liveV V c hz).length + 1
          else (l.take (k + 1)).filter (fun c => liveV V c hz) = (l.take k).filter fun c => liveV V c hz) := by
        have h5 := HT1.out
        by_cases hq : liveV V (l.getD k (0, 0)) hz = true
        · rw [if_pos hq] at h5 ⊢
          rw [h5, flatC_app, List.length_append]
          exact ⟨rfl, rfl⟩
        · rw [if_neg hq] at h5 ⊢
          exact h5.trans (List.append_nil _)
      clear HT HT1 HLN HC hcell HM
      generalize (l.getD k (0, 0)) = cc at *
      obtain ⟨p1, t1⟩ := cc
      simp only at c1 c2
      have hb1 : Hid (Below B w (wr.alloc (.cells #[.int .i64 p1, .int .i64 t1] 33))) := hb.out.alloc hS _
      have HW := Lib.hid (HQ.out _ hb1)
      have hb01 : Below wr.heap.size wr (wr.alloc (.cells #[.int .i64 p1, .int .i64 t1] 33)) := (Below.refl _ _).alloc (Nat.le_refl _) _
      have HO1 : Hid ((wr.alloc (.cells #[.int .i64 p1, .int .i64 t1] 33)).ownsRow B 33 2 u6 ((l.take k).filter fun c => liveV V c hz).length (flatC ((l.take k).filter fun c => liveV V c hz))) := ownsRow_after ho.out hb01
      have hS1 : Hid (B ≤ (wr.alloc (.cells #[.int .i64 p1, .int .i64 t1] 33)).heap.size) := Nat.le_trans hB0.out hb1.out.size
      have z0 : (wr.alloc (.cells #[.int .i64 p1, .int .i64 t1] 33)).cell? ⟨wr.heap.size, 0, none⟩ = some (.int .i64 p1) := World.cell?_alloc_at _ _ _ 0 rfl
      have z1 : (wr.alloc (.cells #[.int .i64 p1, .int .i64 t1] 33)).cell? ⟨wr.heap.size, 1, none⟩ = some (.int .i64 t1) := World.cell?_alloc_at _ _ _ 1 rfl
      clear hb01 HQ
      cases hlv : liveV V (p1, t1) hz with
      | true =>
        rw [hlv] at HW HT2
        have HT3 : Hid (flatC ((l.take (k + 1)).filter fun c => liveV V c hz) = flatC ((l.take k).filter fun c => liveV V c hz) ++ [.int .i64 p1, .int .i64 t1] ∧ ((l.take (k + 1)).filter fun c => liveV V c hz).length = ((l.take k).filter fun c => liveV V c hz).length + 1) := HT2.out
        clear hlv HT2
        go_wp2_with (first
          | (go_at_call 12; refine HW.out.mono ?_; rintro e w1 ⟨rfl, hb2⟩
             have y0 := cell_keep z0 hb2
             have y1 := cell_keep z1 hb2
             have HO2 := Lib.hid (ownsRow_after HO1.out hb2)
             have hb3 : Hid (Below B w w1) := hb1.out.trans (hb2.mono hS1.out)
             have hS2 : Hid (B ≤ w1.heap.size) := Nat.le_trans hB0.out hb3.out.size
             clear hb2)
          | (at_builtin; refine wpList_appG rfl _ _ B 31 33 (.agg #[.int .i64 0, .int .i64 0]) 2 16 rfl Try.underlying31 infoC rfl (by decide) u6 _ _ rfl
               (ownsRow_after HO2.out ((Below.refl _ _).alloc (Nat.le_refl _) _)) _ 1 [.int .i64 p1, .int .i64 t1] rfl (Src.new w1 [.int .i64 p1, .int .i64 t1] 33 1) rfl (by intro u hu; simp at hu; rcases hu with rfl | rfl <;> rfl) (by omega) (by unfold maxLen; omega) (by have := hS2.out; simp; omega) ?_
             intro v2 w2 ho2 hg2 _
             have hb4 : Hid (Below B w w2) := below_own (ownsRow_after HO2.out ((Below.refl _ _).alloc (Nat.le_refl _) _)) hg2 (hb3.out.alloc hS2.out _) (Nat.le_refl _) (by have := hS2.out; simp; omega)
             have HO3 : Hid (OwnC w2 B v2 ((l.take (k + 1)).filter fun c => liveV V c hz)) := by
               show w2.ownsRow _ _ _ _ _ _
               rw [HT3.out.1, HT3.out.2]
               exact ho2
             clear ho2 hg2)
          | fail)
        exact ⟨⟨k + 1, _, by omega, by go_num, rfl, HO3, hb4⟩, by simp [intOf]; omega⟩
      | false =>
        rw [hlv] at HW HT2
        have HT3 : Hid ((l.take (k + 1)).filter (fun c => liveV V c hz) = (l.take k).filter fun c => liveV V c hz) := HT2.out
        clear hlv HT2
        go_wp2_with (first
          | (go_at_call 12; refine HW.out.mono ?_; rintro e w1 ⟨rfl, hb2⟩
             have HO2 := Lib.hid (ownsRow_after HO1.out hb2)
             have hb3 : Hid (Below B w w1) := hb1.out.trans (hb2.mono hS1.out)
             clear hb2)
          | fail)
        refine ⟨⟨k + 1, _, by omega, by go_num, rfl, ?_, hb3⟩, by simp [intOf]; omega⟩
        rw [HT3.out]
        exact HO2
    · have : k = l.length := by omega
      subst this
      clear HC HT HLN HM
      go_wp2
      go_ret
      refine ⟨⟨_, rfl, ?_⟩, hb.out⟩
      have h5 := ho.out
      rw [HTA.out] at h5
      exact h5
end Go.Proofs.Ytkpnjehgbehhcaa
