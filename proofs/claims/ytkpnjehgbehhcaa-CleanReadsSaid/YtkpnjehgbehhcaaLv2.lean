/- clean's living. -/
import Derived.Test.YtkpnjehgbehhcaaLvg
namespace Go.Proofs.Ytkpnjehgbehhcaa
open Go.RowKit

theorem ownsRow_after {w w' : World} {B : Nat} {e : TypeId} {k n : Nat} {v : Value} {xs : List Value} (h : w.ownsRow B e k v n xs) (hb : Below w.heap.size w w') : w'.ownsRow B e k v n xs :=
  ownsRow_keep h fun g hg => by
    obtain ⟨_, cur, h1⟩ := ownsRow_block h hg
    exact hb.block g (Array.getElem?_eq_some_iff.1 h1).1
theorem below_own {w w' w0 : World} {B B' n k : Nat} {e : TypeId} {v : Value} {xs : List Value} (h : w.ownsRow B e k v n xs) (hg : w.grownBy w' v.ownBlock) (hb : Below B' w0 w) (hB : B' ≤ B) (hs : B' ≤ w.heap.size) : Below B' w0 w' :=
  hb.grown hg hs fun _ hk => Nat.le_trans hB (ownsRow_block h hk).1

theorem take_filter {l : List Cp} {f : Cp → Bool} {k : Nat} (hk : k < l.length) : (l.take (k + 1)).filter f = (l.take k).filter f ++ (if f (l.getD k (0, 0)) = true then [l.getD k (0, 0)] else []) := by
  rw [List.take_add_one, List.getElem?_eq_getElem hk, List.filter_append, List.getD_eq_getElem?_getD, List.getElem?_eq_getElem hk]
  congr 1
  simp only [Option.toList_some, Option.getD_some, List.filter_cons, List.filter_nil]

set_option maxHeartbeats 3200000 in
set_option maxRecDepth 8000 in
theorem living_any {Bm p : Nat} {V : Int → List Int} {last : Int} {n : Nat} (v : Value) (l : List Cp) (hl : l.length ≤ 1000000) (hz : Int) (w : World) (h : SlC w v l) (hM : Mp w Bm p V last n) :
    Calls Try.prog 34 #[.pointer (some ⟨p, 0, none⟩), v, .int .i64 hz] w fun e w' => (∃ v', e = .returned v' ∧ OwnC w' w.heap.size v' (l.filter fun c => liveV V c hz)) ∧ Below w.heap.size w w' := by
  obtain ⟨a, cap, rfl, ha, hle, hcap⟩ := SlG.form h
  have HM : Hid (∀ w', Hid (Below w.heap.size w w') → Mp w' Bm p V last n) := fun w' hb => hM.below hb.out
  generalize hB : w.heap.size = B at *
  have hB0 : Hid (B ≤ w.heap.size) := Nat.le_of_eq hB.symm
  have HC := Lib.hid (h.rd hB)
  have hb00 : Hid (Below B w w) := Below.refl B w
  have HT : Hid (∀ k, k < l.length → (l.take (k + 1)).filter (fun c => liveV V c hz) = (l.take k).filter (fun c => liveV V c hz) ++ (if liveV V (l.getD k (0, 0)) hz = true then [l.getD k (0, 0)] else [])) := fun k hk => take_filter hk
  have HLN : Hid (∀ k, ((l.take k).filter (fun c => liveV V c hz)).length ≤ 1000000) := fun k => by
    have h1 := List.length_filter_le (fun c => liveV V c hz) (l.take k)
    rw [List.length_take] at h1
    omega
  have HTA : Hid (l.take l.length = l) := List.take_length
  clear h hM hB
  go_enter Try.func34, Try.ntmps34
  go_wp2
  go_loopw [11, 6] (fun i vo wr => ∃ (k : Nat) (v1 : Value), k ≤ l.length ∧ i = .int .i64 k ∧ vo = v1 ∧ Hid (OwnC wr B v1 ((l.take k).filter fun c => liveV V c hz)) ∧ Hid (Below B w wr)) (fun i _ _ => l.length - (intOf i).toNat)
  case atStart => exact ⟨0, _, Nat.zero_le _, rfl, rfl, World.ownsRow_nil w B _ 2, hb00⟩
  case round =>
    obtain ⟨k, v1, hk, rfl, rfl, ho, hb⟩ := hrel
    by_cases hlt : k < l.length
    · obtain ⟨b, o, rfl, hcell⟩ := HC.out k hlt
      obtain ⟨c1, c2⟩ := hcell wr hb
      have hS : B ≤ wr.heap.size := Nat.le_trans hB0.out hb.out.size
      have HT1 := Lib.hid (HT.out k hlt)
      have HLN1 := HLN.out k
      have hlt2 : (k : Int) < (l.length : Int) := by omega
      have HQ : Hid (∀ w' : World, Hid (Below B w w') → Calls Try.prog 12 #[.pointer (some ⟨p, 0, none⟩), .agg #[.int .i64 (l.getD k (0, 0)).1, .int .i64 (l.getD k (0, 0)).2], .int .i64 hz] w' fun e w'' => e = .returned (.bool (liveV V (l.getD k (0, 0)) hz)) ∧ Below w'.heap.size w' w'') := fun w' hb' => live_any (l.getD k (0, 0)) hz w' (HM.out w' hb')
      have HT2 : Hid (if liveV V (l.getD k (0, 0)) hz = true then flatC ((l.take (k + 1)).filter fun c => liveV V c hz) = flatC ((l.take k).filter fun c => liveV V c hz) ++ [.int .i64 (l.getD k (0, 0)).1, .int .i64 (l.getD k (0, 0)).2] ∧ ((l.take (k + 1)).filter fun c => liveV V c hz).length = ((l.take k).filter fun c => liveV V c hz).length + 1
          else (l.take (k + 1)).filter (fun c => liveV V c hz) = (l.take k).filter fun c => liveV V c hz) := by
        have h5 := HT1.out
        by_cases hq : liveV V (l.getD k (0, 0)) hz = true
        · rw [if_pos hq] at h5 ⊢
          rw [h5, flatC_app, List.length_append]
          exact ⟨rfl, rfl⟩
        · rw [if_neg hq] at h5 ⊢
          exact h5.trans (List.append_nil _)
      clear HT HT1 HLN HC hcell HM
      generalize (l.getD k (0, 0)) = cc at *
      obtain ⟨p1, t1⟩ := cc
      simp only at c1 c2
      have hb1 : Hid (Below B w (wr.alloc (.cells #[.int .i64 p1, .int .i64 t1] 33))) := hb.out.alloc hS _
      have HW := Lib.hid (HQ.out _ hb1)
      have hb01 : Below wr.heap.size wr (wr.alloc (.cells #[.int .i64 p1, .int .i64 t1] 33)) := (Below.refl _ _).alloc (Nat.le_refl _) _
      have HO1 : Hid ((wr.alloc (.cells #[.int .i64 p1, .int .i64 t1] 33)).ownsRow B 33 2 u6 ((l.take k).filter fun c => liveV V c hz).length (flatC ((l.take k).filter fun c => liveV V c hz))) := ownsRow_after ho.out hb01
      have hS1 : Hid (B ≤ (wr.alloc (.cells #[.int .i64 p1, .int .i64 t1] 33)).heap.size) := Nat.le_trans hB0.out hb1.out.size
      have z0 : (wr.alloc (.cells #[.int .i64 p1, .int .i64 t1] 33)).cell? ⟨wr.heap.size, 0, none⟩ = some (.int .i64 p1) := World.cell?_alloc_at _ _ _ 0 rfl
      have z1 : (wr.alloc (.cells #[.int .i64 p1, .int .i64 t1] 33)).cell? ⟨wr.heap.size, 1, none⟩ = some (.int .i64 t1) := World.cell?_alloc_at _ _ _ 1 rfl
      clear hb01 HQ
      cases hlv : liveV V (p1, t1) hz with
      | true =>
        rw [hlv] at HW HT2
        have HT3 : Hid (flatC ((l.take (k + 1)).filter fun c => liveV V c hz) = flatC ((l.take k).filter fun c => liveV V c hz) ++ [.int .i64 p1, .int .i64 t1] ∧ ((l.take (k + 1)).filter fun c => liveV V c hz).length = ((l.take k).filter fun c => liveV V c hz).length + 1) := HT2.out
        clear hlv HT2
        go_wp2_with (first
          | (go_at_call 12; refine HW.out.mono ?_; rintro e w1 ⟨rfl, hb2⟩
             have y0 := cell_keep z0 hb2
             have y1 := cell_keep z1 hb2
             have HO2 := Lib.hid (ownsRow_after HO1.out hb2)
             have hb3 : Hid (Below B w w1) := hb1.out.trans (hb2.mono hS1.out)
             have hS2 : Hid (B ≤ w1.heap.size) := Nat.le_trans hB0.out hb3.out.size
             clear hb2)
          | (at_builtin; refine wpList_appG rfl _ _ B 31 33 (.agg #[.int .i64 0, .int .i64 0]) 2 16 rfl Try.underlying31 infoC rfl (by decide) u6 _ _ rfl
               (ownsRow_after HO2.out ((Below.refl _ _).alloc (Nat.le_refl _) _)) _ 1 [.int .i64 p1, .int .i64 t1] rfl (Src.new w1 [.int .i64 p1, .int .i64 t1] 33 1) rfl (by intro u hu; simp at hu; rcases hu with rfl | rfl <;> rfl) (by omega) (by unfold maxLen; omega) (by have := hS2.out; simp; omega) ?_
             intro v2 w2 ho2 hg2 _
             have hb4 : Hid (Below B w w2) := below_own (ownsRow_after HO2.out ((Below.refl _ _).alloc (Nat.le_refl _) _)) hg2 (hb3.out.alloc hS2.out _) (Nat.le_refl _) (by have := hS2.out; simp; omega)
             have HO3 : Hid (OwnC w2 B v2 ((l.take (k + 1)).filter fun c => liveV V c hz)) := by
               show w2.ownsRow _ _ _ _ _ _
               rw [HT3.out.1, HT3.out.2]
               exact ho2
             clear ho2 hg2)
          | fail)
        exact ⟨⟨k + 1, _, by omega, by go_num, rfl, HO3, hb4⟩, by simp [intOf]; omega⟩
      | false =>
        rw [hlv] at HW HT2
        have HT3 : Hid ((l.take (k + 1)).filter (fun c => liveV V c hz) = (l.take k).filter fun c => liveV V c hz) := HT2.out
        clear hlv HT2
        go_wp2_with (first
          | (go_at_call 12; refine HW.out.mono ?_; rintro e w1 ⟨rfl, hb2⟩
             have HO2 := Lib.hid (ownsRow_after HO1.out hb2)
             have hb3 : Hid (Below B w w1) := hb1.out.trans (hb2.mono hS1.out)
             clear hb2)
          | fail)
        refine ⟨⟨k + 1, _, by omega, by go_num, rfl, ?_, hb3⟩, by simp [intOf]; omega⟩
        rw [HT3.out]
        exact HO2
    · have : k = l.length := by omega
      subst this
      clear HC HT HLN HM
      go_wp2
      go_ret
      refine ⟨⟨_, rfl, ?_⟩, hb.out⟩
      have h5 := ho.out
      rw [HTA.out] at h5
      exact h5
end Go.Proofs.Ytkpnjehgbehhcaa
