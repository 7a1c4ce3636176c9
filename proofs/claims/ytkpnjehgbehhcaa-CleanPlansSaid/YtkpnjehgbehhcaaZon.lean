/- clean's Zones. -/
import Derived.Test.YtkpnjehgbehhcaaMgc
import Derived.Test.YtkpnjehgbehhcaaZns
namespace Go.Proofs.Ytkpnjehgbehhcaa
open Go.RowKit Fl

theorem infoZ : (Try.prog.info? 53).map (fun i => (i.zero, i.size, i.bytes)) = some (some (.agg #[.int .i64 0, .int .i64 0, .int .i64 0]), 3, 24) := by kernel_rfl
def flatZ (zs : List Zn) : List Value := zs.flatMap fun z => [.int .i64 z.1, .int .i64 z.2.1, .int .i64 z.2.2]
theorem flatZ_app (a b : List Zn) : flatZ (a ++ b) = flatZ a ++ flatZ b := List.flatMap_append
/-- a row of one's own that holds these zones -/
def OwnZ (w : World) (base : Nat) (v : Value) (zs : List Zn) : Prop := w.ownsRow base 53 3 v zs.length (flatZ zs)
/-- how a zone is -/
def zoneOf (V : Int → List Int) (size hz : Int) (r : List Cp) : Zn := if (r.length : Int) ≤ size then (((r.filter fun c => liveV V c hz).length : Int), size, newN r r.length) else (0, 0, newN r r.length)
def zonesV (V : Int → List Int) (size hz : Int) (L : List (List Cp)) : List Zn := L.map (zoneOf V size hz)
theorem zones_take {V : Int → List Int} {size hz : Int} {L : List (List Cp)} {k : Nat} (hk : k < L.length) : zonesV V size hz (L.take (k + 1)) = zonesV V size hz (L.take k) ++ [zoneOf V size hz (L.getD k [])] := by
  unfold zonesV
  rw [List.take_add_one, List.getElem?_eq_getElem hk, List.map_append, List.getD_eq_getElem?_getD, List.getElem?_eq_getElem hk]
  rfl

theorem Src.new' (w : World) (cs : List Value) (t : TypeId) (m g : Nat) (hg : g = w.heap.size) : Src (w.alloc (.cells cs.toArray t)) (.slice (some ⟨g, 0, none⟩) m m) m cs := by
  subst hg
  exact Src.new w cs t m
theorem OwnC.form {w : World} {B : Nat} {v : Value} {l : List Cp} (h : OwnC w B v l) : ∃ a c, v = .slice a l.length c := by
  obtain ⟨a, c, h, _⟩ := SlG.form h.slc
  exact ⟨a, c, h⟩
theorem ownsRow_set {w : World} {B n k : Nat} {e : TypeId} {v : Value} {xs : List Value} (h : w.ownsRow B e k v n xs) (a : Addr) (u : Value) (hne : ∀ g, v.ownBlock = some g → g ≠ a.block) : (w.setCell a u).ownsRow B e k v n xs :=
  ownsRow_keep h fun g hg => heap_setCell_other w a g u (hne g hg)
theorem ownsRow_lt {w : World} {B n k : Nat} {e : TypeId} {v : Value} {xs : List Value} (h : w.ownsRow B e k v n xs) {g : Nat} (hg : v.ownBlock = some g) : g < w.heap.size := by
  obtain ⟨_, cur, h1⟩ := ownsRow_block h hg
  exact (Array.getElem?_eq_some_iff.1 h1).1

set_option maxHeartbeats 3200000 in
set_option maxRecDepth 8000 in
theorem zones_any {Bm p : Nat} {V : Int → List Int} {last : Int} {n : Nat} (v : Value) (L : List (List Cp)) (hL : L.length ≤ 1000000) (hrow : ∀ r ∈ L, r.length ≤ 1000000) (size hz : Int) (w : World) (h : SlR w v L) (hM : Mp w Bm p V last n) :
    Calls Try.prog 16 #[.pointer (some ⟨p, 0, none⟩), v, .int .i64 size, .int .i64 hz] w fun e w' => (∃ v', e = .returned v' ∧ OwnZ w' w.heap.size v' (zonesV V size hz L)) ∧ Below w.heap.size w w' := by
  obtain ⟨a, cap, rfl, ha, hle, hcap⟩ := SlG.form h
  have HM : Hid (∀ w', Hid (Below w.heap.size w w') → Mp w' Bm p V last n) := fun w' hb => hM.below hb.out
  have HC : Hid (∀ k, k < L.length → ∃ b o x c, a = some ⟨b, o, none⟩ ∧ ∀ w', Hid (Below w.heap.size w w') → w'.cell? ⟨b, o + k, none⟩ = some (.slice x (L.getD k []).length c) ∧ SlC w' (.slice x (L.getD k []).length c) (L.getD k [])) := fun k hk => by
    obtain ⟨b, o, u, h1, h2, h3, h4⟩ := h.at rfl hk
    obtain ⟨x, c, rfl, _⟩ := SlG.form h4
    exact ⟨b, o, x, c, h1, fun w' hb => ⟨by rw [hb.out.cell (p := ⟨b, o + k, none⟩) h2]; exact h3, h4.below hb.out⟩⟩
  generalize hB : w.heap.size = B at *
  have hB0 : Hid (B ≤ w.heap.size) := Nat.le_of_eq hB.symm
  have hb00 : Hid (Below B w w) := Below.refl B w
  have HT : Hid (∀ k, k < L.length → zonesV V size hz (L.take (k + 1)) = zonesV V size hz (L.take k) ++ [zoneOf V size hz (L.getD k [])]) := fun k hk => zones_take hk
  have HZO : Hid (∀ r, zoneOf V size hz r = if (r.length : Int) ≤ size then (((r.filter fun c => liveV V c hz).length : Int), size, newN r r.length) else (0, 0, newN r r.length)) := fun r => rfl
  have HRL : Hid (∀ k, k < L.length → (L.getD k []).length ≤ 1000000) := fun k hk => hrow _ (by rw [List.getD_eq_getElem?_getD, List.getElem?_eq_getElem hk]; exact List.getElem_mem hk)
  have HLN : Hid (∀ k, (zonesV V size hz (L.take k)).length ≤ 1000000) := fun k => by
    unfold zonesV
    rw [List.length_map, List.length_take]
    omega
  have HTA : Hid (L.take L.length = L) := List.take_length
  clear h hM hB hrow
  go_enter Try.func16, Try.ntmps16
  go_wp2
  go_loopw [14, 8] (fun i vo wr => ∃ (k : Nat) (v1 : Value), k ≤ L.length ∧ i = .int .i64 k ∧ vo = v1 ∧ Hid (OwnZ wr B v1 (zonesV V size hz (L.take k))) ∧ Hid (Below B w wr)) (fun i _ _ => L.length - (intOf i).toNat)
  case atStart => exact ⟨0, _, Nat.zero_le _, rfl, rfl, World.ownsRow_nil w B _ 3, hb00⟩
  case round =>
    obtain ⟨k, v1, hk, rfl, rfl, ho, hb⟩ := hrel
    by_cases hlt : k < L.length
    · obtain ⟨b, o, x, c, rfl, hcell⟩ := HC.out k hlt
      obtain ⟨c1, hs1⟩ := hcell wr hb
      have hS : Hid (B ≤ wr.heap.size) := Nat.le_trans hB0.out hb.out.size
      have HLN1 := HLN.out k
      have hlt2 : (k : Int) < (L.length : Int) := by omega
      have HO : Hid (wr.ownsRow B 53 3 u8 (zonesV V size hz (L.take k)).length (flatZ (zonesV V size hz (L.take k)))) := ho.out
      have HT2 : Hid (flatZ (zonesV V size hz (L.take (k + 1))) = flatZ (zonesV V size hz (L.take k)) ++ [.int .i64 (zoneOf V size hz (L.getD k [])).1, .int .i64 (zoneOf V size hz (L.getD k [])).2.1, .int .i64 (zoneOf V size hz (L.getD k [])).2.2] ∧ (zonesV V size hz (L.take (k + 1))).length = (zonesV V size hz (L.take k)).length + 1) := by
        have h5 := HT.out k hlt
        show _ ∧ _
        rw [h5, flatZ_app, List.length_append]
        exact ⟨rfl, rfl⟩
      have hrl := HRL.out k hlt
      have HS := Lib.hid hs1
      have HZ1 := Lib.hid (HZO.out (L.getD k []))
      have HCC : Hid (∀ w', Hid (Below B w w') → SlC w' (.slice x (L.getD k []).length c) (L.getD k [])) := fun w' h => (hcell w' h).2
      clear HT HC hcell HZO HRL hs1 HLN
      generalize (L.getD k []) = r at *
      generalize zoneOf V size hz r = zz at *
      obtain ⟨z0, z1, z2⟩ := zz
      by_cases hsz : (r.length : Int) ≤ size
      · have HZ2 : Hid (z0 = ((r.filter fun c => liveV V c hz).length : Int) ∧ z1 = size ∧ z2 = newN r r.length) := by
          have h5 := HZ1.out
          rw [if_pos hsz] at h5
          show _ ∧ _ ∧ _
          simpa using h5
        clear HZ1
        go_wp2_with (first
          | (go_at_call 38; refine (newest_any _ r _ HS.out).mono ?_; rintro e w1 ⟨rfl, hb1⟩
             have HB1 : Hid (Below B w (w1.alloc (.cells #[.int .i64 0, .int .i64 0, .int .i64 (newN r r.length)] 53))) := (hb.out.trans (hb1.mono hS.out)).alloc (Nat.le_trans hS.out hb1.size) _
             have HO1 : Hid ((w1.alloc (.cells #[.int .i64 0, .int .i64 0, .int .i64 (newN r r.length)] 53)).ownsRow B 53 3 u8 (zonesV V size hz (L.take k)).length (flatZ (zonesV V size hz (L.take k)))) := ownsRow_after HO.out (hb1.alloc hb1.size _)
             have HH1 : Hid ((w1.alloc (.cells #[.int .i64 0, .int .i64 0, .int .i64 (newN r r.length)] 53)).heap[w1.heap.size]? = some (Obj.cells #[.int .i64 0, .int .i64 0, .int .i64 (newN r r.length)] 53 (0, 0))) := heap_alloc_new _ _
             have HN1 : Hid (∀ g, u8.ownBlock = some g → g ≠ w1.heap.size) := fun g hg => by have h1 := ownsRow_lt HO.out hg; have h2 := hb1.size; omega
             have HBB1 : Hid (B ≤ w1.heap.size) := Nat.le_trans hS.out hb1.size
             clear hb1)
          | fail)
        refine (living_any _ r hrl hz _ (HCC.out _ HB1) (HM.out _ HB1)).mono ?_
        rintro e w2 ⟨⟨v2, rfl, hv2⟩, hb2⟩
        obtain ⟨a2, c2, rfl⟩ := hv2.form
        have hh2 := (hb2.block _ (Array.getElem?_eq_some_iff.1 HH1.out).1).trans HH1.out
        have HO2 := Lib.hid (ownsRow_after HO1.out hb2)
        have HB2 : Hid (Below B w w2) := HB1.out.trans (hb2.mono (Nat.le_trans hB0.out HB1.out.size))
        have y0 : w2.cell? ⟨w1.heap.size, 0, none⟩ = some (.int .i64 0) := cell_of hh2 rfl
        have y1 : w2.cell? ⟨w1.heap.size, 1, none⟩ = some (.int .i64 0) := cell_of hh2 rfl
        have y2 : w2.cell? ⟨w1.heap.size, 2, none⟩ = some (.int .i64 (newN r r.length)) := cell_of hh2 rfl
        have f0 : w2.frozen? ⟨w1.heap.size, 0, none⟩ = false := by simp [World.frozen?, hh2]
        have f1 : w2.frozen? ⟨w1.heap.size, 1, none⟩ = false := by simp [World.frozen?, hh2]
        have HH2 := Lib.hid hh2
        clear hb2 hv2 hh2
        have HB3 : Hid (Below B w ((w2.setCell ⟨w1.heap.size, 0, none⟩ (.int .i64 ((r.filter fun c => liveV V c hz).length : Int))).setCell ⟨w1.heap.size, 1, none⟩ (.int .i64 size))) := (HB2.out.setCell HBB1.out _).setCell HBB1.out _
        have HO3 : Hid (((w2.setCell ⟨w1.heap.size, 0, none⟩ (.int .i64 ((r.filter fun c => liveV V c hz).length : Int))).setCell ⟨w1.heap.size, 1, none⟩ (.int .i64 size)).ownsRow B 53 3 u8 (zonesV V size hz (L.take k)).length (flatZ (zonesV V size hz (L.take k)))) :=
          ownsRow_set (ownsRow_set HO2.out _ _ HN1.out) _ _ HN1.out
        clear HO HS HCC HM HO1 HH1 HB1 HO2 HB2 c1
        generalize (r.filter fun c => liveV V c hz).length = lv at *
        go_wp2_with (first
          | (at_builtin; refine wpList_appG rfl _ _ B 47 53 (.agg #[.int .i64 0, .int .i64 0, .int .i64 0]) 3 24 rfl Try.underlying47 infoZ rfl (by decide) u8 _ _ rfl
               (ownsRow_after HO3.out ((Below.refl _ _).alloc (Nat.le_refl _) _)) _ 1 [.int .i64 (lv : Int), .int .i64 size, .int .i64 (newN r r.length)] rfl (Src.new' _ _ _ 1 _ (by simp)) rfl (by intro u hu; simp at hu; rcases hu with rfl | rfl | rfl <;> rfl) (by omega) (by unfold maxLen; omega) (Nat.le_trans (Nat.le_trans hB0.out HB3.out.size) ((Below.refl _ _).alloc (Nat.le_refl _) _).size) ?_
             intro v2 w4 ho2 hg2 _
             have hb4 : Hid (Below B w w4) := below_own (ownsRow_after HO3.out ((Below.refl _ _).alloc (Nat.le_refl _) _)) hg2 (HB3.out.alloc (Nat.le_trans hB0.out HB3.out.size) _) (Nat.le_refl _) (Nat.le_trans (Nat.le_trans hB0.out HB3.out.size) ((Below.refl _ _).alloc (Nat.le_refl _) _).size)
             have HO4 : Hid (OwnZ w4 B v2 (zonesV V size hz (L.take (k + 1)))) := by
               show w4.ownsRow _ _ _ _ _ _
               rw [HT2.out.1, HT2.out.2, HZ2.out.1, HZ2.out.2.1, HZ2.out.2.2]
               exact ho2
             clear ho2 hg2)
          | fail)
        exact ⟨⟨k + 1, _, by omega, by go_num, rfl, HO4, hb4⟩, by simp [intOf]; omega⟩
      · have HZ2 : Hid (z0 = 0 ∧ z1 = 0 ∧ z2 = newN r r.length) := by
          have h5 := HZ1.out
          rw [if_neg hsz] at h5
          show _ ∧ _ ∧ _
          simpa using h5
        have hd : decide ((r.length : Int) ≤ size) = false := decide_eq_false hsz
        clear HZ1
        go_wp2_with (first
          | (go_at_call 38; refine (newest_any _ r _ HS.out).mono ?_; rintro e w1 ⟨rfl, hb1⟩
             have HB3 : Hid (Below B w (w1.alloc (.cells #[.int .i64 0, .int .i64 0, .int .i64 (newN r r.length)] 53))) := (hb.out.trans (hb1.mono hS.out)).alloc (Nat.le_trans hS.out hb1.size) _
             have HO3 : Hid ((w1.alloc (.cells #[.int .i64 0, .int .i64 0, .int .i64 (newN r r.length)] 53)).ownsRow B 53 3 u8 (zonesV V size hz (L.take k)).length (flatZ (zonesV V size hz (L.take k)))) := ownsRow_after HO.out (hb1.alloc hb1.size _)
             clear hb1)
          | (at_builtin; refine wpList_appG rfl _ _ B 47 53 (.agg #[.int .i64 0, .int .i64 0, .int .i64 0]) 3 24 rfl Try.underlying47 infoZ rfl (by decide) u8 _ _ rfl
               (ownsRow_after HO3.out ((Below.refl _ _).alloc (Nat.le_refl _) _)) _ 1 [.int .i64 0, .int .i64 0, .int .i64 (newN r r.length)] rfl (Src.new' _ _ _ 1 _ (by simp)) rfl (by intro u hu; simp at hu; rcases hu with rfl | rfl <;> rfl) (by omega) (by unfold maxLen; omega) (Nat.le_trans (Nat.le_trans hB0.out HB3.out.size) ((Below.refl _ _).alloc (Nat.le_refl _) _).size) ?_
             intro v2 w4 ho2 hg2 _
             have hb4 : Hid (Below B w w4) := below_own (ownsRow_after HO3.out ((Below.refl _ _).alloc (Nat.le_refl _) _)) hg2 (HB3.out.alloc (Nat.le_trans hB0.out HB3.out.size) _) (Nat.le_refl _) (Nat.le_trans (Nat.le_trans hB0.out HB3.out.size) ((Below.refl _ _).alloc (Nat.le_refl _) _).size)
             have HO4 : Hid (OwnZ w4 B v2 (zonesV V size hz (L.take (k + 1)))) := by
               show w4.ownsRow _ _ _ _ _ _
               rw [HT2.out.1, HT2.out.2, HZ2.out.1, HZ2.out.2.1, HZ2.out.2.2]
               exact ho2
             clear ho2 hg2)
          | fail)
        exact ⟨⟨k + 1, _, by omega, by go_num, rfl, HO4, hb4⟩, by simp [intOf]; omega⟩
    · have : k = L.length := by omega
      subst this
      clear HC HT HLN HM
      go_wp2
      go_ret
      refine ⟨⟨_, rfl, ?_⟩, hb.out⟩
      have h5 := ho.out
      rw [HTA.out] at h5
      exact h5
end Go.Proofs.Ytkpnjehgbehhcaa
