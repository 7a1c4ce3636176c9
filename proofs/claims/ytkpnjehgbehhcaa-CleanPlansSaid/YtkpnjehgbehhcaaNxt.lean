/- clean's Next: the walk. -/
import Derived.Test.YtkpnjehgbehhcaaNxp
import Derived.Laws.ResultCell
namespace Go.Proofs.Ytkpnjehgbehhcaa
open Go.RowKit Fl

/-- what Next returns -/
def NxR (B : Nat) (V : Int → List Int) (L : List (List Cp)) (size hz now : Int) (e : Ending) (w' : World) : Prop :=
  ∃ mv, e = .returned (.tuple #[.agg #[.int .i64 (nextZ V L size hz now : Nat), mv, .int .i64 (nextD V L size hz now)], .int .i64 (nextE V L size hz now)]) ∧ OwnC w' B mv (nextM V L size hz now)
theorem set3 {w : World} {g : Nat} {a b c a' b' c' : Value} {t : TypeId} (h : w.heap[g]? = some (Obj.cells #[a, b, c] t (0, 0))) :
    (w.setCell ⟨g, 0, none⟩ a').heap[g]? = some (Obj.cells #[a', b, c] t (0, 0)) ∧ ((w.setCell ⟨g, 0, none⟩ a').setCell ⟨g, 1, none⟩ b').heap[g]? = some (Obj.cells #[a', b', c] t (0, 0)) ∧
    (((w.setCell ⟨g, 0, none⟩ a').setCell ⟨g, 1, none⟩ b').setCell ⟨g, 2, none⟩ c').heap[g]? = some (Obj.cells #[a', b', c'] t (0, 0)) := by
  have a1 : (w.setCell ⟨g, 0, none⟩ a').heap[g]? = some (Obj.cells #[a', b, c] t (0, 0)) := by
    show (w.heap.modify g _)[g]? = _
    rw [Array.getElem?_modify, if_pos rfl, h]
    rfl
  have a2 : ((w.setCell ⟨g, 0, none⟩ a').setCell ⟨g, 1, none⟩ b').heap[g]? = some (Obj.cells #[a', b', c] t (0, 0)) := by
    show ((w.setCell ⟨g, 0, none⟩ a').heap.modify g _)[g]? = _
    rw [Array.getElem?_modify, if_pos rfl, a1]
    rfl
  refine ⟨a1, a2, ?_⟩
  show (((w.setCell ⟨g, 0, none⟩ a').setCell ⟨g, 1, none⟩ b').heap.modify g _)[g]? = _
  rw [Array.getElem?_modify, if_pos rfl, a2]
  rfl
theorem frz_of {w : World} {g i : Nat} {cs : Array Value} {t : TypeId} (h : w.heap[g]? = some (Obj.cells cs t (0, 0))) : w.frozen? ⟨g, i, none⟩ = false := by simp [World.frozen?, h]
theorem NxR.no {B : Nat} {V : Int → List Int} {L : List (List Cp)} {size hz now : Int} {w' : World} {x : Int} (h : nextE V L size hz now = x) (hx : x ≠ 0) : NxR B V L size hz now (.returned (.tuple #[.agg #[.int .i64 0, .slice none 0 0, .int .i64 0], .int .i64 x])) w' := by
  refine ⟨.slice none 0 0, ?_, ?_⟩
  · unfold nextZ nextD
    rw [h, if_neg hx, if_neg hx]
    rfl
  · unfold nextM
    rw [h, if_neg hx]
    exact World.ownsRow_nil _ _ _ 2

set_option maxHeartbeats 6400000 in
set_option maxRecDepth 16000 in
theorem next_any {Bm p : Nat} {V : Int → List Int} {last : Int} {n : Nat} (v : Value) (L : List (List Cp)) (hL : L.length ≤ 1000000) (hrow : ∀ r ∈ L, r.length ≤ 1000000) (size hz now : Int) (w : World) (h : SlR w v L) (hM : Mp w Bm p V last n) :
    Calls Try.prog 13 #[.pointer (some ⟨p, 0, none⟩), v, .int .i64 size, .int .i64 hz, .int .i64 now] w fun e w' => NxR w.heap.size V L size hz now e w' ∧ Below w.heap.size w w' := by
  obtain ⟨a, cap, rfl, ha, hle, hcap⟩ := SlG.form h
  generalize hB : w.heap.size = B
  have hB0 : Hid (B ≤ w.heap.size) := Nat.le_of_eq hB.symm
  have HNO : Hid (∀ {x : Int} {w' : World}, nextE V L size hz now = x → x ≠ 0 → NxR B V L size hz now (.returned (.tuple #[.agg #[.int .i64 0, .slice none 0 0, .int .i64 0], .int .i64 x])) w') := fun q1 q2 => NxR.no q1 q2
  have HB1 : Hid (Below B w ((w.alloc (.cells #[.int .i64 size] 3)).alloc (.cells #[.int .i64 0, .slice none 0 0, .int .i64 0] 37))) := ((Below.refl _ _).alloc hB0.out _).alloc (by have := hB0.out; simp; omega) _
  have HM : Hid (∀ w', Below B w w' → Mp w' Bm p V last n) := fun w' hb => hM.below (by rw [hB]; exact hb)
  have HS : Hid (∀ w', Below B w w' → SlR w' (.slice a L.length cap) L) := fun w' hb => h.below (by rw [hB]; exact hb)
  have HA1 : Hid (((w.alloc (.cells #[.int .i64 size] 3)).alloc (.cells #[.int .i64 0, .slice none 0 0, .int .i64 0] 37)).heap[B]? = some (Obj.cells #[.int .i64 size] 3 (0, 0))) := by
    show _ = _
    rw [← hB, heap_alloc_old _ _ (by simp), heap_alloc_new]
  have HA2 : Hid (((w.alloc (.cells #[.int .i64 size] 3)).alloc (.cells #[.int .i64 0, .slice none 0 0, .int .i64 0] 37)).heap[B + 1]? = some (Obj.cells #[.int .i64 0, .slice none 0 0, .int .i64 0] 37 (0, 0))) := by
    have h5 := heap_alloc_new (w.alloc (.cells #[.int .i64 size] 3)) (.cells #[.int .i64 0, .slice none 0 0, .int .i64 0] 37)
    show _ = _
    rw [show (w.alloc (.cells #[.int .i64 size] 3)).heap.size = w.heap.size + 1 by simp, hB] at h5
    exact h5
  have hsz : Hid (((w.alloc (.cells #[.int .i64 size] 3)).alloc (.cells #[.int .i64 0, .slice none 0 0, .int .i64 0] 37)).heap.size = B + 2) := by show _ = _; simp; omega
  clear h hM
  by_cases hs : size < 1
  · have hE : Hid (nextE V L size hz now = 1) := by
      show _ = _
      unfold nextE nextA
      rw [decide_eq_true hs]
      rfl
    have hd : decide (size < 1) = true := decide_eq_true hs
    go_enter Try.func13, Try.ntmps13
    go_wp2
    go_step3
    go_wp2
    try rw [Exit.noGoto_ret]
    (try simp only [Exit.inBlock, Exit.then])
    refine bodyPost_ret (v := .tuple #[.agg #[.int .i64 0, .slice none 0 0, .int .i64 0], .int .i64 1]) ?_ rfl ⟨HNO.out hE.out (by decide), HB1.out⟩
    have x0 := cell_of (i := 0) HA2.out rfl
    have x1 := cell_of (i := 1) HA2.out rfl
    have x2 := cell_of (i := 2) HA2.out rfl
    rw [results_cell_tmp rfl]
    go_simp
  have hd : decide (size < 1) = false := decide_eq_false hs
  have CF := Lib.hid (cfc_any _ L B size _ (HS.out _ HB1.out) (cell_of HA1.out rfl))
  by_cases hf : fitN L size L.length = true
  · have HA : Hid (nextA L size = true) := by
      show _ = _
      unfold nextA
      rw [hd, hf]
      rfl
    rw [hf] at CF
    have CZ := Lib.hid (zones_any _ L hL hrow size hz _ (HS.out _ HB1.out) (HM.out _ HB1.out))
    go_enter Try.func13, Try.ntmps13
    go_wp2
    go_step3
    go_wp2_with (first
      | (go_at_call 31; refine CF.out.mono ?_; rintro e w' ⟨rfl, rfl⟩)
      | fail)
    go_step3
    go_wp2_with fail
    refine CZ.out.mono ?_
    rintro e w2 ⟨⟨v2, rfl, hz2⟩, hb2⟩
    obtain ⟨a2, c2, rfl, hrd⟩ := OwnZ.form hz2
    rw [zonesV_len] at hrd ⊢
    have hbB : Below B w w2 := HB1.out.trans (hb2.mono (by have := hsz.out; omega))
    have HBw := Lib.hid hbB
    have HZC : Hid (∀ k, k < L.length → ∃ g, a2 = some ⟨g, 0, none⟩ ∧ ∀ w', Below w2.heap.size w2 w' → w'.cell? ⟨g, k * 3, none⟩ = some (.int .i64 (zoneOf V size hz (L.getD k [])).1) ∧ w'.cell? ⟨g, k * 3 + 1, none⟩ = some (.int .i64 (zoneOf V size hz (L.getD k [])).2.1) ∧ w'.cell? ⟨g, k * 3 + 2, none⟩ = some (.int .i64 (zoneOf V size hz (L.getD k [])).2.2)) := fun k hk => by
      obtain ⟨g, q1, q2, q3, q4, q5⟩ := hrd k hk
      rw [zonesV_get hk] at q3 q4 q5
      exact ⟨g, q1, fun w' hb => ⟨cell_keep q3 hb, cell_keep q4 hb, cell_keep q5 hb⟩⟩
    have HRC : Hid (∀ k, k < L.length → ∃ b o x c, a = some ⟨b, o, none⟩ ∧ ∀ w', Below B w w' → w'.cell? ⟨b, o + k, none⟩ = some (.slice x (L.getD k []).length c) ∧ SlC w' (.slice x (L.getD k []).length c) (L.getD k [])) := fun k hk => by
      obtain ⟨b, o, u, h1, h2, h3, h4⟩ := (HS.out w (Below.refl _ _)).at rfl hk
      obtain ⟨x, c, rfl, _⟩ := SlG.form h4
      exact ⟨b, o, x, c, h1, fun w' hb => ⟨cell_keep h3 (by rw [hB]; exact hb), h4.below (by rw [hB]; exact hb)⟩⟩
    have hA1 := (hb2.block _ (Array.getElem?_eq_some_iff.1 HA1.out).1).trans HA1.out
    have hA2 := (hb2.block _ (Array.getElem?_eq_some_iff.1 HA2.out).1).trans HA2.out
    have HP1 : Hid (∀ w', Below w2.heap.size w2 w' → w'.heap[B]? = some (Obj.cells #[.int .i64 size] 3 (0, 0)) ∧ w'.heap[B + 1]? = some (Obj.cells #[.int .i64 0, .slice none 0 0, .int .i64 0] 37 (0, 0))) := fun w' hb =>
      ⟨(hb.block _ (Array.getElem?_eq_some_iff.1 hA1).1).trans hA1, (hb.block _ (Array.getElem?_eq_some_iff.1 hA2).1).trans hA2⟩
    have hsz2 : Hid (B + 2 ≤ w2.heap.size) := by have h1 := hb2.size; have h2 := hsz.out; show _ ≤ _; omega
    clear hz2 hb2 hbB hrd CF CZ HA1 HA2 hA1 hA2 HB1 hsz HS ha
    go_wp2
    generalize (w.alloc (.cells #[.int .i64 size] 3)).alloc (.cells #[.int .i64 0, .slice none 0 0, .int .i64 0] 37) = W at *
    generalize hb2s : w2.heap.size = B2 at *
    have HB2s := Lib.hid hb2s
    clear hb2s
    go_loopw [12, 13, 34] (fun fv nv iv wr => ∃ (k : Nat) (v1 u1 : Value), k ≤ L.length ∧ fv = v1 ∧ nv = u1 ∧ iv = .int .i64 k ∧ Hid (OwnZ wr B2 v1 (fullZ V size hz L k)) ∧ Hid (OwnN wr B2 u1 (fullN L size k)) ∧ Hid (Below B2 w2 wr)) (fun _ _ iv _ => L.length - (intOf iv).toNat)
    case atStart => exact ⟨0, _, _, Nat.zero_le _, rfl, rfl, rfl, World.ownsRow_nil _ _ _ 3, World.ownsRow_nil _ _ _ 1, Below.refl _ _⟩
    case round =>
      obtain ⟨k, v1, u1, hk, rfl, rfl, rfl, hzz, hn, hb⟩ := hrel
      by_cases hlt : k < L.length
      · obtain ⟨b, o, x, c, rfl, hcr⟩ := HRC.out k hlt
        obtain ⟨g, rfl, hcz⟩ := HZC.out k hlt
        obtain ⟨z0, z1, z2⟩ := hcz wr hb.out
        have hlt2 : (k : Int) < (L.length : Int) := by omega
        have HSZ := Lib.hid (fullZ_succ V size hz L k)
        have HSN := Lib.hid (fullN_succ L size k)
        have hzl := fullN_len L size k
        have hzl2 := fullZ_len V size hz L k
        have HS2 : Hid (B2 ≤ wr.heap.size) := by have h1 := hb.out.size; have h2 := HB2s.out; show _ ≤ _; omega
        have HRC1 : Hid (∀ w', Below B w w' → w'.cell? ⟨b, o + k, none⟩ = some (.slice x (L.getD k []).length c)) := fun w' h' => (hcr w' h').1
        have HBB : Hid (∀ w', Below B2 w2 w' → Below B w w') := fun w' h' => HBw.out.trans (h'.mono (by have := hsz2.out; omega))
        clear HZC HRC hcr hcz
        generalize zoneOf V size hz (L.getD k []) = zz at *
        obtain ⟨za, zb, zc⟩ := zz
        generalize (L.getD k []).length = m at *
        have HB3 : Hid (Below B2 w2 (wr.alloc (.cells #[.int .i64 za, .int .i64 zb, .int .i64 zc] 53))) := hb.out.alloc HS2.out _
        have y0 := HRC1.out _ (HBB.out _ HB3.out)
        have y1 := cell_of (i := 0) (HP1.out _ HB3.out).1 rfl
        have y2 : (wr.alloc (.cells #[.int .i64 za, .int .i64 zb, .int .i64 zc] 53)).cell? ⟨wr.heap.size, 0, none⟩ = some (.int .i64 za) := World.cell?_alloc_at _ _ _ 0 rfl
        have y3 : (wr.alloc (.cells #[.int .i64 za, .int .i64 zb, .int .i64 zc] 53)).cell? ⟨wr.heap.size, 1, none⟩ = some (.int .i64 zb) := World.cell?_alloc_at _ _ _ 1 rfl
        have y4 : (wr.alloc (.cells #[.int .i64 za, .int .i64 zb, .int .i64 zc] 53)).cell? ⟨wr.heap.size, 2, none⟩ = some (.int .i64 zc) := World.cell?_alloc_at _ _ _ 2 rfl
        have HZ3 := Lib.hid (ownsRow_after hzz.out ((Below.refl _ _).alloc (Nat.le_refl _) (.cells #[.int .i64 za, .int .i64 zb, .int .i64 zc] 53)))
        have HN3 := Lib.hid (ownsRow_after hn.out ((Below.refl _ _).alloc (Nat.le_refl _) (.cells #[.int .i64 za, .int .i64 zb, .int .i64 zc] 53)))
        clear hzz hn hb HRC1 HBB
        by_cases hm : (m : Int) < size
        · have hmd : decide ((m : Int) < size) = true := decide_eq_true hm
          have HSZ1 : Hid (fullZ V size hz L (k + 1) = fullZ V size hz L k) := by
            have h5 := HSZ.out
            rw [if_pos hmd, List.append_nil] at h5
            exact h5
          have HSN1 : Hid (fullN L size (k + 1) = fullN L size k) := by
            have h5 := HSN.out
            rw [if_pos hmd, List.append_nil] at h5
            exact h5
          clear HSZ HSN hzl hzl2 hm
          go_wp2
          go_quiet (fail)
          go_wp2
          refine ⟨⟨k + 1, _, _, by omega, rfl, rfl, by go_num, ?_, ?_, below_drewN HB3.out _⟩, by simp [intOf]; omega⟩
          · rw [HSZ1.out]
            exact HZ3.out
          · rw [HSN1.out]
            exact HN3.out
        · have hmd : decide ((m : Int) < size) = false := decide_eq_false hm
          have HSZ1 : Hid (fullZ V size hz L (k + 1) = fullZ V size hz L k ++ [(za, zb, zc)]) := by
            have h5 := HSZ.out
            rw [if_neg (by rw [hmd]; decide)] at h5
            exact h5
          have HSN1 : Hid (fullN L size (k + 1) = fullN L size k ++ [k]) := by
            have h5 := HSN.out
            rw [if_neg (by rw [hmd]; decide)] at h5
            exact h5
          clear HSZ HSN hm
          go_wp2
          go_quiet (fail)
          have HB4 : Hid (Below B2 w2 ((wr.alloc (.cells #[.int .i64 za, .int .i64 zb, .int .i64 zc] 53)).drewN nq)) := below_drewN HB3.out _
          have HZ4 : Hid (((wr.alloc (.cells #[.int .i64 za, .int .i64 zb, .int .i64 zc] 53)).drewN nq).ownsRow B2 53 3 u12 (fullZ V size hz L k).length (flatZ (fullZ V size hz L k))) := HZ3.out
          have HN4 : Hid (((wr.alloc (.cells #[.int .i64 za, .int .i64 zb, .int .i64 zc] 53)).drewN nq).ownsRow B2 3 1 u13 (fullN L size k).length ((fullN L size k).map encN)) := HN3.out
          have v2 : ((wr.alloc (.cells #[.int .i64 za, .int .i64 zb, .int .i64 zc] 53)).drewN nq).cell? ⟨wr.heap.size, 0, none⟩ = some (.int .i64 za) := y2
          have v3 : ((wr.alloc (.cells #[.int .i64 za, .int .i64 zb, .int .i64 zc] 53)).drewN nq).cell? ⟨wr.heap.size, 1, none⟩ = some (.int .i64 zb) := y3
          have v4 : ((wr.alloc (.cells #[.int .i64 za, .int .i64 zb, .int .i64 zc] 53)).drewN nq).cell? ⟨wr.heap.size, 2, none⟩ = some (.int .i64 zc) := y4
          clear y0 y1 y2 y3 y4 HB3 HZ3 HN3
          generalize (wr.alloc (.cells #[.int .i64 za, .int .i64 zb, .int .i64 zc] 53)).drewN nq = w0 at *
          have HS0 : Hid (B2 ≤ w0.heap.size) := by have h1 := HB4.out.size; have h2 := HB2s.out; show _ ≤ _; omega
          have HK0 : Hid (∀ o, Below w0.heap.size w0 (w0.alloc o)) := fun o => (Below.refl _ _).alloc (Nat.le_refl _) o
          go_wp2_with (first
            | (at_builtin; refine wpList_appG rfl _ _ B2 47 53 (.agg #[.int .i64 0, .int .i64 0, .int .i64 0]) 3 24 rfl Try.underlying47 infoZ rfl (by decide) u12 _ _ rfl
                 (ownsRow_after HZ4.out (HK0.out _)) _ 1 [.int .i64 za, .int .i64 zb, .int .i64 zc] rfl (Src.new' _ _ _ 1 _ rfl) rfl (by intro u hu; simp at hu; rcases hu with rfl | rfl | rfl <;> rfl) (by omega) (by unfold maxLen; omega) (Nat.le_trans HS0.out (HK0.out _).size) ?_
               intro v5 w5 ho5 hg5 hat5
               have HB5 : Hid (Below B2 w2 w5) := below_own (ownsRow_after HZ4.out (HK0.out _)) hg5 (HB4.out.alloc HS0.out _) (Nat.le_refl _) (Nat.le_trans HS0.out (HK0.out _).size)
               have HZ5 : Hid (OwnZ w5 B2 v5 (fullZ V size hz L (k + 1))) := by
                 show w5.ownsRow _ _ _ _ _ _
                 rw [HSZ1.out, flatZ_app, List.length_append]
                 exact ho5
               have HN5 := Lib.hid (ownsRow_far (ownsRow_after HZ4.out (HK0.out _)) (ownsRow_after HN4.out (HK0.out _)) (by decide) hg5)
               have HS5 : Hid (B2 ≤ w5.heap.size) := by have h1 := HB5.out.size; have h2 := HB2s.out; show _ ≤ _; omega
               have HK5 : Hid (∀ o, Below w5.heap.size w5 (w5.alloc o)) := fun o => (Below.refl _ _).alloc (Nat.le_refl _) o
               clear ho5 hg5 hat5)
            | (at_builtin; refine wpList_appG rfl _ _ B2 78 3 (.int .i64 0) 1 8 rfl Try.underlying78 infoI rfl (by decide) u13 _ _ rfl
                 (ownsRow_after HN5.out (HK5.out _)) _ 1 [.int .i64 (k : Int)] rfl (Src.new' _ _ _ 1 _ rfl) rfl (by intro u hu; simp at hu; rcases hu with rfl; rfl) (by omega) (by unfold maxLen; omega) (Nat.le_trans HS5.out (HK5.out _).size) ?_
               intro v6 w6 ho6 hg6 hat6
               have HB6 : Hid (Below B2 w2 w6) := below_own (ownsRow_after HN5.out (HK5.out _)) hg6 (HB5.out.alloc HS5.out _) (Nat.le_refl _) (Nat.le_trans HS5.out (HK5.out _).size)
               have HN6 : Hid (OwnN w6 B2 v6 (fullN L size (k + 1))) := by
                 show w6.ownsRow _ _ _ _ _ _
                 rw [HSN1.out, List.map_append, List.length_append]
                 exact ho6
               have HZ6 : Hid (OwnZ w6 B2 v5 (fullZ V size hz L (k + 1))) := ownsRow_far (ownsRow_after HN5.out (HK5.out _)) (ownsRow_after HZ5.out (HK5.out _)) (by decide) hg6
               clear ho6 hg6 hat6)
            | fail)
          exact ⟨⟨k + 1, _, _, by omega, rfl, rfl, by go_num, HZ6, HN6, HB6⟩, by simp [intOf]; omega⟩
      · obtain rfl : k = L.length := by omega
        clear HZC hk hlt
        have HCH := Lib.hid (choose_any _ _ now _ (nextR_is V L size hz now) (by have h1 := fullN_len L size L.length; have h2 := fullZ_len V size hz L L.length; omega) wr (hzz.out.slz (by have h1 := fullN_len L size L.length; have h2 := fullZ_len V size hz L L.length; omega)))
        have HPL : Hid (∀ w', Below wr.heap.size wr w' → w'.heap[B + 1]? = some (Obj.cells #[.int .i64 0, .slice none 0 0, .int .i64 0] 37 (0, 0)) ∧ Below B w w' ∧ B < w'.heap.size) := fun w' h' => by
          have h1 := hb.out.trans (h'.mono (by have h1 := hb.out.size; have h2 := HB2s.out; omega))
          have h2 := hsz2.out
          have h3 := h1.size
          have h4 := HB2s.out
          exact ⟨(HP1.out w' h1).2, HBw.out.trans (h1.mono (by omega)), by omega⟩
        by_cases hre : nextR V L size hz now = []
        · have hE : Hid (nextE V L size hz now = 14) := by
            show _ = _
            unfold nextE chE
            rw [if_pos HA.out, if_pos hre]
          rw [hre] at HCH
          clear hre HRC hzz hn HP1
          go_wp2_with (first
            | (go_at_call 33; refine HCH.out.mono ?_; rintro e w7 ⟨rfl, hb7⟩
               obtain ⟨p7, q7, r7⟩ := HPL.out w7 hb7
               have HQ7 := Lib.hid q7
               have HP7 := Lib.hid p7
               have HR7 := Lib.hid r7
               have f0 := frz_of (i := 0) p7
               have f1 := frz_of (i := 1) (set3 (a' := .int .i64 0) (b' := .slice none 0 0) (c' := .int .i64 0) p7).1
               have f2 := frz_of (i := 2) (set3 (a' := .int .i64 0) (b' := .slice none 0 0) (c' := .int .i64 0) p7).2.1
               have e0 := cell_of (i := 0) p7 rfl
               have e1 := cell_of (i := 1) (set3 (a' := .int .i64 0) (b' := .slice none 0 0) (c' := .int .i64 0) p7).1 rfl
               have e2 := cell_of (i := 2) (set3 (a' := .int .i64 0) (b' := .slice none 0 0) (c' := .int .i64 0) p7).2.1 rfl
               clear hb7 p7 q7 r7)
            | fail)
          have t3 := (set3 (a' := .int .i64 0) (b' := .slice none 0 0) (c' := .int .i64 0) HP7.out).2.2
          have x0 := cell_of (i := 0) t3 rfl
          have x1 := cell_of (i := 1) t3 rfl
          have x2 := cell_of (i := 2) t3 rfl
          have HBF : Hid (Below B w (((w7.setCell ⟨B + 1, 0, none⟩ (.int .i64 0)).setCell ⟨B + 1, 1, none⟩ (.slice none 0 0)).setCell ⟨B + 1, 2, none⟩ (.int .i64 0))) := ((HQ7.out.setCell (Nat.le_succ _) _).setCell (Nat.le_succ _) _).setCell (Nat.le_succ _) _
          try rw [Exit.noGoto_ret]
          (try simp only [Exit.inBlock, Exit.then])
          refine bodyPost_ret (v := .tuple #[.agg #[.int .i64 0, .slice none 0 0, .int .i64 0], .int .i64 14]) ?_ rfl ⟨HNO.out hE.out (by decide), HBF.out⟩
          rw [results_cell_tmp rfl]
          go_simp
        · have hkp := nextK_place hre
          have hE : Hid (nextE V L size hz now = 0) := by
            show _ = _
            unfold nextE chE
            rw [if_pos HA.out, if_neg hre]
          have hE2 : Hid (chE (nextR V L size hz now) = 0) := by
            show _ = _
            unfold chE
            rw [if_neg hre]
          rw [hE2.out] at HCH
          obtain ⟨hq1, hq2⟩ := fullN_mem hkp
          have HRES : Hid (nextZ V L size hz now = (fullN L size L.length).getD (chK (nextR V L size hz now)) 0 ∧ nextM V L size hz now = movesV V hz (L.getD ((fullN L size L.length).getD (chK (nextR V L size hz now)) 0) []) ∧
              nextD V L size hz now = ((L.getD ((fullN L size L.length).getD (chK (nextR V L size hz now)) 0) []).length : Int) - ((movesV V hz (L.getD ((fullN L size L.length).getD (chK (nextR V L size hz now)) 0) [])).length : Int)) := by
            unfold nextZ nextM nextD
            rw [if_pos hE.out, if_pos hE.out, if_pos hE.out]
            exact ⟨rfl, rfl, rfl⟩
          obtain ⟨gn, cn, rfl, _, _⟩ := hn.out.at0 (by omega)
          have hnc := (hn.out.cellOf _ hkp).1
          obtain ⟨b, o, x, c, rfl, hcr⟩ := HRC.out _ hq1
          have hrl : (L.getD ((fullN L size L.length).getD (chK (nextR V L size hz now)) 0) []).length ≤ 1000000 := hrow _ (by rw [List.getD_eq_getElem?_getD, List.getElem?_eq_getElem hq1]; exact List.getElem_mem hq1)
          have hNK : Hid (∀ w', Below wr.heap.size wr w' → w'.cell? ⟨gn, chK (nextR V L size hz now), none⟩ = some (.int .i64 ((fullN L size L.length).getD (chK (nextR V L size hz now)) 0 : Nat))) := fun w' h' => cell_keep hnc h'
          rename_i zq1 zq2
          clear hre HRC hzz hn HP1 hnc zq1 zq2
          have hml : Hid ((movesV V hz (L.getD ((fullN L size L.length).getD (chK (nextR V L size hz now)) 0) [])).length ≤ (L.getD ((fullN L size L.length).getD (chK (nextR V L size hz now)) 0) []).length) := List.length_filter_le _ _
          generalize chK (nextR V L size hz now) = kk at *
          generalize (fullN L size L.length).getD kk 0 = nk at *
          have hk1 : (kk : Int) < ((fullN L size L.length).length : Int) := by omega
          have hk2 : (nk : Int) < (L.length : Int) := by omega
          generalize (fullN L size L.length).length = fl at *
          clear hq1 hq2
          generalize L.getD nk [] = rr at *
          go_wp2_with (first
            | (go_at_call 33; refine HCH.out.mono ?_; rintro e w7 ⟨rfl, hb7⟩
               obtain ⟨p7, q7, r7⟩ := HPL.out w7 hb7
               have HQ7 := Lib.hid q7
               have HP7 := Lib.hid p7
               have HR7 := Lib.hid r7
               have s0 := hNK.out w7 hb7
               obtain ⟨s1, hsc⟩ := hcr w7 q7
               have HSC := Lib.hid hsc
               clear hb7 p7 q7 r7 hsc hcr)
            | fail)
          refine (living_any _ _ hrl hz _ HSC.out (HM.out _ HQ7.out)).mono ?_
          rintro e w8 ⟨⟨mv, rfl, hmv⟩, hb8⟩
          obtain ⟨am, cm, rfl⟩ := hmv.form
          have hml2 := hml.out
          unfold movesV at hml2
          have hwr : IntKind.i64.wrap ((rr.length : Int) - ((rr.filter fun c => liveV V c hz).length : Int)) = (rr.length : Int) - ((rr.filter fun c => liveV V c hz).length : Int) := IntWalk.i64_in _ (by omega)
          have s2 := cell_keep s0 hb8
          have p8 := (hb8.block _ (Array.getElem?_eq_some_iff.1 HP7.out).1).trans HP7.out
          have HB8 : Hid (Below B w w8) := HQ7.out.trans (hb8.mono (Nat.le_of_lt HR7.out))
          have HMV : Hid (OwnC w8 w7.heap.size (.slice am (rr.filter fun c => liveV V c hz).length cm) (rr.filter fun c => liveV V c hz)) := hmv
          have HML : Hid (movesV V hz rr = rr.filter fun c => liveV V c hz) := rfl
          have HLT : Hid (B + 1 < w7.heap.size) := (Array.getElem?_eq_some_iff.1 HP7.out).1
          clear hmv hb8 hml2 HM HSC HCH
          rw [HML.out] at HRES
          generalize (rr.filter fun c => liveV V c hz) = mvl at *
          generalize rr.length = ml at *
          have f0 := frz_of (i := 0) p8
          have f1 := frz_of (i := 1) (set3 (a' := .int .i64 nk) (b' := .slice am mvl.length cm) (c' := .int .i64 ((ml : Int) - (mvl.length : Int))) p8).1
          have f2 := frz_of (i := 2) (set3 (a' := .int .i64 nk) (b' := .slice am mvl.length cm) (c' := .int .i64 ((ml : Int) - (mvl.length : Int))) p8).2.1
          have e0 := cell_of (i := 0) p8 rfl
          have e1 := cell_of (i := 1) (set3 (a' := .int .i64 nk) (b' := .slice am mvl.length cm) (c' := .int .i64 ((ml : Int) - (mvl.length : Int))) p8).1 rfl
          have e2 := cell_of (i := 2) (set3 (a' := .int .i64 nk) (b' := .slice am mvl.length cm) (c' := .int .i64 ((ml : Int) - (mvl.length : Int))) p8).2.1 rfl
          have HP8 := Lib.hid p8
          clear p8 s0 s1
          go_wp2
          have t3 := (set3 (a' := .int .i64 nk) (b' := .slice am mvl.length cm) (c' := .int .i64 ((ml : Int) - (mvl.length : Int))) HP8.out).2.2
          have x0 := cell_of (i := 0) t3 rfl
          have x1 := cell_of (i := 1) t3 rfl
          have x2 := cell_of (i := 2) t3 rfl
          have HBF : Hid (Below B w (((w8.setCell ⟨B + 1, 0, none⟩ (.int .i64 nk)).setCell ⟨B + 1, 1, none⟩ (.slice am mvl.length cm)).setCell ⟨B + 1, 2, none⟩ (.int .i64 ((ml : Int) - (mvl.length : Int))))) := ((HB8.out.setCell (Nat.le_succ _) _).setCell (Nat.le_succ _) _).setCell (Nat.le_succ _) _
          have HNE : Hid (∀ g, Value.ownBlock (.slice am mvl.length cm) = some g → g ≠ B + 1) := fun g hg => by
            have h1 := (ownsRow_block HMV.out hg).1
            have h2 := HLT.out
            omega
          have HOF : Hid (OwnC (((w8.setCell ⟨B + 1, 0, none⟩ (.int .i64 nk)).setCell ⟨B + 1, 1, none⟩ (.slice am mvl.length cm)).setCell ⟨B + 1, 2, none⟩ (.int .i64 ((ml : Int) - (mvl.length : Int)))) B (.slice am mvl.length cm) mvl) :=
            ownsRow_mono (ownsRow_set (ownsRow_set (ownsRow_set HMV.out _ _ HNE.out) _ _ HNE.out) _ _ HNE.out) (Nat.le_of_lt HR7.out)
          try rw [Exit.noGoto_ret]
          (try simp only [Exit.inBlock, Exit.then])
          refine bodyPost_ret (v := .tuple #[.agg #[.int .i64 nk, .slice am mvl.length cm, .int .i64 ((ml : Int) - (mvl.length : Int))], .int .i64 0]) ?_ rfl ⟨⟨.slice am mvl.length cm, ?_, ?_⟩, HBF.out⟩
          · rw [results_cell_tmp rfl]
            go_simp
          · rw [HRES.out.1, HRES.out.2.2, hE.out]
          · rw [HRES.out.2.1]
            exact HOF.out
  · have hff : fitN L size L.length = false := by simpa using hf
    have hE : Hid (nextE V L size hz now = 1) := by
      show _ = _
      unfold nextE nextA
      rw [hff, Bool.and_false]
      rfl
    rw [hff] at CF
    clear hf hff
    go_enter Try.func13, Try.ntmps13
    go_wp2
    go_step3
    go_wp2_with (first
      | (go_at_call 31; refine CF.out.mono ?_; rintro e w' ⟨rfl, rfl⟩)
      | fail)
    try rw [Exit.noGoto_ret]
    (try simp only [Exit.inBlock, Exit.then])
    refine bodyPost_ret (v := .tuple #[.agg #[.int .i64 0, .slice none 0 0, .int .i64 0], .int .i64 1]) ?_ rfl ⟨HNO.out hE.out (by decide), HB1.out⟩
    have x0 := cell_of (i := 0) HA2.out rfl
    have x1 := cell_of (i := 1) HA2.out rfl
    have x2 := cell_of (i := 2) HA2.out rfl
    rw [results_cell_tmp rfl]
    go_simp
end Go.Proofs.Ytkpnjehgbehhcaa
