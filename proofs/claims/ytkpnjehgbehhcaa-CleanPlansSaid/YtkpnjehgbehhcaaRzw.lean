/- The reference's Zones: the walk. -/
import Derived.Test.YtkpnjehgbehhcaaRlw
import Derived.Test.YtkpnjehgbehhcaaRnp
namespace Go.Proofs.Ytkpnjehgbehhcaa
open Go.RowKit Fl

theorem filt_succ {f : Cp → Bool} {l : List Cp} {k : Nat} (hk : k < l.length) : ((l.take (k + 1)).filter f).length = ((l.take k).filter f).length + (if f (l.getD k (0, 0)) = true then 1 else 0) := by
  rw [take_filter hk, List.length_append]
  split <;> rfl
theorem setA {w : World} {g : Nat} {a b c x : Value} {t : TypeId} (h : w.heap[g]? = some (Obj.cells #[a, b, c] t (0, 0))) :
    (w.setCell ⟨g, 0, none⟩ x).heap[g]? = some (Obj.cells #[x, b, c] t (0, 0)) ∧ (w.setCell ⟨g, 1, none⟩ x).heap[g]? = some (Obj.cells #[a, x, c] t (0, 0)) ∧ (w.setCell ⟨g, 2, none⟩ x).heap[g]? = some (Obj.cells #[a, b, x] t (0, 0)) := by
  refine ⟨?_, ?_, ?_⟩
  all_goals
    show (w.heap.modify g _)[g]? = _
    rw [Array.getElem?_modify, if_pos rfl, h]
    rfl
/-- a zone's variable while its row is gone through -/
def RzS (A : Nat) (w0 : World) (V : Int → List Int) (hz : Int) (r : List Cp) (k : Nat) (w : World) : Prop :=
  w.heap[A]? = some (Obj.cells #[.int .i64 (((r.take k).filter fun c => liveV V c hz).length : Nat), .int .i64 0, .int .i64 (newN r k)] 53 (0, 0)) ∧ Below A w0 w

set_option maxHeartbeats 3200000 in
set_option maxRecDepth 16000 in
theorem rzones_any {Bm p : Nat} {V : Int → List Int} {last : Int} {n : Nat} (hV : Vok V last) (hn : n ≤ 1000000) (v : Value) (L : List (List Cp)) (hL : L.length ≤ 1000000) (hrow : ∀ r ∈ L, r.length ≤ 1000000) (size hz : Int) (w : World) (h : SlR w v L) (hM : Rm w Bm p (segs V 0 30) last n) :
    Calls Try.prog 18 #[.pointer (some ⟨p, 0, none⟩), v, .int .i64 size, .int .i64 hz] w fun e w' => (∃ v', e = .returned v' ∧ OwnZ w' w.heap.size v' (zonesV V size hz L)) ∧ Below w.heap.size w w' := by
  obtain ⟨a, cap, rfl, ha, hle, hcap⟩ := SlG.form h
  have HM : Hid (∀ w', Below w.heap.size w w' → Rm w' Bm p (segs V 0 30) last n) := fun w' hb => hM.below hb
  have HC : Hid (∀ k, k < L.length → ∃ b o x c, a = some ⟨b, o, none⟩ ∧ ∀ w', Below w.heap.size w w' → w'.cell? ⟨b, o + k, none⟩ = some (.slice x (L.getD k []).length c) ∧ SlC w' (.slice x (L.getD k []).length c) (L.getD k [])) := fun k hk => by
    obtain ⟨b, o, u, h1, h2, h3, h4⟩ := h.at rfl hk
    obtain ⟨x, c, rfl, _⟩ := SlG.form h4
    exact ⟨b, o, x, c, h1, fun w' hb => ⟨cell_keep h3 hb, h4.below hb⟩⟩
  generalize hB : w.heap.size = B at *
  have hB0 : Hid (B ≤ w.heap.size) := Nat.le_of_eq hB.symm
  have hb00 : Hid (Below B w w) := Below.refl B w
  have HT : Hid (∀ k, k < L.length → zonesV V size hz (L.take (k + 1)) = zonesV V size hz (L.take k) ++ [zoneOf V size hz (L.getD k [])]) := fun k hk => zones_take hk
  have HRL : Hid (∀ k, k < L.length → (L.getD k []).length ≤ 1000000) := fun k hk => hrow _ (by rw [List.getD_eq_getElem?_getD, List.getElem?_eq_getElem hk]; exact List.getElem_mem hk)
  have HLN : Hid (∀ k, (zonesV V size hz (L.take k)).length ≤ 1000000) := fun k => by
    rw [zonesV_len, List.length_take]
    omega
  have HTA : Hid (L.take L.length = L) := List.take_length
  clear h hM hrow hB
  go_enter Try.func18, Try.ntmps18
  go_wp2
  go_loopw [9, 10] (fun vo iv wr => ∃ (k : Nat) (v1 : Value), k ≤ L.length ∧ iv = .int .i64 k ∧ vo = v1 ∧ Hid (OwnZ wr B v1 (zonesV V size hz (L.take k))) ∧ Hid (Below B w wr)) (fun _ iv _ => L.length - (intOf iv).toNat)
  case atStart => exact ⟨0, _, Nat.zero_le _, rfl, rfl, World.ownsRow_nil w B _ 3, hb00⟩
  case round =>
    obtain ⟨k, v1, hk, rfl, rfl, ho, hb⟩ := hrel
    by_cases hlt : k < L.length
    · obtain ⟨b, o, x, c, rfl, hcell⟩ := HC.out k hlt
      have hlt2 : (k : Int) < (L.length : Int) := by omega
      have HLN1 := HLN.out k
      have HT1 := Lib.hid (HT.out k hlt)
      have hrl := HRL.out k hlt
      have hS : Hid (B ≤ wr.heap.size) := Nat.le_trans hB0.out hb.out.size
      clear HC HT HRL HLN HTA
      generalize L.getD k [] = r at *
      have HBW : Hid (∀ w', Below wr.heap.size wr w' → Below B w w') := fun w' h' => hb.out.trans (h'.mono hS.out)
      have HCE : Hid (∀ w', Below wr.heap.size wr w' → w'.cell? ⟨b, o + k, none⟩ = some (.slice x r.length c)) := fun w' h' => (hcell w' (HBW.out w' h')).1
      have HRD : Hid (∀ j, j < r.length → ∃ b2 o2, x = some ⟨b2, o2, none⟩ ∧ ∀ w', Below wr.heap.size wr w' → w'.cell? ⟨b2, o2 + j * 2, none⟩ = some (.int .i64 (r.getD j (0, 0)).1) ∧ w'.cell? ⟨b2, o2 + j * 2 + 1, none⟩ = some (.int .i64 (r.getD j (0, 0)).2)) := fun j hj => by
        obtain ⟨b2, o2, h1, h2⟩ := (hcell wr hb.out).2.rd (B := wr.heap.size) rfl j hj
        exact ⟨b2, o2, h1, fun w' h' => h2 w' h'⟩
      have HLV : Hid (∀ c' w', Below wr.heap.size wr w' → Calls Try.prog 19 #[.pointer (some ⟨p, 0, none⟩), .agg #[.int .i64 (c' : Cp).1, .int .i64 c'.2], .int .i64 hz] w' fun e w'' => e = .returned (.bool (liveV V c' hz)) ∧ Below w'.heap.size w' w'') := fun c' w' h' => rlive_any hV c' hz w' (HM.out w' (HBW.out w' h')) hn
      have HS0 : Hid (RzS wr.heap.size wr V hz r 0 (wr.alloc (.cells #[.int .i64 0, .int .i64 0, .int .i64 0] 53))) := ⟨heap_alloc_new _ _, (Below.refl _ _).alloc (Nat.le_refl _) _⟩
      clear hcell
      go_wp2
      generalize hA : wr.heap.size = A at *
      have HAe := Lib.hid hA
      clear hA
      generalize wr.alloc (.cells #[.int .i64 0, .int .i64 0, .int .i64 0] 53) = w0 at *
      generalize wr = wo at *
      go_loopw [12] (fun iv wx => ∃ j : Nat, j ≤ r.length ∧ iv = .int .i64 j ∧ Hid (RzS A wo V hz r j wx)) (fun iv _ => r.length - (intOf iv).toNat)
      case atStart => exact ⟨0, Nat.zero_le _, rfl, HS0⟩
      case round =>
        clear HS0
        obtain ⟨j, hj, rfl, hs⟩ := hrel
        have q0 := HCE.out wr hs.out.2
        by_cases hjl : j < r.length
        · obtain ⟨b2, o2, rfl, hcj⟩ := HRD.out j hjl
          have hjl2 : (j : Int) < (r.length : Int) := by omega
          obtain ⟨q1, q2⟩ := hcj wr hs.out.2
          have CL := Lib.hid (HLV.out (r.getD j (0, 0)) wr hs.out.2)
          have HNW : Hid (newN r (j + 1) = if j = 0 ∨ newN r j < (r.getD j (0, 0)).2 then (r.getD j (0, 0)).2 else newN r j) := rfl
          have HCT := Lib.hid (filt_succ (f := fun c => liveV V c hz) hjl)
          have hcn : ((r.take j).filter fun c => liveV V c hz).length ≤ 1000000 := by
            have h1 := List.length_filter_le (fun c => liveV V c hz) (r.take j)
            rw [List.length_take] at h1
            omega
          have P1 : Hid (wr.heap[A]? = some (Obj.cells #[.int .i64 (((r.take j).filter fun c => liveV V c hz).length : Nat), .int .i64 0, .int .i64 (newN r j)] 53 (0, 0))) := hs.out.1
          have BB1 : Hid (Below A wo wr) := hs.out.2
          have HFR : Hid (∀ w', Below A wo w' → w'.cell? ⟨b, o + k, none⟩ = some (.slice (some ⟨b2, o2, none⟩) r.length c) ∧ w'.cell? ⟨b2, o2 + j * 2, none⟩ = some (.int .i64 (r.getD j (0, 0)).1) ∧ w'.cell? ⟨b2, o2 + j * 2 + 1, none⟩ = some (.int .i64 (r.getD j (0, 0)).2)) := fun w' h' => ⟨HCE.out w' h', (hcj w' h').1, (hcj w' h').2⟩
          have HAL : Hid (A < wr.heap.size) := (Array.getElem?_eq_some_iff.1 P1.out).1
          clear hs hcj HRD HCE HLV HM HBW HT1
          generalize r.getD j (0, 0) = cj at *
          obtain ⟨c0, c1⟩ := cj
          generalize ((r.take j).filter fun c => liveV V c hz).length = cn at *
          generalize newN r j = nk at *
          go_wp2_with fail
          refine CL.out.mono ?_
          rintro e w2 ⟨rfl, hb2⟩
          have P2 := (hb2.block A HAL.out).trans P1.out
          have BB2 : Hid (Below A wo w2) := BB1.out.trans (hb2.mono (Nat.le_of_lt HAL.out))
          clear hb2 CL q0 q1 q2 P1 BB1 HAL
          cases hlv : liveV V (c0, c1) hz with
          | true =>
            rw [hlv] at HCT
            have HCN : Hid (((((r.take (j + 1)).filter fun c => liveV V c hz).length : Nat) : Int) = (cn : Int) + 1) := by
              have h5 := HCT.out
              rw [if_pos rfl] at h5
              show _ = _
              rw [h5]
              omega
            have e0 : w2.cell? ⟨A, 0, none⟩ = some (.int .i64 (cn : Int)) := cell_of P2 rfl
            have f0 : w2.frozen? ⟨A, 0, none⟩ = false := frz_of P2
            have hwr : IntKind.i64.wrap ((cn : Int) + 1) = (cn : Int) + 1 := IntWalk.i64_in _ (by omega)
            have P3 : Hid ((w2.setCell ⟨A, 0, none⟩ (.int .i64 ((cn : Int) + 1))).heap[A]? = some (Obj.cells #[.int .i64 ((cn : Int) + 1), .int .i64 0, .int .i64 nk] 53 (0, 0))) := (setA P2).1
            have BB3 : Hid (Below A wo (w2.setCell ⟨A, 0, none⟩ (.int .i64 ((cn : Int) + 1)))) := BB2.out.setCell (Nat.le_refl A) _
            clear HCT hlv P2 BB2
            go_wp2
            generalize w2.setCell ⟨A, 0, none⟩ (.int .i64 ((cn : Int) + 1)) = w3 at *
            clear e0 f0 hwr
            obtain ⟨r0, r1, r2⟩ := HFR.out w3 BB3.out
            have e2 : w3.cell? ⟨A, 2, none⟩ = some (.int .i64 nk) := cell_of P3.out rfl
            have hdec : (((j : Int) == 0) = true ∧ Hid (newN r (j + 1) = c1)) ∨ (((j : Int) == 0) = false ∧ decide (nk < c1) = true ∧ Hid (newN r (j + 1) = c1)) ∨ (((j : Int) == 0) = false ∧ decide (nk < c1) = false ∧ Hid (newN r (j + 1) = nk)) := by
              have h5 := HNW.out
              by_cases h0 : j = 0
              · rw [if_pos (.inl h0)] at h5
                exact .inl ⟨by rw [h0]; rfl, h5⟩
              · have hz0 : ((j : Int) == 0) = false := beq_eq_false_iff_ne.2 (by omega)
                by_cases hg : nk < c1
                · rw [if_pos (.inr hg)] at h5
                  exact .inr (.inl ⟨hz0, decide_eq_true hg, h5⟩)
                · rw [if_neg (by rintro (h | h); exact h0 h; exact hg h)] at h5
                  exact .inr (.inr ⟨hz0, decide_eq_false hg, h5⟩)
            clear HNW HFR
            rcases hdec with ⟨d0, hn1⟩ | ⟨d0, d1, hn1⟩ | ⟨d0, d1, hn1⟩
            · go_quiet (fail)
              have f2 : (w3.drewN nq).frozen? ⟨A, 2, none⟩ = false := frz_of (w := w3.drewN nq) P3.out
              have e3 : (w3.drewN nq).cell? ⟨A, 2, none⟩ = some (.int .i64 nk) := e2
              have e4 : (w3.drewN nq).cell? ⟨b, o + k, none⟩ = some (.slice (some ⟨b2, o2, none⟩) r.length c) := r0
              have e5 : (w3.drewN nq).cell? ⟨b2, o2 + j * 2 + 1, none⟩ = some (.int .i64 c1) := r2
              have HEND : Hid (RzS A wo V hz r (j + 1) ((w3.drewN nq).setCell ⟨A, 2, none⟩ (.int .i64 c1))) := by
                refine ⟨?_, (below_drewN BB3.out _).setCell (Nat.le_refl A) _⟩
                have h6 := (setA (w := w3.drewN nq) (x := .int .i64 c1) P3.out).2.2
                rw [hn1.out, HCN.out]
                exact h6
              clear r0 r1 r2 e2
              go_wp2
              exact ⟨⟨j + 1, by omega, by go_num, HEND⟩, by simp [intOf]; omega⟩
            · go_quiet (fail)
              have f2 : (w3.drewN nq).frozen? ⟨A, 2, none⟩ = false := frz_of (w := w3.drewN nq) P3.out
              have e3 : (w3.drewN nq).cell? ⟨A, 2, none⟩ = some (.int .i64 nk) := e2
              have e4 : (w3.drewN nq).cell? ⟨b, o + k, none⟩ = some (.slice (some ⟨b2, o2, none⟩) r.length c) := r0
              have e5 : (w3.drewN nq).cell? ⟨b2, o2 + j * 2 + 1, none⟩ = some (.int .i64 c1) := r2
              have HEND : Hid (RzS A wo V hz r (j + 1) ((w3.drewN nq).setCell ⟨A, 2, none⟩ (.int .i64 c1))) := by
                refine ⟨?_, (below_drewN BB3.out _).setCell (Nat.le_refl A) _⟩
                have h6 := (setA (w := w3.drewN nq) (x := .int .i64 c1) P3.out).2.2
                rw [hn1.out, HCN.out]
                exact h6
              clear r0 r1 r2 e2
              go_wp2
              exact ⟨⟨j + 1, by omega, by go_num, HEND⟩, by simp [intOf]; omega⟩
            · go_quiet (fail)
              have HEND : Hid (RzS A wo V hz r (j + 1) (w3.drewN nq)) := by
                refine ⟨?_, below_drewN BB3.out _⟩
                rw [hn1.out, HCN.out]
                exact P3.out
              clear r0 r1 r2 e2
              go_wp2
              exact ⟨⟨j + 1, by omega, by go_num, HEND⟩, by simp [intOf]; omega⟩
          | false =>
            rw [hlv] at HCT
            have HCN : Hid (((((r.take (j + 1)).filter fun c => liveV V c hz).length : Nat) : Int) = (cn : Int)) := by
              have h5 := HCT.out
              rw [if_neg (by decide)] at h5
              show _ = _
              rw [h5]
              rfl
            have P3 : Hid (w2.heap[A]? = some (Obj.cells #[.int .i64 (cn : Int), .int .i64 0, .int .i64 nk] 53 (0, 0))) := P2
            have BB3 := Lib.hid BB2.out
            clear HCT hlv P2 BB2
            go_wp2
            generalize w2 = w3 at *
            obtain ⟨r0, r1, r2⟩ := HFR.out w3 BB3.out
            have e2 : w3.cell? ⟨A, 2, none⟩ = some (.int .i64 nk) := cell_of P3.out rfl
            have hdec : (((j : Int) == 0) = true ∧ Hid (newN r (j + 1) = c1)) ∨ (((j : Int) == 0) = false ∧ decide (nk < c1) = true ∧ Hid (newN r (j + 1) = c1)) ∨ (((j : Int) == 0) = false ∧ decide (nk < c1) = false ∧ Hid (newN r (j + 1) = nk)) := by
              have h5 := HNW.out
              by_cases h0 : j = 0
              · rw [if_pos (.inl h0)] at h5
                exact .inl ⟨by rw [h0]; rfl, h5⟩
              · have hz0 : ((j : Int) == 0) = false := beq_eq_false_iff_ne.2 (by omega)
                by_cases hg : nk < c1
                · rw [if_pos (.inr hg)] at h5
                  exact .inr (.inl ⟨hz0, decide_eq_true hg, h5⟩)
                · rw [if_neg (by rintro (h | h); exact h0 h; exact hg h)] at h5
                  exact .inr (.inr ⟨hz0, decide_eq_false hg, h5⟩)
            clear HNW HFR
            rcases hdec with ⟨d0, hn1⟩ | ⟨d0, d1, hn1⟩ | ⟨d0, d1, hn1⟩
            · go_quiet (fail)
              have f2 : (w3.drewN nq).frozen? ⟨A, 2, none⟩ = false := frz_of (w := w3.drewN nq) P3.out
              have e3 : (w3.drewN nq).cell? ⟨A, 2, none⟩ = some (.int .i64 nk) := e2
              have e4 : (w3.drewN nq).cell? ⟨b, o + k, none⟩ = some (.slice (some ⟨b2, o2, none⟩) r.length c) := r0
              have e5 : (w3.drewN nq).cell? ⟨b2, o2 + j * 2 + 1, none⟩ = some (.int .i64 c1) := r2
              have HEND : Hid (RzS A wo V hz r (j + 1) ((w3.drewN nq).setCell ⟨A, 2, none⟩ (.int .i64 c1))) := by
                refine ⟨?_, (below_drewN BB3.out _).setCell (Nat.le_refl A) _⟩
                have h6 := (setA (w := w3.drewN nq) (x := .int .i64 c1) P3.out).2.2
                rw [hn1.out, HCN.out]
                exact h6
              clear r0 r1 r2 e2
              go_wp2
              exact ⟨⟨j + 1, by omega, by go_num, HEND⟩, by simp [intOf]; omega⟩
            · go_quiet (fail)
              have f2 : (w3.drewN nq).frozen? ⟨A, 2, none⟩ = false := frz_of (w := w3.drewN nq) P3.out
              have e3 : (w3.drewN nq).cell? ⟨A, 2, none⟩ = some (.int .i64 nk) := e2
              have e4 : (w3.drewN nq).cell? ⟨b, o + k, none⟩ = some (.slice (some ⟨b2, o2, none⟩) r.length c) := r0
              have e5 : (w3.drewN nq).cell? ⟨b2, o2 + j * 2 + 1, none⟩ = some (.int .i64 c1) := r2
              have HEND : Hid (RzS A wo V hz r (j + 1) ((w3.drewN nq).setCell ⟨A, 2, none⟩ (.int .i64 c1))) := by
                refine ⟨?_, (below_drewN BB3.out _).setCell (Nat.le_refl A) _⟩
                have h6 := (setA (w := w3.drewN nq) (x := .int .i64 c1) P3.out).2.2
                rw [hn1.out, HCN.out]
                exact h6
              clear r0 r1 r2 e2
              go_wp2
              exact ⟨⟨j + 1, by omega, by go_num, HEND⟩, by simp [intOf]; omega⟩
            · go_quiet (fail)
              have HEND : Hid (RzS A wo V hz r (j + 1) (w3.drewN nq)) := by
                refine ⟨?_, below_drewN BB3.out _⟩
                rw [hn1.out, HCN.out]
                exact P3.out
              clear r0 r1 r2 e2
              go_wp2
              exact ⟨⟨j + 1, by omega, by go_num, HEND⟩, by simp [intOf]; omega⟩
        · obtain rfl : j = r.length := by omega
          have P1 : Hid (wr.heap[A]? = some (Obj.cells #[.int .i64 (((r.take r.length).filter fun c => liveV V c hz).length : Nat), .int .i64 0, .int .i64 (newN r r.length)] 53 (0, 0))) := hs.out.1
          have BB1 : Hid (Below A wo wr) := hs.out.2
          rw [List.take_length] at P1
          have HZD : Hid (zoneOf V size hz r = if (r.length : Int) ≤ size then (((r.filter fun c => liveV V c hz).length : Int), size, newN r r.length) else (0, 0, newN r r.length)) := rfl
          clear hs HRD HLV HM HBW
          generalize (r.filter fun c => liveV V c hz).length = cn at *
          generalize newN r r.length = nk at *
          have f1 : wr.frozen? ⟨A, 1, none⟩ = false := frz_of P1.out
          have e1 : wr.cell? ⟨A, 1, none⟩ = some (.int .i64 0) := cell_of P1.out rfl
          have Pa : Hid ((wr.setCell ⟨A, 1, none⟩ (.int .i64 size)).heap[A]? = some (Obj.cells #[.int .i64 (cn : Int), .int .i64 size, .int .i64 nk] 53 (0, 0))) := (setA P1.out).2.1
          have BBa : Hid (Below A wo (wr.setCell ⟨A, 1, none⟩ (.int .i64 size))) := BB1.out.setCell (Nat.le_refl A) _
          have qa := HCE.out _ BBa.out
          by_cases hsz : size < (r.length : Int)
          · have hd : decide (size < (r.length : Int)) = true := decide_eq_true hsz
            have HZO : Hid (zoneOf V size hz r = (0, 0, nk)) := by
              have h5 := HZD.out
              rw [if_neg (by omega)] at h5
              exact h5
            have f2 : (wr.setCell ⟨A, 1, none⟩ (.int .i64 size)).frozen? ⟨A, 0, none⟩ = false := frz_of Pa.out
            have e2 : (wr.setCell ⟨A, 1, none⟩ (.int .i64 size)).cell? ⟨A, 0, none⟩ = some (.int .i64 (cn : Int)) := cell_of Pa.out rfl
            have Pb : Hid (((wr.setCell ⟨A, 1, none⟩ (.int .i64 size)).setCell ⟨A, 0, none⟩ (.int .i64 0)).heap[A]? = some (Obj.cells #[.int .i64 0, .int .i64 size, .int .i64 nk] 53 (0, 0))) := (setA Pa.out).1
            have BBb := Lib.hid (BBa.out.setCell (p := ⟨A, 0, none⟩) (Nat.le_refl A) (.int .i64 0))
            have f3 : ((wr.setCell ⟨A, 1, none⟩ (.int .i64 size)).setCell ⟨A, 0, none⟩ (.int .i64 0)).frozen? ⟨A, 1, none⟩ = false := frz_of Pb.out
            have e3 : ((wr.setCell ⟨A, 1, none⟩ (.int .i64 size)).setCell ⟨A, 0, none⟩ (.int .i64 0)).cell? ⟨A, 1, none⟩ = some (.int .i64 size) := cell_of Pb.out rfl
            have Pc : Hid ((((wr.setCell ⟨A, 1, none⟩ (.int .i64 size)).setCell ⟨A, 0, none⟩ (.int .i64 0)).setCell ⟨A, 1, none⟩ (.int .i64 0)).heap[A]? = some (Obj.cells #[.int .i64 0, .int .i64 0, .int .i64 nk] 53 (0, 0))) := (setA Pb.out).2.1
            have BBc := Lib.hid (BBb.out.setCell (p := ⟨A, 1, none⟩) (Nat.le_refl A) (.int .i64 0))
            clear HZD HCE hsz
            have HOX : Hid ((((wr.setCell ⟨A, 1, none⟩ (.int .i64 size)).setCell ⟨A, 0, none⟩ (.int .i64 0)).setCell ⟨A, 1, none⟩ (.int .i64 0)).ownsRow B 53 3 u9 (zonesV V size hz (L.take k)).length (flatZ (zonesV V size hz (L.take k)))) := ownsRow_after ho.out (by rw [HAe.out]; exact BBc.out)
            have HBX : Hid (Below B w (((wr.setCell ⟨A, 1, none⟩ (.int .i64 size)).setCell ⟨A, 0, none⟩ (.int .i64 0)).setCell ⟨A, 1, none⟩ (.int .i64 0))) := hb.out.trans (BBc.out.mono (by have h5 := hS.out; have h6 := HAe.out; omega))
            have HSX : Hid (B ≤ (((wr.setCell ⟨A, 1, none⟩ (.int .i64 size)).setCell ⟨A, 0, none⟩ (.int .i64 0)).setCell ⟨A, 1, none⟩ (.int .i64 0)).heap.size) := Nat.le_trans hB0.out HBX.out.size
            have x0 : (((wr.setCell ⟨A, 1, none⟩ (.int .i64 size)).setCell ⟨A, 0, none⟩ (.int .i64 0)).setCell ⟨A, 1, none⟩ (.int .i64 0)).cell? ⟨A, 0, none⟩ = some (.int .i64 (0)) := cell_of Pc.out rfl
            have x1 : (((wr.setCell ⟨A, 1, none⟩ (.int .i64 size)).setCell ⟨A, 0, none⟩ (.int .i64 0)).setCell ⟨A, 1, none⟩ (.int .i64 0)).cell? ⟨A, 1, none⟩ = some (.int .i64 (0)) := cell_of Pc.out rfl
            have x2 : (((wr.setCell ⟨A, 1, none⟩ (.int .i64 size)).setCell ⟨A, 0, none⟩ (.int .i64 0)).setCell ⟨A, 1, none⟩ (.int .i64 0)).cell? ⟨A, 2, none⟩ = some (.int .i64 nk) := cell_of Pc.out rfl
            have HK : Hid (∀ o, Below (((wr.setCell ⟨A, 1, none⟩ (.int .i64 size)).setCell ⟨A, 0, none⟩ (.int .i64 0)).setCell ⟨A, 1, none⟩ (.int .i64 0)).heap.size (((wr.setCell ⟨A, 1, none⟩ (.int .i64 size)).setCell ⟨A, 0, none⟩ (.int .i64 0)).setCell ⟨A, 1, none⟩ (.int .i64 0)) ((((wr.setCell ⟨A, 1, none⟩ (.int .i64 size)).setCell ⟨A, 0, none⟩ (.int .i64 0)).setCell ⟨A, 1, none⟩ (.int .i64 0)).alloc o)) := fun o => (Below.refl _ _).alloc (Nat.le_refl _) o
            go_wp2_with (first
              | (at_builtin; refine wpList_appG rfl _ _ B 47 53 (.agg #[.int .i64 0, .int .i64 0, .int .i64 0]) 3 24 rfl Try.underlying47 infoZ rfl (by decide) u9 _ _ rfl
                   (ownsRow_after HOX.out (HK.out _)) _ 1 [.int .i64 (0), .int .i64 (0), .int .i64 nk] rfl (Src.new' _ _ _ 1 _ (by simp)) rfl (by intro u hu; simp at hu; rcases hu with rfl | rfl | rfl <;> rfl) (by omega) (by unfold maxLen; omega) (Nat.le_trans HSX.out (HK.out _).size) ?_
                 intro v2 w4 ho2 hg2 _
                 have hb4 : Hid (Below B w w4) := below_own (ownsRow_after HOX.out (HK.out _)) hg2 (HBX.out.alloc HSX.out _) (Nat.le_refl _) (Nat.le_trans HSX.out (HK.out _).size)
                 have HO4 : Hid (OwnZ w4 B v2 (zonesV V size hz (L.take (k + 1)))) := by
                   show w4.ownsRow _ _ _ _ _ _
                   rw [HT1.out, flatZ_app, List.length_append, HZO.out]
                   exact ho2
                 clear ho2 hg2)
              | fail)
            exact ⟨⟨k + 1, _, by omega, by go_num, rfl, HO4, hb4⟩, by simp [intOf]; omega⟩
          · have hd : decide (size < (r.length : Int)) = false := decide_eq_false hsz
            have HZO : Hid (zoneOf V size hz r = ((cn : Int), size, nk)) := by
              have h5 := HZD.out
              rw [if_pos (by omega)] at h5
              exact h5
            clear HZD HCE hsz
            have HOX : Hid ((wr.setCell ⟨A, 1, none⟩ (.int .i64 size)).ownsRow B 53 3 u9 (zonesV V size hz (L.take k)).length (flatZ (zonesV V size hz (L.take k)))) := ownsRow_after ho.out (by rw [HAe.out]; exact BBa.out)
            have HBX : Hid (Below B w (wr.setCell ⟨A, 1, none⟩ (.int .i64 size))) := hb.out.trans (BBa.out.mono (by have h5 := hS.out; have h6 := HAe.out; omega))
            have HSX : Hid (B ≤ (wr.setCell ⟨A, 1, none⟩ (.int .i64 size)).heap.size) := Nat.le_trans hB0.out HBX.out.size
            have x0 : (wr.setCell ⟨A, 1, none⟩ (.int .i64 size)).cell? ⟨A, 0, none⟩ = some (.int .i64 ((cn : Int))) := cell_of Pa.out rfl
            have x1 : (wr.setCell ⟨A, 1, none⟩ (.int .i64 size)).cell? ⟨A, 1, none⟩ = some (.int .i64 (size)) := cell_of Pa.out rfl
            have x2 : (wr.setCell ⟨A, 1, none⟩ (.int .i64 size)).cell? ⟨A, 2, none⟩ = some (.int .i64 nk) := cell_of Pa.out rfl
            have HK : Hid (∀ o, Below (wr.setCell ⟨A, 1, none⟩ (.int .i64 size)).heap.size (wr.setCell ⟨A, 1, none⟩ (.int .i64 size)) ((wr.setCell ⟨A, 1, none⟩ (.int .i64 size)).alloc o)) := fun o => (Below.refl _ _).alloc (Nat.le_refl _) o
            go_wp2_with (first
              | (at_builtin; refine wpList_appG rfl _ _ B 47 53 (.agg #[.int .i64 0, .int .i64 0, .int .i64 0]) 3 24 rfl Try.underlying47 infoZ rfl (by decide) u9 _ _ rfl
                   (ownsRow_after HOX.out (HK.out _)) _ 1 [.int .i64 ((cn : Int)), .int .i64 (size), .int .i64 nk] rfl (Src.new' _ _ _ 1 _ (by simp)) rfl (by intro u hu; simp at hu; rcases hu with rfl | rfl | rfl <;> rfl) (by omega) (by unfold maxLen; omega) (Nat.le_trans HSX.out (HK.out _).size) ?_
                 intro v2 w4 ho2 hg2 _
                 have hb4 : Hid (Below B w w4) := below_own (ownsRow_after HOX.out (HK.out _)) hg2 (HBX.out.alloc HSX.out _) (Nat.le_refl _) (Nat.le_trans HSX.out (HK.out _).size)
                 have HO4 : Hid (OwnZ w4 B v2 (zonesV V size hz (L.take (k + 1)))) := by
                   show w4.ownsRow _ _ _ _ _ _
                   rw [HT1.out, flatZ_app, List.length_append, HZO.out]
                   exact ho2
                 clear ho2 hg2)
              | fail)
            exact ⟨⟨k + 1, _, by omega, by go_num, rfl, HO4, hb4⟩, by simp [intOf]; omega⟩
    · have : k = L.length := by omega
      subst this
      clear HC HT HLN HM
      go_wp2
      go_ret
      refine ⟨⟨_, rfl, ?_⟩, hb.out⟩
      have h5 := ho.out
      rw [HTA.out] at h5
      exact h5
end Go.Proofs.Ytkpnjehgbehhcaa
