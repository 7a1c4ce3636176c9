/- Two rows, and two grids, of copies held against each other. -/
import Derived.Test.YtkpnjehgbehhcaaEqc
import Derived.Deep.QuietTactic
import Derived.BigQuiet
namespace Go.Proofs.Ytkpnjehgbehhcaa
open Go.RowKit

theorem take_succ_eq {α : Type} (d : α) {l m : List α} {k : Nat} (hl : k < l.length) (hm : k < m.length) (h : l.take k = m.take k) (e : l.getD k d = m.getD k d) : l.take (k + 1) = m.take (k + 1) := by
  rw [List.take_add_one, List.take_add_one, h]
  rw [List.getD_eq_getElem?_getD, List.getD_eq_getElem?_getD, List.getElem?_eq_getElem hl, List.getElem?_eq_getElem hm] at e
  rw [List.getElem?_eq_getElem hl, List.getElem?_eq_getElem hm]
  simp only [Option.getD_some] at e
  rw [e]

set_option maxHeartbeats 1600000 in
set_option maxRecDepth 8000 in
theorem rows_any (v u : Value) (l m : List Cp) (w : World) (h : SlC w v l) (g : SlC w u m) :
    Calls Try.prog 21 #[v, u] w fun e w' => e = .returned (.bool (decide (l = m))) ∧ Below w.heap.size w w' := by
  obtain ⟨a, cap, rfl, ha, hle, hcap⟩ := SlG.form h
  obtain ⟨a2, cap2, rfl, ha2, hle2, hcap2⟩ := SlG.form g
  have R1 := Lib.hid (h.rd (B := w.heap.size) rfl)
  have R2 := Lib.hid (g.rd (B := w.heap.size) rfl)
  have hb00 : Hid (Below w.heap.size w w) := Below.refl _ w
  clear h g
  generalize w.heap.size = B at *
  by_cases hlen : l.length = m.length
  · have HTA : Hid (l.take l.length = m.take l.length → l = m) := fun q => by
      rw [List.take_length, hlen, List.take_length] at q
      exact q
    have HML : Hid (l.length = m.length) := hlen
    rw [← hlen]
    rw [← hlen] at hle2
    clear hlen
    have hgg := egC
    go_enter Try.func21, Try.ntmps21
    go_wp2
    go_loopw [5] (fun iv wr => ∃ k : Nat, k ≤ l.length ∧ iv = .int .i64 k ∧ Hid (l.take k = m.take k) ∧ Hid (Below B w wr)) (fun iv _ => l.length - (intOf iv).toNat)
    case atStart => exact ⟨0, Nat.zero_le _, rfl, rfl, hb00⟩
    case round =>
      obtain ⟨k, hk, rfl, htk, hb⟩ := hrel
      by_cases hlt : k < l.length
      · obtain ⟨b, o, rfl, hc⟩ := R1.out k hlt
        obtain ⟨b2, o2, rfl, hc2⟩ := R2.out k (by rw [← HML.out]; exact hlt)
        obtain ⟨c0, c1⟩ := hc wr hb
        obtain ⟨d0, d1⟩ := hc2 wr hb
        have hlt2 : (k : Int) < (l.length : Int) := by omega
        have HNX : Hid (l.getD k (0, 0) = m.getD k (0, 0) → l.take (k + 1) = m.take (k + 1)) := fun q => take_succ_eq (0, 0) hlt (by rw [← HML.out]; exact hlt) htk.out q
        have HNE : Hid (l.getD k (0, 0) ≠ m.getD k (0, 0) → decide (l = m) = false) := fun q => decide_eq_false fun e => q (by rw [e])
        clear R1 R2 hc hc2 HTA
        generalize l.getD k (0, 0) = x at *
        generalize m.getD k (0, 0) = y at *
        obtain ⟨x0, x1⟩ := x
        obtain ⟨y0, y1⟩ := y
        have hqq := fun w => neqC w x0 x1 y0 y1
        by_cases e0 : x0 = y0
        · have b0 : (x0 == y0) = true := beq_iff_eq.2 e0
          by_cases e1 : x1 = y1
          · have b1 : (x1 == y1) = true := beq_iff_eq.2 e1
            have HN := Lib.hid (HNX.out (by rw [e0, e1]))
            clear HNX HNE e0 e1
            go_wp2
            go_quiet (fail)
            go_wp2
            exact ⟨⟨k + 1, by omega, by go_num, HN, below_drewN hb.out _⟩, by simp [intOf]; omega⟩
          · have b1 : (x1 == y1) = false := beq_eq_false_iff_ne.2 e1
            have HN := Lib.hid (HNE.out (fun q => e1 (Prod.mk.inj q).2))
            clear HNX HNE e0 e1
            go_wp2
            go_quiet (fail)
            go_wp2
            go_ret
            exact ⟨by rw [HN.out]; rfl, below_drewN hb.out _⟩
        · have b0 : (x0 == y0) = false := beq_eq_false_iff_ne.2 e0
          have HN := Lib.hid (HNE.out (fun q => e0 (Prod.mk.inj q).1))
          clear HNX HNE e0
          go_wp2
          go_quiet (fail)
          go_wp2
          go_ret
          exact ⟨by rw [HN.out]; rfl, below_drewN hb.out _⟩
      · obtain rfl : k = l.length := by omega
        have HD : Hid (decide (l = m) = true) := decide_eq_true (HTA.out htk.out)
        clear R1 R2 HTA
        go_wp2
        go_ret
        exact ⟨by rw [HD.out]; rfl, hb.out⟩
  · have HD : Hid (decide (l = m) = false) := decide_eq_false fun e => hlen (by rw [e])
    have hne : ((l.length : Int) != (m.length : Int)) = true := bne_iff_ne.2 (by omega)
    clear R1 R2
    go_enter Try.func21, Try.ntmps21
    go_wp2
    go_ret
    exact ⟨by rw [HD.out]; rfl, hb00.out⟩

set_option maxHeartbeats 1600000 in
set_option maxRecDepth 8000 in
theorem copies_any (v u : Value) (L M : List (List Cp)) (w : World) (h : SlR w v L) (g : SlR w u M) :
    Calls Try.prog 14 #[v, u] w fun e w' => e = .returned (.bool (decide (L = M))) ∧ Below w.heap.size w w' := by
  obtain ⟨a, cap, rfl, ha, hle, hcap⟩ := SlG.form h
  obtain ⟨a2, cap2, rfl, ha2, hle2, hcap2⟩ := SlG.form g
  have HR : ∀ {v : Option Addr} {n c : Nat} {K : List (List Cp)}, SlR w (.slice v n c) K → ∀ k, k < K.length → ∃ b o x c, v = some ⟨b, o, none⟩ ∧ ∀ w', Below w.heap.size w w' → w'.cell? ⟨b, o + k, none⟩ = some (.slice x (K.getD k []).length c) ∧ SlC w' (.slice x (K.getD k []).length c) (K.getD k []) := fun q k hk => by
    obtain ⟨b, o, u, h1, h2, h3, h4⟩ := q.at rfl hk
    obtain ⟨x, c, rfl, _⟩ := SlG.form h4
    exact ⟨b, o, x, c, h1, fun w' hb => ⟨cell_keep h3 hb, h4.below hb⟩⟩
  have R1 := Lib.hid (HR h)
  have R2 := Lib.hid (HR g)
  have hb00 : Hid (Below w.heap.size w w) := Below.refl _ w
  have hSz : Hid (w.heap.size ≤ w.heap.size) := Nat.le_refl _
  clear h g HR
  generalize hB : w.heap.size = B at *
  have hBe : Hid (w.heap.size = B) := hB
  clear hB
  by_cases hlen : L.length = M.length
  · have HTA : Hid (L.take L.length = M.take L.length → L = M) := fun q => by
      rw [List.take_length, hlen, List.take_length] at q
      exact q
    have HML : Hid (L.length = M.length) := hlen
    rw [← hlen]
    rw [← hlen] at hle2
    clear hlen
    go_enter Try.func14, Try.ntmps14
    go_wp2
    go_loopw [5] (fun iv wr => ∃ k : Nat, k ≤ L.length ∧ iv = .int .i64 k ∧ Hid (L.take k = M.take k) ∧ Hid (Below B w wr)) (fun iv _ => L.length - (intOf iv).toNat)
    case atStart => exact ⟨0, Nat.zero_le _, rfl, rfl, hb00⟩
    case round =>
      obtain ⟨k, hk, rfl, htk, hb⟩ := hrel
      by_cases hlt : k < L.length
      · obtain ⟨b, o, x, c, rfl, hc⟩ := R1.out k hlt
        obtain ⟨b2, o2, x2, c2, rfl, hc2⟩ := R2.out k (by rw [← HML.out]; exact hlt)
        obtain ⟨c0, s0⟩ := hc wr hb.out
        obtain ⟨d0, t0⟩ := hc2 wr hb.out
        have hlt2 : (k : Int) < (L.length : Int) := by omega
        have HNX : Hid (L.getD k [] = M.getD k [] → L.take (k + 1) = M.take (k + 1)) := fun q => take_succ_eq [] hlt (by rw [← HML.out]; exact hlt) htk.out q
        have HNE : Hid (L.getD k [] ≠ M.getD k [] → decide (L = M) = false) := fun q => decide_eq_false fun e => q (by rw [e])
        have CR : Hid (∀ w2, Below wr.heap.size wr w2 → Calls Try.prog 21 #[.slice x (L.getD k []).length c, .slice x2 (M.getD k []).length c2] w2 fun e w' => e = .returned (.bool (decide (L.getD k [] = M.getD k []))) ∧ Below w2.heap.size w2 w') := fun w2 h2 => rows_any _ _ _ _ w2 (s0.below h2) (t0.below h2)
        have HBr : Hid (∀ w2, Below wr.heap.size wr w2 → Below B w w2) := fun w2 h2 => hb.out.trans (h2.mono (by have h5 := hb.out.size; have h6 := hBe.out; omega))
        have hcr : Hid (Below wr.heap.size wr wr) := Below.refl _ _
        clear R1 R2 hc hc2 HTA s0 t0
        generalize hlk : L.getD k [] = lk at *
        generalize hmk : M.getD k [] = mk at *
        clear hlk hmk
        by_cases e0 : lk = mk
        · have HN := Lib.hid (HNX.out e0)
          have he : decide (lk = mk) = true := decide_eq_true e0
          rw [he] at CR
          clear HNX HNE e0 he hb
          go_wp2
          go_region_with ((go_at_call 21; refine (CR.out _ (by first | exact hcr.out.drew | exact hcr.out)).mono ?_; rintro e w2 ⟨rfl, hb2⟩; have HB2 : Hid (Below B w w2) := HBr.out w2 (by first | exact hcr.out.drew.trans hb2 | exact hcr.out.trans hb2); clear hb2))
          all_goals
            go_wp2
            exact ⟨⟨k + 1, by omega, by go_num, HN, HB2⟩, by simp [intOf]; omega⟩
        · have HN := Lib.hid (HNE.out e0)
          have he : decide (lk = mk) = false := decide_eq_false e0
          rw [he] at CR
          clear HNX HNE e0 he hb
          go_wp2
          go_region_with ((go_at_call 21; refine (CR.out _ (by first | exact hcr.out.drew | exact hcr.out)).mono ?_; rintro e w2 ⟨rfl, hb2⟩; have HB2 : Hid (Below B w w2) := HBr.out w2 (by first | exact hcr.out.drew.trans hb2 | exact hcr.out.trans hb2); clear hb2))
          all_goals
            go_wp2
            go_ret
            exact ⟨by rw [HN.out]; rfl, HB2.out⟩
      · obtain rfl : k = L.length := by omega
        have HD : Hid (decide (L = M) = true) := decide_eq_true (HTA.out htk.out)
        clear R1 R2 HTA
        go_wp2
        go_ret
        exact ⟨by rw [HD.out]; rfl, hb.out⟩
  · have HD : Hid (decide (L = M) = false) := decide_eq_false fun e => hlen (by rw [e])
    have hne : ((L.length : Int) != (M.length : Int)) = true := bne_iff_ne.2 (by omega)
    clear R1 R2
    go_enter Try.func14, Try.ntmps14
    go_wp2
    go_ret
    exact ⟨by rw [HD.out]; rfl, hb00.out⟩
end Go.Proofs.Ytkpnjehgbehhcaa
