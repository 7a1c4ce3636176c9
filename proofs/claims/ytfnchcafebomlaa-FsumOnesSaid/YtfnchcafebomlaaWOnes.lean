/- The walk of FsumOnes: the law returns true. -/
import Derived.Test.YtfnchcafebomlaaOwn2
import Derived.Test.YtfnchcafebomlaaSame
import Derived.Test.YtfnchcafebomlaaWDoubles
import Derived.BigRegion
import Derived.BigQuiet
import Derived.Deep.QuietTactic
namespace Fl
open Go
theorem fne_of_canon {z x : Nat} (h : canon z = x) (y : Nat) : fne z y = fne x y := by
  subst h; unfold fne; rw [← order_canon z y, ← order_canon (canon z) y, canon_canon]
def oddB (l : List Nat) : Bool := l.any fun x => fne (fsub x x) 0
theorem oddB_succ {l : List Nat} {k : Nat} (h : k < l.length) : oddB (l.take (k + 1)) = (oddB (l.take k) || fne (fsub l[k] l[k]) 0) := by
  unfold oddB
  rw [List.take_succ_eq_append_getElem h, List.any_append]; simp
theorem oddB_fin {l : List Nat} (h : oddB l = false) : ∀ x ∈ l, fin x := fun x hx => by
  unfold oddB at h
  rw [List.any_eq_false] at h
  have := h x hx
  exact (odd_iff x).1 (by simpa using this)
def onesRow (n k : Nat) : List Nat := List.replicate k 4607182418800017408 ++ List.replicate (n - k) 0
theorem onesRow_zero (n : Nat) : onesRow n 0 = List.replicate n 0 := by unfold onesRow; simp
theorem onesRow_all (n : Nat) : onesRow n n = List.replicate n 4607182418800017408 := by unfold onesRow; simp
theorem onesRow_len {n k : Nat} (h : k ≤ n) : (onesRow n k).length = n := by unfold onesRow; simp; omega
theorem onesRow_set {n k : Nat} (h : k < n) : (onesRow n k).set k 4607182418800017408 = onesRow n (k + 1) := by
  unfold onesRow
  rw [List.set_append_right _ _ (by simp), List.length_replicate, Nat.sub_self, show n - k = (n - (k + 1)) + 1 by omega, List.replicate_succ, List.set_cons_zero, List.replicate_succ']
  simp
theorem prods_replicate (l : List Nat) (y : Nat) : prods l (List.replicate l.length y) = l.map fun x => fmul x y := by
  unfold prods
  apply List.ext_getElem
  · simp
  · intro i h1 h2; simp
theorem dot_ones {l : List Nat} (h : ∀ x ∈ l, x < 2^64) : sumF (prods l (List.replicate l.length 4607182418800017408)) = sumF l := by
  rw [prods_replicate]; exact sum_ones l h
theorem dot_noughts {l : List Nat} (h : oddB l = false) : feq (sumF (prods l (List.replicate l.length 0))) 0 = true := by
  rw [prods_replicate]
  obtain ⟨h1, h2⟩ := sum_noughts (l.map fun x => fmul x 0) (fun x hx => by
    obtain ⟨y, hy, rfl⟩ := List.mem_map.1 hx
    exact fmul_zero (oddB_fin h y hy))
  rw [feq_zero h1, h2]; simp
end Fl
namespace Go.Proofs.Ytfnchcafebomlaa
open Go.RowKit Fl

set_option maxHeartbeats 3200000 in
theorem ones_small (a : Option Addr) (cap : Nat) (l : List Nat) (hl : l.length ≤ 300) (hbd : Hid (∀ x ∈ l, x < 2^64)) (w : World)
    (hA : Hid (l = [] ∨ ∃ b o, a = some ⟨b, o, none⟩ ∧ b < w.heap.size ∧ ∀ i (h : i < l.length), w.cell? ⟨b, o + i, none⟩ = some (encF l[i])))
    (hS : Hid (Sl encF w (.slice a l.length cap) l)) :
    Calls Try.prog 6 #[.slice a l.length cap] w fun e w' => e = .returned (.bool true) ∧ Below w.heap.size w w' := by
  generalize hB : w.heap.size = B
  have HB := Lib.hid hB
  have hsm : decide (l.length ≤ 300) = true := decide_eq_true hl
  go_enter Try.func6, Try.ntmps6
  have hB0 : Hid (B ≤ w.heap.size) := Nat.le_of_eq hB.symm
  have hlb := Lib.hid (show l.length * 8 ≤ 140737488355328 by omega)
  go_wp2_with (first
    | (go_at_call 15; refine (small4_any _ _ _ _).mono ?_; rintro e w' ⟨rfl, rfl⟩)
    | (refine wpList_makeF (w := w) rfl _ _ rfl B l.length rfl rfl hlb.out hB0.out ?_; intro w1 ho1 hg1; have hb1 : Hid (Below B w w1) := (Below.refl _ _).grown hg1 hB0.out (fun k h => by cases h); have HO1 := Lib.hid ho1; clear ho1 hg1; have hB1 : Hid (B ≤ w1.heap.size) := Nat.le_trans hB0.out hb1.out.size)
    | (refine wpList_makeF (w := w1) rfl _ _ rfl B l.length rfl rfl hlb.out hB1.out ?_; intro w2 ho2 hg2; have hb2 : Hid (Below B w w2) := hb1.out.grown hg2 hB1.out (fun k h => by cases h); have HO2 := Lib.hid ho2; have HO1' : Hid (OwnF w2 B (.slice (some ⟨w.heap.size, 0, none⟩) l.length l.length) (List.replicate l.length 0)) := World.ownsRow.kept HO1.out hg2 (.inr (by simp [Value.ownBlock])); clear ho2 hg2))
  have hgg : Hid (w.heap.size < w1.heap.size) := HO1.out.blk.2
  clear HO1
  generalize hg2 : w1.heap.size = g2 at *
  go_loopw [5, 6] (fun od i wr => ∃ (k : Nat), k ≤ l.length ∧ i = .int .i64 k ∧ od = .bool (oddB (l.take k)) ∧ Hid (OwnF wr B (.slice (some ⟨B, 0, none⟩) l.length l.length) (onesRow l.length k)) ∧ Hid (OwnF wr B (.slice (some ⟨g2, 0, none⟩) l.length l.length) (List.replicate l.length 0)) ∧ Hid (Below B w wr)) (fun _ i _ => l.length - (intOf i).toNat)
  case atStart => exact ⟨0, Nat.zero_le _, rfl, rfl, by rw [onesRow_zero]; have h := HO1'.out; rw [HB.out] at h; exact h, HO2, hb2⟩
  case round =>
    obtain ⟨k, hk, rfl, rfl, hone, hnone, hbl⟩ := hrel
    by_cases hlt : k < l.length
    · have hcell : ∃ b o, a = some ⟨b, o, none⟩ ∧ b < B ∧ wr.cell? ⟨b, o + k, none⟩ = some (.float .f64 l[k]) := by
        obtain h0 | ⟨b, o, rfl, hb, hc⟩ := hA.out
        · exfalso; rw [h0] at hlt; simp at hlt
        · exact ⟨b, o, rfl, by rw [← HB.out]; exact hb, by rw [hbl.out.cell (p := ⟨b, o + k, none⟩) (by rw [← HB.out]; exact hb)]; exact hc k hlt⟩
      obtain ⟨b, o, rfl, hbB, hc1⟩ := hcell
      have hat := hone.out.at k (by rw [onesRow_len hk]; exact hlt)
      obtain ⟨hc2, hf2⟩ := hat
      have hone' : Hid (OwnF (wr.setCell ⟨B, k, none⟩ (.float .f64 4607182418800017408)) B (.slice (some ⟨B, 0, none⟩) l.length l.length) (onesRow l.length (k + 1))) := by
        have := hone.out.store k 4607182418800017408
        rw [onesRow_set hlt] at this
        exact this
      have hnone' : Hid (OwnF (wr.setCell ⟨B, k, none⟩ (.float .f64 4607182418800017408)) B (.slice (some ⟨g2, 0, none⟩) l.length l.length) (List.replicate l.length 0)) :=
        hnone.out.other _ _ (by have := hgg.out; have := HB.out; show B ≠ g2; omega)
      have hbl' : Hid (Below B w (wr.setCell ⟨B, k, none⟩ (.float .f64 4607182418800017408))) := hbl.out.setCell (Nat.le_refl _) _
      have hc1' : (wr.setCell ⟨B, k, none⟩ (.float .f64 4607182418800017408)).cell? ⟨b, o + k, none⟩ = some (.float .f64 l[k]) := by
        rw [((Below.refl B wr).setCell (p := ⟨B, k, none⟩) (Nat.le_refl _) _).cell (p := ⟨b, o + k, none⟩) hbB]; exact hc1
      have HOD := Lib.hid (oddB_succ hlt)
      generalize hod : oddB (l.take k) = od
      rw [hod] at HOD
      clear hod
      cases od
      · obtain ⟨Z, N, hrun, hZ⟩ := float_runs .sub (.inr (.inl rfl)) 25 l[k] l[k]
        have hfz : ∀ w, fne (Z w) 0 = fne (fsub l[k] l[k]) 0 := fun w => fne_of_canon (hZ w).1 0
        clear hZ
        rw [Bool.false_or] at HOD
        clear hA hone hnone hbl
        go_wp2_with fail
        go_region
        all_goals
          go_wp2
          exact ⟨⟨k + 1, by omega, by go_num, by rw [HOD.out], hone', hnone', below_drewN hbl'.out _⟩, by simp [intOf]; omega⟩
      · rw [Bool.true_or] at HOD
        clear hA hone hnone hbl
        go_wp2_with fail
        go_quiet (fail)
        go_wp2
        exact ⟨⟨k + 1, by omega, by go_num, by rw [HOD.out], hone', hnone', below_drewN hbl'.out _⟩, by simp [intOf]; omega⟩
    · have hkl : k = l.length := by omega
      subst hkl
      rw [onesRow_all] at hone
      have hbB : Hid (B ≤ wr.heap.size) := by have := hbl.out.size; have := HB.out; show B ≤ _; omega
      have HSl : Hid (∀ w', Hid (Below B w w') → Sl encF w' (.slice a l.length cap) l) := fun w' h => hS.out.below (Nat.le_of_eq HB.out) h.out
      have HO : Hid (∀ w', Below wr.heap.size wr w' → Sl encF w' (.slice (some ⟨B, 0, none⟩) l.length l.length) (List.replicate l.length 4607182418800017408)) := fun w' h =>
        (hone.out.sl (by have := hlb.out; rw [List.length_replicate]; omega)).below (Nat.le_refl _) h
      have HZ : Hid (∀ w', Below wr.heap.size wr w' → Sl encF w' (.slice (some ⟨g2, 0, none⟩) l.length l.length) (List.replicate l.length 0)) := fun w' h =>
        (hnone.out.sl (by have := hlb.out; rw [List.length_replicate]; omega)).below (Nat.le_refl _) h
      have hl8 : l.length * 8 ≤ 140737488351232 := by omega
      have D1 := dot_any (.slice a l.length cap) (.slice (some ⟨B, 0, none⟩) l.length l.length) l (List.replicate l.length 4607182418800017408) hl8 wr (HSl.out wr hbl) (HO.out wr (Below.refl _ _))
      have D2 : ∀ wa, Hid (Below wr.heap.size wr wa) → Hid (Below B w wa) → _ := fun wa h1 h2 => dot_any (.slice a l.length cap) (.slice (some ⟨g2, 0, none⟩) l.length l.length) l (List.replicate l.length 0) hl8 wa (HSl.out wa h2) (HZ.out wa h1.out)
      have e1 : ∀ y, dotV l (List.replicate l.length y) = sumF (prods l (List.replicate l.length y)) := fun y => if_pos (by rw [List.length_replicate])
      have e2 : ∀ y, dotE l (List.replicate l.length y) = 0 := fun y => if_pos (by rw [List.length_replicate])
      rw [e1, e2, dot_ones hbd.out] at D1
      rw [e1 0, e2 0] at D2
      have D1 := Lib.hid D1
      have D2 := Lib.hid D2
      rw [List.take_of_length_le (Nat.le_refl l.length)]
      have hq : oddB l = false → feq (sumF (prods l (List.replicate l.length 0))) 0 = true := dot_noughts
      have HS : Hid (canon (sumF l) = sumF l) := canon_sumF l
      clear e1 e2 hA hl8
      generalize sumF (prods l (List.replicate l.length 0)) = Nv at *
      generalize hod : oddB l = od at *
      cases od
      · have hq' := hq rfl
        clear hq
        go_wp2_with fail
        refine D1.out.mono ?_; rintro e wa ⟨rfl, hba⟩
        have hBa : Hid (Below B w wa) := hbl.out.trans (hba.mono hbB.out)
        have HBA := Lib.hid hba
        clear hba
        go_wp2_with fail
        refine (D2.out wa HBA hBa).mono ?_; rintro e wb ⟨rfl, hbb⟩
        have hBb : Hid (Below B w wb) := hBa.out.trans (hbb.mono (Nat.le_trans hbB.out HBA.out.size))
        have HBB : Hid (Below wr.heap.size wr wb) := HBA.out.trans (hbb.mono HBA.out.size)
        have hszb : Hid (B ≤ wb.heap.size) := by have := hBb.out.size; have := HB.out; show B ≤ _; omega
        clear hbb
        go_wp2_with (at_builtin; go_must (refine wpList_appF rfl _ _ rfl B _ _ rfl (OwnF.lit wb [4607182418800017408] hszb.out (by decide)) (.slice (some ⟨B, 0, none⟩) l.length l.length) (List.replicate l.length 4607182418800017408) rfl (HO.out _ (HBB.out.alloc HBB.out.size _)) ?m11 ?m12 ?m13))
        case m11 => have := hlb.out; rw [List.length_replicate]; simp; omega
        case m12 => simp; have := hszb.out; omega
        intro v3 wc ho3 hg3
        have hBc : Hid (Below B w wc) := OwnF.below (OwnF.lit wb [4607182418800017408] hszb.out (by decide)) hg3 (hBb.out.alloc hszb.out _) (Nat.le_refl _) (by simp; have := hszb.out; omega)
        have D3 := Lib.hid (dot_any v3 (.slice a l.length cap) ([4607182418800017408] ++ List.replicate l.length 4607182418800017408) l (by have := hlb.out; simp; omega) wc (ho3.sl (by have := hlb.out; simp; omega)) (HSl.out wc hBc))
        clear ho3 hg3
        rw [show dotV ([4607182418800017408] ++ List.replicate l.length 4607182418800017408) l = 0 from if_neg (by rw [List.length_append, List.length_replicate]; simp), show dotE ([4607182418800017408] ++ List.replicate l.length 4607182418800017408) l = 1 from if_neg (by rw [List.length_append, List.length_replicate]; simp)] at D3
        go_wp2_with fail
        refine D3.out.mono ?_; rintro e wd ⟨rfl, hbd⟩
        have hBd : Hid (Below B w wd) := hBc.out.trans (hbd.mono (by have := hBc.out.size; have := HB.out; omega))
        clear hbd
        have hszd : Hid (B ≤ wd.heap.size) := by have := hBd.out.size; have := HB.out; show B ≤ _; omega
        have D4 := Lib.hid (sum_any (.slice a l.length cap) l hbd.out wd (HSl.out wd hBd))
        go_wp2_with (first
          | (go_at_call 14; refine (D4.out).mono ?_; rintro e w' ⟨rfl, n4, rfl⟩)
          | (go_at_call 17; refine (same_any _ _ _).mono ?_; rintro e w' ⟨rfl, rfl⟩)
          | (go_at_call 12; refine (awake4_any _).mono ?_; rintro e w' ⟨rfl, hbb⟩))
        go_ret
        exact ⟨rfl, hBd.out.trans ((below_drewN (Below.refl _ _) _).trans (hbb.mono hszd.out))⟩
      · clear hq
        go_wp2_with fail
        refine D1.out.mono ?_; rintro e wa ⟨rfl, hba⟩
        have hBa : Hid (Below B w wa) := hbl.out.trans (hba.mono hbB.out)
        have HBA := Lib.hid hba
        clear hba
        go_wp2_with fail
        refine (D2.out wa HBA hBa).mono ?_; rintro e wb ⟨rfl, hbb⟩
        have hBb : Hid (Below B w wb) := hBa.out.trans (hbb.mono (Nat.le_trans hbB.out HBA.out.size))
        have HBB : Hid (Below wr.heap.size wr wb) := HBA.out.trans (hbb.mono HBA.out.size)
        have hszb : Hid (B ≤ wb.heap.size) := by have := hBb.out.size; have := HB.out; show B ≤ _; omega
        clear hbb
        go_wp2_with (at_builtin; go_must (refine wpList_appF rfl _ _ rfl B _ _ rfl (OwnF.lit wb [4607182418800017408] hszb.out (by decide)) (.slice (some ⟨B, 0, none⟩) l.length l.length) (List.replicate l.length 4607182418800017408) rfl (HO.out _ (HBB.out.alloc HBB.out.size _)) ?m21 ?m22 ?m23))
        case m21 => have := hlb.out; rw [List.length_replicate]; simp; omega
        case m22 => simp; have := hszb.out; omega
        intro v3 wc ho3 hg3
        have hBc : Hid (Below B w wc) := OwnF.below (OwnF.lit wb [4607182418800017408] hszb.out (by decide)) hg3 (hBb.out.alloc hszb.out _) (Nat.le_refl _) (by simp; have := hszb.out; omega)
        have D3 := Lib.hid (dot_any v3 (.slice a l.length cap) ([4607182418800017408] ++ List.replicate l.length 4607182418800017408) l (by have := hlb.out; simp; omega) wc (ho3.sl (by have := hlb.out; simp; omega)) (HSl.out wc hBc))
        clear ho3 hg3
        rw [show dotV ([4607182418800017408] ++ List.replicate l.length 4607182418800017408) l = 0 from if_neg (by rw [List.length_append, List.length_replicate]; simp), show dotE ([4607182418800017408] ++ List.replicate l.length 4607182418800017408) l = 1 from if_neg (by rw [List.length_append, List.length_replicate]; simp)] at D3
        go_wp2_with fail
        refine D3.out.mono ?_; rintro e wd ⟨rfl, hbd⟩
        have hBd : Hid (Below B w wd) := hBc.out.trans (hbd.mono (by have := hBc.out.size; have := HB.out; omega))
        clear hbd
        have hszd : Hid (B ≤ wd.heap.size) := by have := hBd.out.size; have := HB.out; show B ≤ _; omega
        have D4 := Lib.hid (sum_any (.slice a l.length cap) l hbd.out wd (HSl.out wd hBd))
        go_wp2_with (first
          | (go_at_call 14; refine (D4.out).mono ?_; rintro e w' ⟨rfl, n4, rfl⟩)
          | (go_at_call 17; refine (same_any _ _ _).mono ?_; rintro e w' ⟨rfl, rfl⟩)
          | (go_at_call 12; refine (awake4_any _).mono ?_; rintro e w' ⟨rfl, hbb⟩))
        go_ret
        exact ⟨rfl, hBd.out.trans ((below_drewN (Below.refl _ _) _).trans (hbb.mono hszd.out))⟩

set_option maxHeartbeats 400000 in
theorem ones_big (a : Option Addr) (n cap : Nat) (hl : 300 < n) (w : World) :
    Calls Try.prog 6 #[.slice a n cap] w fun e w' => e = .returned (.bool true) ∧ Below w.heap.size w w' := by
  have hsm : decide (n ≤ 300) = false := decide_eq_false (by omega)
  go_enter Try.func6, Try.ntmps6
  go_wp2_with (first | (go_at_call 15; refine (small4_any _ _ _ _).mono ?_; rintro e w' ⟨rfl, rfl⟩) | (go_at_call 12; refine (awake4_any _).mono ?_; rintro e w' ⟨rfl, hbb⟩))
  go_ret
  exact ⟨rfl, hbb⟩

theorem walk_FsumOnes (w : World) (v : Value) (l : List Nat) (h : Sl encF w v l) (hb : ∀ x ∈ l, x < 2^64) (_ : l.length * 8 ≤ 140737488351232) :
    Calls Try.prog 6 #[v] w fun e w' => e = .returned (.bool true) ∧ Below w.heap.size w w' := by
  have h' := h
  obtain ⟨a, cap, rfl, _, _, h⟩ := h
  rcases Nat.lt_or_ge 300 l.length with hl | hl
  · exact ones_big a _ cap hl w
  · exact ones_small a cap l hl hb w h h'
end Go.Proofs.Ytfnchcafebomlaa
