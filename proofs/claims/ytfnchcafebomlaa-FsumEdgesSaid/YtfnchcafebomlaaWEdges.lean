/- The walk of FsumEdges: the law returns true. -/
import Derived.Test.YtfnchcafebomlaaEdp
import Derived.Test.YtfnchcafebomlaaSd
import Derived.Test.YtfnchcafebomlaaWDoubles
import Derived.Test.YtfnchcafebomlaaClass
import Derived.BigRegion
import Derived.BigQuiet
import Derived.Deep.QuietTactic
import Derived.Deep.CutRange
namespace Fl
open Go
theorem feq_of_canon {z x : Nat} (h : canon z = x) (y : Nat) : feq z y = feq x y := by
  subst h; unfold feq; rw [← order_canon z y, ← order_canon (canon z) y, canon_canon]
end Fl
namespace Go.Proofs.Ytfnchcafebomlaa
open Go.RowKit Fl

set_option maxHeartbeats 6400000 in
set_option maxRecDepth 8000 in
theorem edges_small (a : Option Addr) (cap : Nat) (l : List Nat) (hl : l.length ≤ 300) (hbd : Hid (∀ x ∈ l, x < 2^64)) (w : World)
    (hA : Hid (l = [] ∨ ∃ b o, a = some ⟨b, o, none⟩ ∧ b < w.heap.size ∧ ∀ i (h : i < l.length), w.cell? ⟨b, o + i, none⟩ = some (encF l[i])))
    (hS : Hid (Sl encF w (.slice a l.length cap) l)) :
    Calls Try.prog 4 #[.slice a l.length cap] w fun e w' => e = .returned (.bool true) ∧ Below w.heap.size w w' := by
  generalize hB : w.heap.size = B
  have HB := Lib.hid hB
  clear hB
  have hsm : decide (l.length ≤ 300) = true := decide_eq_true hl
  go_enter Try.func4, Try.ntmps4
  go_wp2_with (go_at_call 15; refine (small4_any _ _ _ _).mono ?_; rintro e w' ⟨rfl, rfl⟩)
  go_loopw [3, 4, 5, 6, 7, 8, 9] (fun bd up dn gr mn i _ wr => ∃ (k : Nat), k ≤ l.length ∧ i = .int .i64 k ∧ bd = .bool (hasC 1 (l.take k)) ∧ up = .bool (hasC 9 (l.take k)) ∧ dn = .bool (hasC 2 (l.take k)) ∧ gr = .bool (greatB (l.take k)) ∧ mn = .bool (allC l.length (l.take k)) ∧ Hid (Below B w wr)) (fun _ _ _ _ _ i _ _ => l.length - (intOf i).toNat)
  case atStart => exact ⟨0, Nat.zero_le _, rfl, rfl, rfl, rfl, rfl, by simp [allC], Below.refl _ _⟩
  case round =>
    obtain ⟨k, hk, rfl, rfl, rfl, rfl, rfl, rfl, hbl⟩ := hrel
    have hB1 := Lib.hid (show B ≤ wr.heap.size from by rw [← HB.out]; exact hbl.out.size)
    by_cases hlt : k < l.length
    · have hcell : ∃ b o, a = some ⟨b, o, none⟩ ∧ wr.cell? ⟨b, o + k, none⟩ = some (.float .f64 l[k]) := by
        obtain h0 | ⟨b, o, rfl, hb, hc⟩ := hA.out
        · exfalso; rw [h0] at hlt; simp at hlt
        · exact ⟨b, o, rfl, by rw [hbl.out.cell (p := ⟨b, o + k, none⟩) (by rw [← HB.out]; exact hb)]; exact hc k hlt⟩
      obtain ⟨b, o, rfl, hc1⟩ := hcell
      have K1 := Lib.hid (hasC_succ 1 hlt)
      have K9 := Lib.hid (hasC_succ 9 hlt)
      have K2 := Lib.hid (hasC_succ 2 hlt)
      have K5 := Lib.hid (allC_succ l.length hlt)
      have KG := Lib.hid (greatB_succ hlt)
      generalize hce : classF (canon l[k]) = c at *
      have HCE := Lib.hid hce
      clear hce hA
      generalize hasC 1 (l.take k) = bd at *
      generalize hasC 9 (l.take k) = up at *
      generalize hasC 2 (l.take k) = dn at *
      generalize greatB (l.take k) = gr at *
      generalize allC l.length (l.take k) = mn at *
      go_upto_region 9 with (go_at_call 16; refine (rclass_any _ _).mono ?_; rintro e w' ⟨rfl, rfl⟩; rw [HCE.out])
      go_cut [3] from 18 to 75 (fun s wx => s = .bool (bd || (c == 1)) ∧ wr = wx)
      case first =>
        cases bd
        · go_wp2_with fail; go_meet; exact ⟨by simp, rfl⟩
        · go_wp2_with fail; go_meet; exact ⟨by simp, rfl⟩
      case rest =>
        obtain ⟨rfl, rfl⟩ := hcut
        go_upto_region 10 with fail
        go_cut [4] from 18 to 75 (fun s wx => s = .bool (up || (c == 9)) ∧ wr = wx)
        case first =>
          cases up
          · go_wp2_with fail; go_meet; exact ⟨by simp, rfl⟩
          · go_wp2_with fail; go_meet; exact ⟨by simp, rfl⟩
        case rest =>
          obtain ⟨rfl, rfl⟩ := hcut
          go_upto_region 11 with fail
          go_cut [5] from 18 to 75 (fun s wx => s = .bool (dn || (c == 2)) ∧ wr = wx)
          case first =>
            cases dn
            · go_wp2_with fail; go_meet; exact ⟨by simp, rfl⟩
            · go_wp2_with fail; go_meet; exact ⟨by simp, rfl⟩
          case rest =>
            obtain ⟨rfl, rfl⟩ := hcut
            go_upto_region 12 with fail
            go_cut [7] from 18 to 75 (fun s wx => s = .bool (mn && (c == 5)) ∧ wr = wx)
            case first =>
              cases mn
              · go_wp2_with fail; go_meet; exact ⟨by simp, rfl⟩
              · go_wp2_with fail; go_meet; exact ⟨by simp, rfl⟩
            case rest =>
              obtain ⟨rfl, rfl⟩ := hcut
              cases gr
              · obtain ⟨Z, N, hrun, hZ⟩ := float_runs .sub (.inr (.inl rfl)) 25 l[k] l[k]
                have hfz : ∀ w, feq (Z w) 0 = feq (fsub l[k] l[k]) 0 := fun w => feq_of_canon (hZ w).1 0
                have HG : Hid (isGreat l[k] = (feq (fsub l[k] l[k]) 0 && (fgt l[k] 9094988921128908188 || flt l[k] 18318360957983683996))) := rfl
                clear hZ
                cases h1 : feq (fsub l[k] l[k]) 0
                · rw [h1] at hfz HG
                  go_wp2_with fail
                  go_region
                  all_goals
                    go_wp2
                    exact ⟨⟨k + 1, by omega, by go_num, by rw [K1.out], by rw [K9.out], by rw [K2.out], by rw [KG.out, HG.out]; rfl, by rw [K5.out], below_drewN hbl.out _⟩, by simp [intOf]; omega⟩
                · rw [h1] at hfz HG
                  cases h2 : fgt l[k] 9094988921128908188
                  · rw [h2] at HG
                    go_wp2_with fail
                    go_region
                    all_goals
                      go_wp2
                      exact ⟨⟨k + 1, by omega, by go_num, by rw [K1.out], by rw [K9.out], by rw [K2.out], by rw [KG.out, HG.out]; rfl, by rw [K5.out], below_drewN hbl.out _⟩, by simp [intOf]; omega⟩
                  · rw [h2] at HG
                    go_wp2_with fail
                    go_region
                    all_goals
                      go_wp2
                      exact ⟨⟨k + 1, by omega, by go_num, by rw [K1.out], by rw [K9.out], by rw [K2.out], by rw [KG.out, HG.out]; rfl, by rw [K5.out], below_drewN hbl.out _⟩, by simp [intOf]; omega⟩
              · go_wp2_with fail
                go_quiet (fail)
                go_wp2
                exact ⟨⟨k + 1, by omega, by go_num, by rw [K1.out], by rw [K9.out], by rw [K2.out], by rw [KG.out]; rfl, by rw [K5.out], below_drewN hbl.out _⟩, by simp [intOf]; omega⟩
    · have hkl : k = l.length := by omega
      subst hkl
      rw [List.take_of_length_le (Nat.le_refl l.length)]
      have hE := edges_end hl hbd.out
      have HS1 := Lib.hid (sum_any (.slice a l.length cap) l hbd.out wr (hS.out.below (Nat.le_of_eq HB.out) hbl.out))
      clear hA hS hbd
      generalize hasC 1 l = bd at *
      generalize hasC 9 l = up at *
      generalize hasC 2 l = dn at *
      generalize greatB l = gr at *
      generalize allC l.length l = mn at *
      cases bd
      · have hE := hE.2 rfl
        cases gr
        · obtain ⟨e1, e2, e3, e4, e5⟩ := hE rfl
          clear hE
          cases up
          · cases dn
            · cases mn
              · obtain ⟨q1, q2, q3⟩ := e5 rfl rfl rfl
                clear e1 e2 e3 e4 e5
                generalize hcc : classF (canon (sumF l)) = cc at q1 q2 q3
                have HCE := Lib.hid hcc
                clear hcc
                go_wp2_with (first
                  | (go_at_call 12; refine (awake4_any _).mono ?_; rintro e w' ⟨rfl, hbb⟩)
                  | (go_at_call 16; refine (rclass_any _ _).mono ?_; rintro e w' ⟨rfl, rfl⟩; rw [HCE.out])
                  | (go_at_call 14; refine (HS1.out).mono ?_; rintro e w' ⟨rfl, n3, rfl⟩))
                go_ret
                exact ⟨rfl, hbl.out.trans ((below_drewN (Below.refl _ _) _).trans (hbb.mono hB1.out))⟩
              · have HCE := Lib.hid (e4 rfl rfl rfl)
                clear e1 e2 e3 e4 e5
                go_wp2_with (first
                  | (go_at_call 12; refine (awake4_any _).mono ?_; rintro e w' ⟨rfl, hbb⟩)
                  | (go_at_call 16; refine (rclass_any _ _).mono ?_; rintro e w' ⟨rfl, rfl⟩; rw [HCE.out])
                  | (go_at_call 14; refine (HS1.out).mono ?_; rintro e w' ⟨rfl, n3, rfl⟩))
                go_ret
                exact ⟨rfl, hbl.out.trans ((below_drewN (Below.refl _ _) _).trans (hbb.mono hB1.out))⟩
            · have HCE := Lib.hid (e3 rfl rfl)
              clear e1 e2 e3 e4 e5
              go_wp2_with (first
                | (go_at_call 12; refine (awake4_any _).mono ?_; rintro e w' ⟨rfl, hbb⟩)
                | (go_at_call 16; refine (rclass_any _ _).mono ?_; rintro e w' ⟨rfl, rfl⟩; rw [HCE.out])
                | (go_at_call 14; refine (HS1.out).mono ?_; rintro e w' ⟨rfl, n3, rfl⟩))
              go_ret
              exact ⟨rfl, hbl.out.trans ((below_drewN (Below.refl _ _) _).trans (hbb.mono hB1.out))⟩
          · cases dn
            · have HCE := Lib.hid (e2 rfl rfl)
              clear e1 e2 e3 e4 e5
              go_wp2_with (first
                | (go_at_call 12; refine (awake4_any _).mono ?_; rintro e w' ⟨rfl, hbb⟩)
                | (go_at_call 16; refine (rclass_any _ _).mono ?_; rintro e w' ⟨rfl, rfl⟩; rw [HCE.out])
                | (go_at_call 14; refine (HS1.out).mono ?_; rintro e w' ⟨rfl, n3, rfl⟩))
              go_ret
              exact ⟨rfl, hbl.out.trans ((below_drewN (Below.refl _ _) _).trans (hbb.mono hB1.out))⟩
            · have HCE := Lib.hid (e1 rfl rfl)
              clear e1 e2 e3 e4 e5
              go_wp2_with (first
                | (go_at_call 12; refine (awake4_any _).mono ?_; rintro e w' ⟨rfl, hbb⟩)
                | (go_at_call 16; refine (rclass_any _ _).mono ?_; rintro e w' ⟨rfl, rfl⟩; rw [HCE.out])
                | (go_at_call 14; refine (HS1.out).mono ?_; rintro e w' ⟨rfl, n3, rfl⟩))
              go_ret
              exact ⟨rfl, hbl.out.trans ((below_drewN (Below.refl _ _) _).trans (hbb.mono hB1.out))⟩
        · clear hE
          obtain ⟨cc, hcc⟩ : ∃ cc, classF (canon (sumF l)) = cc := ⟨_, rfl⟩
          have HCE := Lib.hid hcc
          clear hcc
          go_wp2_with (first
            | (go_at_call 12; refine (awake4_any _).mono ?_; rintro e w' ⟨rfl, hbb⟩)
            | (go_at_call 16; refine (rclass_any _ _).mono ?_; rintro e w' ⟨rfl, rfl⟩; rw [HCE.out])
            | (go_at_call 14; refine (HS1.out).mono ?_; rintro e w' ⟨rfl, n3, rfl⟩))
          go_ret
          exact ⟨rfl, hbl.out.trans ((below_drewN (Below.refl _ _) _).trans (hbb.mono hB1.out))⟩
      · have HCE := Lib.hid (hE.1 rfl)
        clear hE
        go_wp2_with (first
          | (go_at_call 12; refine (awake4_any _).mono ?_; rintro e w' ⟨rfl, hbb⟩)
          | (go_at_call 16; refine (rclass_any _ _).mono ?_; rintro e w' ⟨rfl, rfl⟩; rw [HCE.out])
          | (go_at_call 14; refine (HS1.out).mono ?_; rintro e w' ⟨rfl, n3, rfl⟩))
        go_ret
        exact ⟨rfl, hbl.out.trans ((below_drewN (Below.refl _ _) _).trans (hbb.mono hB1.out))⟩

set_option maxHeartbeats 400000 in
theorem edges_big (a : Option Addr) (n cap : Nat) (hl : 300 < n) (w : World) :
    Calls Try.prog 4 #[.slice a n cap] w fun e w' => e = .returned (.bool true) ∧ Below w.heap.size w w' := by
  have hsm : decide (n ≤ 300) = false := decide_eq_false (by omega)
  go_enter Try.func4, Try.ntmps4
  go_wp2_with (first | (go_at_call 15; refine (small4_any _ _ _ _).mono ?_; rintro e w' ⟨rfl, rfl⟩) | (go_at_call 12; refine (awake4_any _).mono ?_; rintro e w' ⟨rfl, hbb⟩))
  go_ret
  exact ⟨rfl, hbb⟩

theorem walk_FsumEdges (w : World) (v : Value) (l : List Nat) (h : Sl encF w v l) (hb : ∀ x ∈ l, x < 2^64) (_ : l.length * 8 ≤ 140737488351232) :
    Calls Try.prog 4 #[v] w fun e w' => e = .returned (.bool true) ∧ Below w.heap.size w w' := by
  have h' := h
  obtain ⟨a, cap, rfl, _, _, h⟩ := h
  rcases Nat.lt_or_ge 300 l.length with hl | hl
  · exact edges_big a _ cap hl w
  · exact edges_small a cap l hl hb w h h'
end Go.Proofs.Ytfnchcafebomlaa
