/- The walk of Spread: the mean of the squares of what each number is from the mean. -/
import Derived.Test.YtfnchcafebomlaaSd
namespace Fl
open Go
def sqs (m : Nat) (l : List Nat) : List Nat := l.map fun x => fmul (fsub x m) (fsub x m)
theorem sqs_len (m : Nat) (l : List Nat) : (sqs m l).length = l.length := List.length_map ..
theorem sqs_canon (m : Nat) (l : List Nat) : (sqs m l).map canon = sqs m l := by
  unfold sqs; rw [List.map_map]; congr 1; funext x; exact canon_fmul _ _
theorem sqs_succ {m : Nat} {l ys : List Nat} {k z d : Nat} (hl : k < l.length) (h : ys.map canon = (sqs m l).take k) (hd : canon d = fsub l[k] m) (hz : canon z = fmul d d) :
    (ys ++ [z]).map canon = (sqs m l).take (k + 1) := by
  have hk : k < (sqs m l).length := by rw [sqs_len]; exact hl
  rw [List.take_succ_eq_append_getElem hk, List.map_append, h]
  congr 1
  show [canon z] = _
  rw [hz, show (sqs m l)[k] = fmul (fsub l[k] m) (fsub l[k] m) from List.getElem_map .., ← hd, fmul_canon]
def spreadV (l : List Nat) : Nat := if l = [] then 0 else meanF (sqs (meanF l) l)
theorem meanF_congr (l m : List Nat) (h : l.map canon = m.map canon) : meanF l = meanF m := by
  have := congrArg List.length h
  rw [List.length_map, List.length_map] at this
  unfold meanF; rw [sumF_congr l m h, this]
end Fl
namespace Go.Proofs.Ytfnchcafebomlaa
open Go.RowKit Fl

set_option maxHeartbeats 1600000 in
theorem spread_any (v : Value) (l : List Nat) (hbd : ∀ x ∈ l, x < 2^64) (hl : l.length * 8 ≤ 140737488351232) (w : World) (h : Sl encF w v l) :
    Calls Try.prog 20 #[v] w fun e w' => e = .returned (.tuple #[.float .f64 (spreadV l), .int .i64 (meanE l)]) ∧ Below w.heap.size w w' := by
  have HM := Lib.hid (mean_any v l hbd w h)
  obtain ⟨a1, c1, rfl, hA⟩ := h.parts
  clear h hbd
  generalize hB : w.heap.size = B
  have HB := Lib.hid hB
  clear hB
  by_cases h0 : l = []
  · subst h0
    rw [show meanE [] = 14 from rfl, show meanV [] = 0 from rfl] at HM
    rw [show meanE [] = 14 from rfl, show spreadV [] = 0 from rfl]
    go_enter Try.func20, Try.ntmps20
    go_wp2_with (go_at_call 19; refine (HM.out).mono ?_; rintro e w' ⟨rfl, n3, rfl⟩)
    go_ret2
    exact ⟨rfl, below_drewN (Below.refl _ _) _⟩
  · rw [show meanE l = 0 from if_neg h0, show meanV l = meanF l from if_neg h0] at HM
    rw [show meanE l = 0 from if_neg h0, show spreadV l = meanF (sqs (meanF l) l) from if_neg h0]
    have H0 : Hid (l ≠ []) := h0
    clear h0
    have HPL := Lib.hid (sqs_len (meanF l) l)
    go_enter Try.func20, Try.ntmps20
    go_wp2_with (go_at_call 19; refine (HM.out).mono ?_; rintro e w' ⟨rfl, n3, rfl⟩)
    go_loopw [6, 8, 9, 20] (fun v _ _ i wr => ∃ (k : Nat) (ys : List Nat) (v' : Value), v' = v ∧ k ≤ l.length ∧ i = .int .i64 k ∧ Hid (OwnF wr B v' ys) ∧ Hid (ys.map canon = (sqs (meanF l) l).take k ∧ ∀ y ∈ ys, y < 2^64) ∧ Hid (Below B w wr)) (fun _ _ _ i _ => l.length - (intOf i).toNat)
    case atStart => exact ⟨0, [], _, rfl, Nat.zero_le _, rfl, OwnF.nil _ _, ⟨by simp, by simp⟩, below_drewN (Below.refl _ _) _⟩
    case round =>
      obtain ⟨k, ys, v', rfl, hk, rfl, hown, hW, hbl⟩ := hrel
      have hB1 := Lib.hid (show B ≤ wr.heap.size from by rw [← HB.out]; exact hbl.out.size)
      have HYL : Hid (ys.length = k) := by show _ = _; exact take_len_map hW.out.1 (by rw [HPL.out]; exact hk)
      by_cases hlt : k < l.length
      · have hcell : ∃ b o, a1 = some ⟨b, o, none⟩ ∧ wr.cell? ⟨b, o + k, none⟩ = some (.float .f64 l[k]) := by
          obtain h0 | ⟨b, o, rfl, hb, hc⟩ := hA.out
          · exfalso; rw [h0] at hlt; simp at hlt
          · exact ⟨b, o, rfl, by rw [hbl.out.cell (p := ⟨b, o + k, none⟩) (by rw [← HB.out]; exact hb)]; exact hc k hlt⟩
        obtain ⟨b, o, rfl, hc1⟩ := hcell
        have HN : Hid (∀ d z, canon d = fsub l[k] (meanF l) → canon z = fmul d d → z < 2^64 → (ys ++ [z]).map canon = (sqs (meanF l) l).take (k + 1) ∧ ∀ y ∈ ys ++ [z], y < 2^64) := fun d z hd hz hl =>
          ⟨sqs_succ hlt hW.out.1 hd hz, lt_snoc hW.out.2 hl⟩
        clear hA
        go_wp2_with (first
          | (refine wpList_fsub _ rfl _ _ _ _ rfl _ _ rfl rfl ?_; intro zs ns hzs hls)
          | (refine wpList_fmul _ rfl _ _ _ _ rfl _ _ rfl rfl ?_; intro za na hza hla)
          | (at_builtin; go_must (refine wpList_appF rfl _ _ rfl B _ _ rfl ((hown.out.drewN _).alloc _) _ _ rfl (Sl.one encF _ _ _) ?c1 ?c2 ?c3)))
        case c1 => rw [HYL.out]; simp; omega
        case c2 => simp; have := hB1.out; omega
        intro v1 w1 ho1 hg1
        have hb' : Hid (Below B w w1) := OwnF.below ((hown.out.drewN _).alloc _) hg1 ((below_drewN hbl.out _).alloc hB1.out _) (Nat.le_refl _) (by simp; have := hB1.out; omega)
        have HO1 := Lib.hid ho1
        have HN1 := Lib.hid (HN.out _ _ hzs hza hla)
        clear ho1 hg1 hzs hza hla
        go_wp2
        exact ⟨⟨k + 1, _, _, rfl, by omega, by go_num, HO1, HN1, hb'⟩, by simp [intOf]; omega⟩
      · have hkl : k = l.length := by omega
        have hS : ys.map canon = (sqs (meanF l) l).map canon := by rw [hW.out.1, sqs_canon, List.take_of_length_le (by rw [HPL.out]; omega)]
        have hne : ys ≠ [] := fun h => by rw [h] at HYL; have := HYL.out; rw [hkl] at this; exact H0.out (List.length_eq_zero_iff.1 this.symm)
        have HS1 := mean_any v' ys hW.out.2 wr (hown.out.sl (by rw [HYL.out]; omega))
        rw [show meanE ys = 0 from if_neg hne, show meanV ys = meanF ys from if_neg hne, meanF_congr _ _ hS] at HS1
        have HS2 := Lib.hid HS1
        clear HS1 hS hne hW hA
        go_wp2_with (go_at_call 19; refine (HS2.out).mono ?_; rintro e w' ⟨rfl, n4, rfl⟩)
        go_ret2
        exact ⟨rfl, below_drewN hbl.out _⟩
end Go.Proofs.Ytfnchcafebomlaa
