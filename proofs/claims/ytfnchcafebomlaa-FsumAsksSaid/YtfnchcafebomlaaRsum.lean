/- The walks of the reference's Sum and Mean: the same sum. -/
import Derived.Test.YtfnchcafebomlaaEdp
import Derived.Test.YtfnchcafebomlaaSwc
import Derived.Test.YtfnchcafebomlaaSd
import Derived.Test.YtfnchcafebomlaaClnr
namespace Fl
open Go
theorem allC_eq {l : List Nat} (hb : ∀ x ∈ l, x < 2^64) : allC l.length l = allNegZ l := by
  have mn : allC l.length l = true ↔ allNegZ l = true := by
    rw [Go.Proofs.Ytfnchcafebomlaa.allNegZ_take_succ hb]
    unfold allC
    rw [Bool.and_eq_true, decide_eq_true_eq, List.all_eq_true]
    refine and_congr_right fun _ => ⟨fun h k hk => by simpa using h _ (List.getElem_mem hk), fun h x hx => ?_⟩
    obtain ⟨k, hk, rfl⟩ := List.getElem_of_mem hx
    simpa using h k hk
  rw [Bool.eq_iff_iff]; exact mn
end Fl
namespace Go.Proofs.Ytfnchcafebomlaa
open Go.RowKit Fl

set_option maxHeartbeats 6400000 in
set_option maxRecDepth 8000 in
theorem rsum_go (a : Option Addr) (cap : Nat) (l : List Nat) (hbd : Hid (∀ x ∈ l, x < 2^64)) (hl : l.length ≤ 140737488355328) (w : World)
    (hA : Hid (l = [] ∨ ∃ b o, a = some ⟨b, o, none⟩ ∧ b < w.heap.size ∧ ∀ i (h : i < l.length), w.cell? ⟨b, o + i, none⟩ = some (encF l[i]))) :
    Calls Try.prog 24 #[.slice a l.length cap] w fun e w' => e = .returned (.float .f64 (sumF l)) ∧ ∃ n, w' = w.drewN n := by
  have hcn : canon 9221120237041090560 = 9221120237041090560 := canon_cN
  have hcz : canon 9223372036854775808 = 9223372036854775808 := by decide
  go_enter Try.func24, Try.ntmps24
  go_wp2
  go_loopw [3, 4, 5, 6, 7, 8, 9, 10] (fun s c mn i _ _ _ _ wr => ∃ (k s' c' m : Nat), k ≤ l.length ∧ i = .int .i64 k ∧ s = .float .f64 s' ∧ c = .float .f64 c' ∧ mn = .bool (allC l.length (l.take k)) ∧ Hid (canon s' = (foldS (l.take k)).1) ∧ Hid (canon c' = (foldS (l.take k)).2) ∧ wr = w.drewN m) (fun _ _ _ i _ _ _ _ _ => l.length - (intOf i).toNat)
  case atStart => exact ⟨0, 0, 0, 0, Nat.zero_le _, rfl, rfl, rfl, by simp [allC], rfl, rfl, rfl⟩
  case round =>
    obtain ⟨k, s', c', m, hk, rfl, rfl, rfl, rfl, hs, hcc, rfl⟩ := hrel
    by_cases hlt : k < l.length
    · have hcell : ∃ b o, a = some ⟨b, o, none⟩ ∧ w.cell? ⟨b, o + k, none⟩ = some (.float .f64 l[k]) := by
        obtain h0 | ⟨b, o, rfl, hb, hc⟩ := hA.out
        · exfalso; rw [h0] at hlt; simp at hlt
        · exact ⟨b, o, rfl, hc k hlt⟩
      obtain ⟨b, o, rfl, hc1⟩ := hcell
      have HF := Lib.hid (foldS_take hlt)
      have K5 := Lib.hid (allC_succ l.length hlt)
      generalize hce : classF (canon l[k]) = cl at *
      have HCE := Lib.hid hce
      clear hce hA hcn hcz
      generalize allC l.length (l.take k) = mn at *
      cases mn
      · rw [Bool.false_and] at K5
        cases hg : fge (rung s') (rung l[k])
        · go_wp2_with (first | (refine wpList_fsub _ rfl _ _ _ _ rfl _ _ rfl rfl ?_; intro zs ns hzs hls) | (refine wpList_fadd _ rfl _ _ _ _ rfl _ _ rfl rfl ?_; intro za na hza hla) | (go_at_call 30; refine (abs_any _ _).mono ?_; rintro e w' ⟨rfl, rfl⟩) | (go_at_call 16; refine (rclass_any _ _).mono ?_; rintro e w' ⟨rfl, rfl⟩; rw [HCE.out]) | (go_at_call 34; refine (rfrom_any _ _).mono ?_; rintro e w' ⟨rfl, rfl⟩))
          have h1 := step_fst (C := (foldS (l.take k)).2) hs.out ‹canon _ = fadd s' _›
          have h2 := step_snd2 hs.out hcc.out ‹canon _ = fadd s' _› hg ‹canon _ = fsub _ _› ‹canon _ = fadd _ s'› ‹canon _ = fadd c' _›
          exact ⟨⟨k + 1, _, _, _, by omega, by go_num, rfl, rfl, by rw [K5.out], by rw [HF.out]; exact h1, by rw [HF.out]; exact h2, rfl⟩, by simp [intOf]; omega⟩
        · go_wp2_with (first | (refine wpList_fsub _ rfl _ _ _ _ rfl _ _ rfl rfl ?_; intro zs ns hzs hls) | (refine wpList_fadd _ rfl _ _ _ _ rfl _ _ rfl rfl ?_; intro za na hza hla) | (go_at_call 30; refine (abs_any _ _).mono ?_; rintro e w' ⟨rfl, rfl⟩) | (go_at_call 16; refine (rclass_any _ _).mono ?_; rintro e w' ⟨rfl, rfl⟩; rw [HCE.out]) | (go_at_call 34; refine (rfrom_any _ _).mono ?_; rintro e w' ⟨rfl, rfl⟩))
          have h1 := step_fst (C := (foldS (l.take k)).2) hs.out ‹canon _ = fadd s' _›
          have h2 := step_snd1 hs.out hcc.out ‹canon _ = fadd s' _› hg ‹canon _ = fsub _ _› ‹canon _ = fadd _ l[k]› ‹canon _ = fadd c' _›
          exact ⟨⟨k + 1, _, _, _, by omega, by go_num, rfl, rfl, by rw [K5.out], by rw [HF.out]; exact h1, by rw [HF.out]; exact h2, rfl⟩, by simp [intOf]; omega⟩
      · rw [Bool.true_and] at K5
        cases hg : fge (rung s') (rung l[k])
        · go_wp2_with (first | (refine wpList_fsub _ rfl _ _ _ _ rfl _ _ rfl rfl ?_; intro zs ns hzs hls) | (refine wpList_fadd _ rfl _ _ _ _ rfl _ _ rfl rfl ?_; intro za na hza hla) | (go_at_call 30; refine (abs_any _ _).mono ?_; rintro e w' ⟨rfl, rfl⟩) | (go_at_call 16; refine (rclass_any _ _).mono ?_; rintro e w' ⟨rfl, rfl⟩; rw [HCE.out]) | (go_at_call 34; refine (rfrom_any _ _).mono ?_; rintro e w' ⟨rfl, rfl⟩))
          have h1 := step_fst (C := (foldS (l.take k)).2) hs.out ‹canon _ = fadd s' _›
          have h2 := step_snd2 hs.out hcc.out ‹canon _ = fadd s' _› hg ‹canon _ = fsub _ _› ‹canon _ = fadd _ s'› ‹canon _ = fadd c' _›
          exact ⟨⟨k + 1, _, _, _, by omega, by go_num, rfl, rfl, by rw [K5.out], by rw [HF.out]; exact h1, by rw [HF.out]; exact h2, rfl⟩, by simp [intOf]; omega⟩
        · go_wp2_with (first | (refine wpList_fsub _ rfl _ _ _ _ rfl _ _ rfl rfl ?_; intro zs ns hzs hls) | (refine wpList_fadd _ rfl _ _ _ _ rfl _ _ rfl rfl ?_; intro za na hza hla) | (go_at_call 30; refine (abs_any _ _).mono ?_; rintro e w' ⟨rfl, rfl⟩) | (go_at_call 16; refine (rclass_any _ _).mono ?_; rintro e w' ⟨rfl, rfl⟩; rw [HCE.out]) | (go_at_call 34; refine (rfrom_any _ _).mono ?_; rintro e w' ⟨rfl, rfl⟩))
          have h1 := step_fst (C := (foldS (l.take k)).2) hs.out ‹canon _ = fadd s' _›
          have h2 := step_snd1 hs.out hcc.out ‹canon _ = fadd s' _› hg ‹canon _ = fsub _ _› ‹canon _ = fadd _ l[k]› ‹canon _ = fadd c' _›
          exact ⟨⟨k + 1, _, _, _, by omega, by go_num, rfl, rfl, by rw [K5.out], by rw [HF.out]; exact h1, by rw [HF.out]; exact h2, rfl⟩, by simp [intOf]; omega⟩
    · have hke : k = l.length := by omega
      subst hke
      rw [List.take_of_length_le (Nat.le_refl l.length)] at hs hcc ⊢
      rw [allC_eq hbd.out]
      clear hA
      have HCE : Hid (classF 0 = classF 0) := rfl
      cases hz : allNegZ l
      · have HE := Lib.hid (sum_end hz hs.out hcc.out)
        clear hs hcc hz
        have hfe := feq_self c'
        cases hn : isNaN c'
        · rw [hn] at HE hfe
          have hfn : ∀ z, canon z = fadd s' c' → Hid (isNaN z = isNaN (fadd s' c')) := fun z hz => by show _ = _; rw [← isNaN_canon z, hz]
          have HFN := Lib.hid hfn
          clear hfn
          cases hy : isNaN (fadd s' c')
          · rw [hy] at HFN
            go_wp2_with (first | (refine wpList_fadd _ rfl _ _ _ _ rfl _ _ rfl rfl ?_; intro za na hza hla; have hzn := (HFN.out za hza).out) | (go_at_call 34; refine (rfrom_any _ _).mono ?_; rintro e w' ⟨rfl, rfl⟩))
            go_ret
            refine ⟨?_, _, rfl⟩
            rw [HE.out, ← hza, canon_of_not hzn]; rfl
          · rw [hy] at HFN
            go_wp2_with (first | (refine wpList_fadd _ rfl _ _ _ _ rfl _ _ rfl rfl ?_; intro za na hza hla; have hzn := (HFN.out za hza).out) | (go_at_call 34; refine (rfrom_any _ _).mono ?_; rintro e w' ⟨rfl, rfl⟩))
            go_ret
            refine ⟨?_, _, rfl⟩
            have he : sumF l = canon 9221120237041090560 := by rw [HE.out, ← hza, canon_of_nan hzn]; rfl
            rw [he]; rfl
        · rw [hn] at HE hfe
          cases hy : isNaN s'
          · go_wp2_with (go_at_call 34; refine (rfrom_any _ _).mono ?_; rintro e w' ⟨rfl, rfl⟩)
            go_ret
            refine ⟨?_, _, rfl⟩
            rw [HE.out, if_pos trivial, canon_of_not hy]; rfl
          · go_wp2_with (go_at_call 34; refine (rfrom_any _ _).mono ?_; rintro e w' ⟨rfl, rfl⟩)
            go_ret
            refine ⟨?_, _, rfl⟩
            have he : sumF l = canon 9221120237041090560 := by rw [HE.out, if_pos trivial, canon_of_nan hy]; rfl
            rw [he]; rfl
      · have HE : Hid (sumF l = negZ) := by unfold sumF; rw [hz]; rfl
        clear hs hcc hz
        go_wp2_with (go_at_call 34; refine (rfrom_any _ _).mono ?_; rintro e w' ⟨rfl, rfl⟩)
        go_ret
        refine ⟨?_, _, rfl⟩
        have he : sumF l = canon 9223372036854775808 := by rw [HE.out]; decide
        rw [he]; rfl

theorem rsum_any (v : Value) (l : List Nat) (hbd : ∀ x ∈ l, x < 2^64) (w : World) (h : Sl encF w v l) :
    Calls Try.prog 24 #[v] w fun e w' => e = .returned (.float .f64 (sumF l)) ∧ ∃ n, w' = w.drewN n := by
  obtain ⟨a, cap, rfl, _, hl, h⟩ := h
  exact rsum_go a cap l hbd hl w h

set_option maxHeartbeats 800000 in
theorem rmean_any (v : Value) (l : List Nat) (hbd : ∀ x ∈ l, x < 2^64) (w : World) (h : Sl encF w v l) :
    Calls Try.prog 21 #[v] w fun e w' => e = .returned (.tuple #[.float .f64 (meanV l), .int .i64 (meanE l)]) ∧ ∃ n, w' = w.drewN n := by
  have hs := rsum_any v l hbd w h
  obtain ⟨a, cap, rfl, _, hl, h⟩ := h
  have HS := Lib.hid hs
  clear hs hbd h
  by_cases h0 : l = []
  · subst h0
    go_enter Try.func21, Try.ntmps21
    go_wp2
    go_ret2
    exact ⟨rfl, 0, rfl⟩
  · have e1 : meanV l = meanF l := if_neg h0
    have e2 : meanE l = 0 := if_neg h0
    have hpos : 0 < l.length := List.length_pos_iff.2 h0
    have hne : ((l.length : Int) == 0) = false := by simp; omega
    rw [e1, e2]
    have HM : Hid (meanF l = fdiv (sumF l) (ofInt l.length)) := rfl
    clear e1 e2 h0
    go_enter Try.func21, Try.ntmps21
    go_wp2_with (first | (refine wpList_fquo _ rfl _ _ _ _ rfl _ _ rfl rfl ?_; intro z n hz hlz) | (go_at_call 24; refine (HS.out).mono ?_; rintro e w' ⟨rfl, n1, rfl⟩) | (go_at_call 33; refine (clean_any _ _).mono ?_; rintro e w' ⟨rfl, rfl⟩))
    go_ret2
    refine ⟨?_, _, rfl⟩
    rw [HM.out]; rfl
end Go.Proofs.Ytfnchcafebomlaa
