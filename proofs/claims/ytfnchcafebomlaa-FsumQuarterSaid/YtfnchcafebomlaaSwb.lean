/- The walk of the program's Sum: it answers 'sumF' of the numbers that the slice holds. -/
import Derived.Test.YtfnchcafebomlaaSwa
import Derived.Test.YtfnchcafebomlaaSl
namespace Go.Proofs.Ytfnchcafebomlaa
open Go.RowKit Fl

theorem foldS_take {l : List Nat} {k : Nat} (h : k < l.length) : foldS (l.take (k + 1)) = sstep (foldS (l.take k)) l[k] := by
  rw [List.take_succ_eq_append_getElem h, foldS_snoc]

/-- one round, on the words that are there -/
theorem step_fst {s x t S : Nat} {C : Nat} (hs : canon s = S) (ht : canon t = fadd s x) : canon t = (sstep (S, C) x).1 := by
  unfold sstep; rw [ht, ← hs, fadd_canon_l]
theorem fge_canon_l (s x : Nat) : fge (rung (canon s)) (rung x) = fge (rung s) (rung x) := by
  rw [← fge_rung_canon, canon_canon, fge_rung_canon]
theorem step_snd1 {s c x t d e f S C : Nat} (hs : canon s = S) (hc : canon c = C) (ht : canon t = fadd s x) (h : fge (rung s) (rung x) = true)
    (hd : canon d = fsub s t) (he : canon e = fadd d x) (hf : canon f = fadd c e) : canon f = (sstep (S, C) x).2 := by
  unfold sstep
  simp only
  rw [← hs, ← hc, fge_canon_l, h, if_pos rfl, fadd_canon_l, fadd_canon_l, fsub_canon_l, ← ht, fsub_canon_r, ← hd, fadd_canon_l, ← he, fadd_canon_r, hf]
theorem step_snd2 {s c x t d e f S C : Nat} (hs : canon s = S) (hc : canon c = C) (ht : canon t = fadd s x) (h : fge (rung s) (rung x) = false)
    (hd : canon d = fsub x t) (he : canon e = fadd d s) (hf : canon f = fadd c e) : canon f = (sstep (S, C) x).2 := by
  unfold sstep
  simp only
  rw [← hs, ← hc, fge_canon_l, h, if_neg (by simp), fadd_canon_l, fadd_canon_l, fadd_canon_r, ← ht, fsub_canon_r, ← hd, fadd_canon_l, ← he, fadd_canon_r, hf]

/-- what Sum ends with -/
theorem sum_end {l : List Nat} {s c : Nat} (hz : allNegZ l = false) (hs : canon s = (foldS l).1) (hc : canon c = (foldS l).2) :
    sumF l = if isNaN c then canon s else fadd s c := by
  unfold sumF
  rw [hz, if_neg (by simp), ← hs, ← hc, isNaN_canon, fadd_canon]

set_option maxHeartbeats 1600000 in
theorem sum_some (b o cap : Nat) (l : List Nat) (hl : l.length ≤ 140737488355328) (hbd : ∀ x ∈ l, x < 2^64) (w : World) (hc : ∀ i (h : i < l.length), w.cell? ⟨b, o + i, none⟩ = some (.float .f64 l[i])) :
    Calls Try.prog 14 #[.slice (some ⟨b, o, none⟩) l.length cap] w fun e w' => e = .returned (.float .f64 (sumF l)) ∧ ∃ n, w' = w.drewN n := by
  have HN := Lib.hid (negative_some b o cap l hl hbd)
  cases hz : allNegZ l
  · have HZ := Lib.hid hz
    rw [hz] at HN
    clear hbd hz
    go_enter Try.func14, Try.ntmps14
    go_wp2_with (go_at_call 28; refine (HN.out _ hc).mono ?_; rintro e w' ⟨rfl, rfl⟩)
    go_loopw [3, 4, 6, 7, 13] (fun s c _ _ i wr => ∃ (k s' c' m : Nat), k ≤ l.length ∧ i = .int .i64 k ∧ s = .float .f64 s' ∧ c = .float .f64 c' ∧ Hid (canon s' = (foldS (l.take k)).1) ∧ Hid (canon c' = (foldS (l.take k)).2) ∧ wr = w.drewN m) (fun _ _ _ _ i _ => l.length - (intOf i).toNat)
    case atStart => exact ⟨0, 0, 0, 0, Nat.zero_le _, rfl, rfl, rfl, rfl, rfl, rfl⟩
    case round =>
      obtain ⟨k, s', c', m, hk, rfl, rfl, rfl, hs, hcc, rfl⟩ := hrel
      by_cases hlt : k < l.length
      · have hcell := hc k hlt
        have HF := Lib.hid (foldS_take hlt)
        cases hg : fge (rung s') (rung l[k])
        · go_wp2_with (first | (refine wpList_fsub _ rfl _ _ _ _ rfl _ _ rfl rfl ?_; intro zs ns hzs hls) | (refine wpList_fadd _ rfl _ _ _ _ rfl _ _ rfl rfl ?_; intro za na hza hla) | (go_at_call 30; refine (abs_any _ _).mono ?_; rintro e w' ⟨rfl, rfl⟩) | (go_at_call 31; refine (plain_any _ _).mono ?_; rintro e w' ⟨rfl, rfl⟩))
          have h1 := step_fst (C := (foldS (l.take k)).2) hs.out ‹canon _ = fadd s' _›
          have h2 := step_snd2 hs.out hcc.out ‹canon _ = fadd s' _› hg ‹canon _ = fsub _ _› ‹canon _ = fadd _ s'› ‹canon _ = fadd c' _›
          exact ⟨⟨k + 1, _, _, _, by omega, by go_num, rfl, rfl, by rw [HF.out]; exact h1, by rw [HF.out]; exact h2, rfl⟩, by simp [intOf]; omega⟩
        · go_wp2_with (first | (refine wpList_fsub _ rfl _ _ _ _ rfl _ _ rfl rfl ?_; intro zs ns hzs hls) | (refine wpList_fadd _ rfl _ _ _ _ rfl _ _ rfl rfl ?_; intro za na hza hla) | (go_at_call 30; refine (abs_any _ _).mono ?_; rintro e w' ⟨rfl, rfl⟩) | (go_at_call 31; refine (plain_any _ _).mono ?_; rintro e w' ⟨rfl, rfl⟩))
          have h1 := step_fst (C := (foldS (l.take k)).2) hs.out ‹canon _ = fadd s' _›
          have h2 := step_snd1 hs.out hcc.out ‹canon _ = fadd s' _› hg ‹canon _ = fsub _ _› ‹canon _ = fadd _ l[k]› ‹canon _ = fadd c' _›
          exact ⟨⟨k + 1, _, _, _, by omega, by go_num, rfl, rfl, by rw [HF.out]; exact h1, by rw [HF.out]; exact h2, rfl⟩, by simp [intOf]; omega⟩
      · have hke : l.take k = l := List.take_of_length_le (by omega)
        rw [hke] at hs hcc
        have HE := Lib.hid (sum_end HZ.out hs.out hcc.out)
        clear hke
        cases hn : isNaN c'
        · rw [hn] at HE
          go_wp2_with (first | (refine wpList_fsub _ rfl _ _ _ _ rfl _ _ rfl rfl ?_; intro zs ns hzs hls) | (refine wpList_fadd _ rfl _ _ _ _ rfl _ _ rfl rfl ?_; intro za na hza hla) | (go_at_call 30; refine (abs_any _ _).mono ?_; rintro e w' ⟨rfl, rfl⟩) | (go_at_call 31; refine (plain_any _ _).mono ?_; rintro e w' ⟨rfl, rfl⟩))
          go_ret
          refine ⟨?_, _, rfl⟩
          rw [HE.out, ← hza]; rfl
        · rw [hn] at HE
          go_wp2_with (first | (refine wpList_fsub _ rfl _ _ _ _ rfl _ _ rfl rfl ?_; intro zs ns hzs hls) | (refine wpList_fadd _ rfl _ _ _ _ rfl _ _ rfl rfl ?_; intro za na hza hla) | (go_at_call 30; refine (abs_any _ _).mono ?_; rintro e w' ⟨rfl, rfl⟩) | (go_at_call 31; refine (plain_any _ _).mono ?_; rintro e w' ⟨rfl, rfl⟩))
          go_ret
          refine ⟨?_, _, rfl⟩
          rw [HE.out]; rfl
  · have HE : Hid (sumF l = negZ) := by unfold sumF; rw [hz]; rfl
    rw [hz] at HN
    clear hbd hz
    go_enter Try.func14, Try.ntmps14
    go_wp2_with (first | (go_at_call 28; refine (HN.out _ hc).mono ?_; rintro e w' ⟨rfl, rfl⟩) | (go_at_call 29; refine (copysign_any _).mono ?_; rintro e w' ⟨rfl, rfl⟩))
    go_ret
    exact ⟨by rw [HE.out]; rfl, 0, rfl⟩

set_option maxHeartbeats 800000 in
theorem negative_nil (a : Option Addr) (cap : Nat) (w : World) :
    Calls Try.prog 28 #[.slice a 0 cap] w fun e w' => e = .returned (.bool false) ∧ w = w' := by
  go_enter Try.func28, Try.ntmps28
  go_wp2
  go_loop [7] (fun i => i = .int .i64 0) (fun _ => 0)
  case atStart => rfl
  case round =>
    obtain rfl := hrel
    go_wp2
    go_ret
    exact ⟨rfl, rfl⟩

set_option maxHeartbeats 800000 in
theorem sum_nil (a : Option Addr) (cap : Nat) (w : World) :
    Calls Try.prog 14 #[.slice a 0 cap] w fun e w' => e = .returned (.float .f64 (sumF [])) ∧ ∃ n, w' = w.drewN n := by
  have hz : isNaN 0 = false := by decide
  have H0 : Hid (sumF [] = 0) := by show sumF [] = 0; decide
  have HA : Hid (canon (fadd 0 0) = 0) := by show canon (fadd 0 0) = 0; decide
  rw [H0.out]
  go_enter Try.func14, Try.ntmps14
  go_wp2_with (first | (refine wpList_fadd _ rfl _ _ _ _ rfl _ _ rfl rfl ?_; intro za na hza hla) | (go_at_call 28; refine (negative_nil _ _ _).mono ?_; rintro e w' ⟨rfl, rfl⟩) | (go_at_call 31; refine (plain_any _ _).mono ?_; rintro e w' ⟨rfl, rfl⟩))
  go_loop [3, 4, 13] (fun s c i => s = .float .f64 0 ∧ c = .float .f64 0 ∧ i = .int .i64 0) (fun _ _ _ => 0)
  case atStart => exact ⟨rfl, rfl, rfl⟩
  case round =>
    obtain ⟨rfl, rfl, rfl⟩ := hrel
    go_wp2_with (first | (refine wpList_fadd _ rfl _ _ _ _ rfl _ _ rfl rfl ?_; intro za na hza hla) | (go_at_call 28; refine (negative_nil _ _ _).mono ?_; rintro e w' ⟨rfl, rfl⟩) | (go_at_call 31; refine (plain_any _ _).mono ?_; rintro e w' ⟨rfl, rfl⟩))
    go_ret
    refine ⟨?_, _, rfl⟩
    show Ending.returned (.float .f64 (fadd 0 0)) = _
    rw [← canon_fadd, HA.out]

/-- SUM, at every slice of float64s -/
theorem sum_any (v : Value) (l : List Nat) (hbd : ∀ x ∈ l, x < 2^64) (w : World) (h : Sl encF w v l) :
    Calls Try.prog 14 #[v] w fun e w' => e = .returned (.float .f64 (sumF l)) ∧ ∃ n, w' = w.drewN n := by
  obtain ⟨a, cap, rfl, _, hl, h⟩ := h
  rcases h with rfl | ⟨b, o, rfl, hb, hc⟩
  · exact sum_nil a cap w
  · exact sum_some b o cap l hl hbd w hc
end Go.Proofs.Ytfnchcafebomlaa
