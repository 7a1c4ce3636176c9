/- The library's Clone at bytes; extmap's Get; clean's Live. -/
import Derived.Test.YtkpnjehgbehhcaaApg
import Derived.Test.YtkpnjehgbehhcaaMpw
import Derived.Deep.OwnRows
import Derived.Deep.QuietTactic
import Derived.BigQuiet
namespace Go.Proofs.Ytkpnjehgbehhcaa
open Go.RowKit

set_option maxHeartbeats 1600000 in
set_option maxRecDepth 8000 in
theorem clone_any (v : Value) (n : Nat) (hn : n ≤ 1000000) (w : World) (h : SlB w v n) :
    Calls Try.prog 37 #[v] w fun e w' => (∃ v', e = .returned v' ∧ ∃ xs, w'.ownsRow w.heap.size 5 1 v' n xs ∧ ∀ x ∈ xs, ∃ k, x = .int .u8 k) ∧ Below w.heap.size w w' := by
  obtain ⟨news, hsrc, hl, hu⟩ := h.src
  obtain ⟨a, cap, rfl, h0, _, _⟩ := SlG.form h
  have HS : Hid (∀ w', Below w.heap.size w w' → Src w' (.slice a n cap) n news) := fun w' hb => hsrc.below hb
  have HU := Lib.hid hu
  have hone : Hid (∀ u ∈ news, u.oneCell' = true) := fun u hm => by obtain ⟨k, rfl⟩ := hu u hm; rfl
  have hL := Lib.hid hl
  have hnil : Hid (a = none → n = 0) := fun ha => by
    subst ha
    rcases hsrc with ⟨_, h1, _⟩ | ⟨_, _, h2, _⟩
    · exact h1
    · cases h2
  clear hsrc h hu hl
  generalize hB : w.heap.size = B at *
  have hB0 : Hid (B = w.heap.size) := hB.symm
  cases a with
  | none =>
    obtain rfl : n = 0 := hnil.out rfl
    obtain rfl : cap = 0 := h0 rfl
    have hq := fun w => Lib.run_eql_slice_nil (P := Try.prog) w 43 5 none 0 0 0 0 Try.underlying43
    have hw : Hid (Below B w w) := Below.refl B w
    clear HS hB
    go_enter Try.func37, Try.ntmps37
    go_wp2
    go_ret
    exact ⟨⟨_, rfl, [], World.ownsRow_nil w B _ 1, by simp⟩, hw.out⟩
  | some ad =>
    have hq := fun w => Lib.run_eql_slice_nil (P := Try.prog) w 43 5 (some ad) n cap 0 0 Try.underlying43
    have H1 : Hid ((w.alloc (.cells #[] 5)).ownsRow B 5 1 (.slice (some ⟨w.heap.size, 0, none⟩) 0 0) 0 []) := ownsRow_empty (heap_alloc_new w _) (Nat.le_of_eq hB.symm)
    have H2 : Hid (Below B w (w.alloc (.cells #[] 5))) := (Below.refl B w).alloc (Nat.le_of_eq hB.symm) _
    have H3 : Hid (B ≤ (w.alloc (.cells #[] 5)).heap.size) := by show B ≤ _; rw [← hB]; simp
    clear hB
    go_enter Try.func37, Try.ntmps37
    go_wp2_with (first | (at_builtin; refine wpList_appG rfl _ _ B 43 5 (.int .u8 0) 1 1 rfl Try.underlying43 infoB rfl (by decide) _ 0 [] rfl H1.out _ n news rfl (HS.out _ H2.out) hL.out hone.out (by omega) (by unfold maxLen; omega) H3.out ?_; intro v' w' ho hg hat) | fail)
    go_ret
    refine ⟨⟨_, rfl, news, ?_, HU.out⟩, ?_⟩
    · simpa using ho
    · exact H2.out.grown hg H3.out (fun k hk => by
        have : w.heap.size = k := Option.some.inj hk
        have := hB0.out
        omega)

/-- the time of the version of block k that is read at t; 0: there is none -/
def nvT (V : Int → List Int) (k t : Int) : Int := if inB k = true then (if atN (V k) t (V k).length = 0 then 0 else (V k).getD (atN (V k) t (V k).length - 1) 0) else 0
theorem Dat.slb {w : World} {B : Nat} {v : Value} (h : Dat w B v) : SlB w v 40 := by
  obtain ⟨g, cap, rfl, h1, h2⟩ := h.form
  obtain ⟨xs, h3, _⟩ := h
  obtain ⟨_, ⟨h4, _⟩ | ⟨g', cap', cur, h4, _, h5, h6, h7, _⟩⟩ := h3
  · cases h4
  · simp only [Value.slice.injEq] at h4
    obtain ⟨_, _, rfl⟩ := h4
    refine ⟨_, cap, rfl, (fun h => by cases h), h6, by simpa [maxLen] using h7, fun i hi => ⟨g, 0, rfl, h1, fun j hj => ?_⟩⟩
    obtain ⟨k, hk⟩ := h2 i hi
    have hj0 : j = 0 := by omega
    subst hj0
    exact ⟨_, by simpa using hk, k, rfl⟩

theorem make40 (w : World) : (Instr.makeSlice 43 (.int .i64 40) (.int .i64 40)).run Try.prog w = .ok (.slice (some ⟨w.heap.size, 0, none⟩) 40 40) (w.alloc (.cells (madeCells #[.int .u8 0] 40) 5)) :=
  run_make_row' 43 5 (.int .u8 0) 1 Try.underlying43 infoB rfl .i64 .i64 40 (by decide) (by decide) w

set_option maxHeartbeats 1600000 in
set_option maxRecDepth 8000 in
theorem get_any {B p : Nat} {V : Int → List Int} {last : Int} {n : Nat} (k t : Int) (w : World) (h : Mp w B p V last n) :
    Calls Try.prog 15 #[.pointer (some ⟨p, 0, none⟩), .int .i64 k, .int .i64 t] w fun e w' => (∃ v, e = .returned (.tuple #[v, .int .i64 (nvT V k t)])) ∧ Below w.heap.size w w' := by
  obtain ⟨_, c0, ⟨b, c1, hm⟩, _⟩ := h.cells
  have HM := Lib.hid h
  have HA := Lib.hid hm
  rename_i q1 q2
  clear hm h q1 q2
  by_cases hk : inB k = true
  · have hk' : 0 ≤ k ∧ k < 30 := by unfold inB at hk; simpa using hk
    have CA := Lib.hid (at_any k t hk w HM.out)
    obtain ⟨v, hrun, hrow, _⟩ := HA.out.look hk'
    have hlq := atN_le (V k) t (V k).length
    have hnv : Hid (nvT V k t = if atN (V k) t (V k).length = 0 then 0 else (V k).getD (atN (V k) t (V k).length - 1) 0) := if_pos hk
    generalize nvT V k t = nv at *
    generalize hq : atN (V k) t (V k).length = q at *
    cases q with
    | zero =>
      clear hrun hrow HM HA hq
      have hnv0 : Hid (nv = 0) := hnv.out
      have hmk := make40
      generalize madeCells #[.int .u8 0] 40 = mc at hmk
      clear hnv
      go_enter Try.func15, Try.ntmps15
      go_wp2_with (first | (go_at_call 35; refine (block_any p k _ c0).mono ?_; rintro e w' ⟨rfl, rfl⟩) | (go_at_call 36; refine CA.out.mono ?_; rintro e w' ⟨rfl, rfl⟩) | fail)
      go_ret2
      exact ⟨⟨_, by rw [hnv0.out]; rfl⟩, (Below.refl _ _).alloc (Nat.le_refl _) _⟩
    | succ q =>
      have hqz : (((q + 1 : Nat) : Int) - 1) = (q : Int) := by omega
      obtain ⟨a, cap, rfl, hlen, hrd⟩ := hrow.form
      obtain ⟨g, d, rfl, hg, hd0, hd1, hdat⟩ := hrd q (by omega)
      have HB := Lib.hid hdat.slb
      obtain ⟨gd, capd, rfl, hgd, _⟩ := hdat.form
      have hnv0 : Hid (nv = (V k).getD q 0) := by have h5 := hnv.out; show nv = _; simpa using h5
      have HR := Lib.hid hrun
      have hlt : (q : Int) < ((V k).length : Int) := by omega
      have hn0 : decide ((q : Int) < 0) = false := decide_eq_false (by omega)
      rw [hqz] at CA
      clear hrun hrow HM HA hq hnv hrd hdat hqz hlq
      generalize (V k).getD q 0 = x at *
      generalize (V k).length = m at *
      go_enter Try.func15, Try.ntmps15
      go_wp2_with (first | (go_at_call 35; refine (block_any p k _ c0).mono ?_; rintro e w' ⟨rfl, rfl⟩) | (go_at_call 36; refine CA.out.mono ?_; rintro e w' ⟨rfl, rfl⟩) | (at_lookup; refine wpList_look rfl _ _ _ rfl _ _ _ rfl rfl HR.out ?_) | fail)
      have k0 : (w'.alloc (.cells #[.int .i64 x, .slice (some ⟨gd, 0, none⟩) 40 capd] 85)).cell? ⟨w'.heap.size, 0, none⟩ = some (.int .i64 x) := World.cell?_alloc_at _ _ _ 0 rfl
      have k1 : (w'.alloc (.cells #[.int .i64 x, .slice (some ⟨gd, 0, none⟩) 40 capd] 85)).cell? ⟨w'.heap.size, 1, none⟩ = some (.slice (some ⟨gd, 0, none⟩) 40 capd) := World.cell?_alloc_at _ _ _ 1 rfl
      have hbW : Hid (Below w'.heap.size w' (w'.alloc (.cells #[.int .i64 x, .slice (some ⟨gd, 0, none⟩) 40 capd] 85))) := (Below.refl _ _).alloc (Nat.le_refl _) _
      have HBW := Lib.hid (HB.out.below hbW.out)
      have hlW : Hid (w'.heap.size < (w'.alloc (.cells #[.int .i64 x, .slice (some ⟨gd, 0, none⟩) 40 capd] 85)).heap.size) := by show _ < _; simp
      generalize w'.alloc (.cells #[.int .i64 x, .slice (some ⟨gd, 0, none⟩) 40 capd] 85) = W0 at *
      generalize hA : w'.heap.size = A at *
      clear CA HR HB c0 c1 hd0 hd1 hg hgd
      go_region_with ((go_at_call 37; refine (clone_any _ 40 (by decide) _ (by exact HBW.out)).mono ?_; rintro e w2 ⟨⟨v2, rfl, _⟩, hb2⟩; have k2 : w2.cell? ⟨A, 0, none⟩ = some (.int .i64 x) := (hb2.cell (p := ⟨A, 0, none⟩) hlW.out).trans k0; have hbw : Hid (Below A w' w2) := (by first | exact hbW.out.drew.trans (hb2.mono (Nat.le_of_lt hlW.out)) | exact hbW.out.trans (hb2.mono (Nat.le_of_lt hlW.out))); clear hb2))
      all_goals
        go_wp2
        go_ret2
        exact ⟨⟨v2, by rw [hnv0.out]; rfl⟩, by rw [hA]; exact hbw.out⟩
  · have hk0 : inB k = false := by simpa using hk
    have hnv : Hid (nvT V k t = 0) := by show nvT V k t = 0; unfold nvT; rw [if_neg hk]
    have hb0 : Hid (Below w.heap.size w w) := Below.refl _ w
    clear HM HA hk
    generalize nvT V k t = nv at *
    go_enter Try.func15, Try.ntmps15
    go_wp2_with (go_at_call 35; refine (block_any p k _ c0).mono ?_; rintro e w' ⟨rfl, rfl⟩)
    go_ret2
    exact ⟨⟨_, by rw [hnv.out]; rfl⟩, hb0.out⟩

/-- is a copy read by anybody, from a time on? -/
def liveV (V : Int → List Int) (c : Cp) (h : Int) : Bool := decide (1 ≤ c.2) && decide (nvT V c.1 (max c.2 h) = c.2)

set_option maxHeartbeats 1600000 in
set_option maxRecDepth 8000 in
theorem live_any {B p : Nat} {V : Int → List Int} {last : Int} {n : Nat} (c : Cp) (hz : Int) (w : World) (h : Mp w B p V last n) :
    Calls Try.prog 12 #[.pointer (some ⟨p, 0, none⟩), .agg #[.int .i64 c.1, .int .i64 c.2], .int .i64 hz] w fun e w' => e = .returned (.bool (liveV V c hz)) ∧ Below w.heap.size w w' := by
  obtain ⟨l, t⟩ := c
  have HM := Lib.hid h
  clear h
  have hbl : Hid (Below w.heap.size w (w.alloc (.cells #[.int .i64 l, .int .i64 t] 33))) := (Below.refl _ _).alloc (Nat.le_refl _) _
  have HM1 := Lib.hid (HM.out.below hbl.out)
  have h0 : (w.alloc (.cells #[.int .i64 l, .int .i64 t] 33)).cell? ⟨w.heap.size, 0, none⟩ = some (.int .i64 l) := World.cell?_alloc_at _ _ _ 0 rfl
  have h1 : (w.alloc (.cells #[.int .i64 l, .int .i64 t] 33)).cell? ⟨w.heap.size, 1, none⟩ = some (.int .i64 t) := World.cell?_alloc_at _ _ _ 1 rfl
  have hs : Hid (w.heap.size < (w.alloc (.cells #[.int .i64 l, .int .i64 t] 33)).heap.size) := by show _ < _; simp
  have hlv : Hid (liveV V (l, t) hz = (decide (1 ≤ t) && decide (nvT V l (max t hz) = t))) := rfl
  generalize liveV V (l, t) hz = lv at *
  by_cases ht : t < 1
  · have hlv0 : Hid (lv = false) := by have h5 := hlv.out; show lv = _; rw [h5, decide_eq_false (by omega)]; rfl
    clear HM HM1 hlv
    go_enter Try.func12, Try.ntmps12
    go_wp2
    go_ret
    exact ⟨by rw [hlv0.out]; rfl, hbl.out⟩
  · have ht0 : decide (t < 1) = false := decide_eq_false ht
    have hlv1 : Hid (lv = decide (nvT V l (max t hz) = t)) := by have h5 := hlv.out; show lv = _; rw [h5, decide_eq_true (by omega : 1 ≤ t)]; rfl
    clear hlv
    obtain ⟨mx, hmx⟩ : ∃ mx, mx = max t hz := ⟨_, rfl⟩
    rw [← hmx] at hlv1
    have CG := Lib.hid (get_any l mx _ HM1.out)
    generalize nvT V l mx = nv at *
    clear HM HM1
    by_cases hc : hz ≤ t
    · obtain rfl : mx = t := by rw [hmx]; omega
      clear hmx
      go_enter Try.func12, Try.ntmps12
      go_wp2_with (go_at_call 15; refine CG.out.mono ?_; rintro e w2 ⟨⟨v, rfl⟩, hb2⟩; have k2 : w2.cell? ⟨w.heap.size, 1, none⟩ = some (.int .i64 mx) := (hb2.cell (p := ⟨w.heap.size, 1, none⟩) hs.out).trans h1; have hb3 : Hid (Below w.heap.size w w2) := hbl.out.trans (hb2.mono (Nat.le_of_lt hs.out)); clear hb2)
      trace_state
      go_ret
      exact ⟨by rw [hlv1.out]; rfl, hb3.out⟩
    · obtain rfl : mx = hz := by rw [hmx]; omega
      clear hmx
      go_enter Try.func12, Try.ntmps12
      go_wp2_with (go_at_call 15; refine CG.out.mono ?_; rintro e w2 ⟨⟨v, rfl⟩, hb2⟩; have k2 : w2.cell? ⟨w.heap.size, 1, none⟩ = some (.int .i64 t) := (hb2.cell (p := ⟨w.heap.size, 1, none⟩) hs.out).trans h1; have hb3 : Hid (Below w.heap.size w w2) := hbl.out.trans (hb2.mono (Nat.le_of_lt hs.out)); clear hb2)
      go_ret
      exact ⟨by rw [hlv1.out]; rfl, hb3.out⟩
end Go.Proofs.Ytkpnjehgbehhcaa
