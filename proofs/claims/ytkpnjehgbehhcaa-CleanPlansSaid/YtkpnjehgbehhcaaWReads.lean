/- The walk of CleanReads: the law returns true. -/
import Derived.Test.YtkpnjehgbehhcaaAwk
namespace Go.Proofs.Ytkpnjehgbehhcaa
open Go.RowKit Fl

theorem atN_spec {ts : List Int} {t : Int} : ∀ {n q : Nat}, atN ts t n = q + 1 → q < n ∧ ts.getD q 0 ≤ t ∧ ∀ j, q < j → j < n → t < ts.getD j 0 := by
  intro n
  induction n with
  | zero => intro q h; cases h
  | succ n ih =>
    intro q h
    unfold atN at h
    by_cases hc : ts.getD n 0 ≤ t
    · rw [if_pos hc] at h
      obtain rfl : n = q := by omega
      exact ⟨by omega, hc, fun j h1 h2 => by omega⟩
    · rw [if_neg hc] at h
      obtain ⟨h1, h2, h3⟩ := ih h
      refine ⟨by omega, h2, fun j h4 h5 => ?_⟩
      rcases Nat.lt_or_ge j n with h6 | h6
      · exact h3 j h4 h6
      · obtain rfl : j = n := by omega
        omega
theorem atN_mk {ts : List Int} {t : Int} : ∀ {n q : Nat}, q < n → ts.getD q 0 ≤ t → (∀ j, q < j → j < n → t < ts.getD j 0) → atN ts t n = q + 1 := by
  intro n
  induction n with
  | zero => intro q h; omega
  | succ n ih =>
    intro q h h1 h2
    unfold atN
    by_cases e : q = n
    · subst e
      rw [if_pos h1]
    · have := h2 n (by omega) (by omega)
      rw [if_neg (by omega)]
      exact ih (by omega) h1 fun j h3 h4 => h2 j h3 (by omega)
theorem nv_spec {V : Int → List Int} {k t x : Int} (h : nvT V k t = x) (hx : 0 < x) : inB k = true ∧ ∃ q, q < (V k).length ∧ (V k).getD q 0 = x ∧ x ≤ t ∧ ∀ j, q < j → j < (V k).length → t < (V k).getD j 0 := by
  unfold nvT at h
  by_cases hb : inB k = true
  · rw [if_pos hb] at h
    by_cases h0 : atN (V k) t (V k).length = 0
    · rw [if_pos h0] at h; omega
    · rw [if_neg h0] at h
      obtain ⟨q, hq⟩ : ∃ q, atN (V k) t (V k).length = q + 1 := ⟨atN (V k) t (V k).length - 1, by omega⟩
      obtain ⟨h1, h2, h3⟩ := atN_spec hq
      rw [hq, show q + 1 - 1 = q by omega] at h
      exact ⟨hb, q, h1, h, by omega, h3⟩
  · rw [if_neg hb] at h; omega
theorem nv_mk {V : Int → List Int} {k t : Int} {q : Nat} (hb : inB k = true) (h1 : q < (V k).length) (h2 : (V k).getD q 0 ≤ t) (h3 : ∀ j, q < j → j < (V k).length → t < (V k).getD j 0) : nvT V k t = (V k).getD q 0 := by
  unfold nvT
  rw [if_pos hb, atN_mk h1 h2 h3, if_neg (by omega), show q + 1 - 1 = q by omega]
theorem nv_stay {V : Int → List Int} {k t x s : Int} (h : nvT V k t = x) (hx : 0 < x) (h1 : x ≤ s) (h2 : s ≤ t) : nvT V k s = x := by
  obtain ⟨hb, q, q1, q2, q3, q4⟩ := nv_spec h hx
  rw [nv_mk hb q1 (by omega) (fun j j1 j2 => by have := q4 j j1 j2; omega)]
  exact q2

/-- is a version read at one of the k times from hz on? -/
def rdN (V : Int → List Int) (lba time hz : Int) : Nat → Bool
  | 0 => false
  | k + 1 => rdN V lba time hz k || (nvT V lba (hz + k) == time && decide (0 < nvT V lba (hz + k)))
theorem rdN_iff {V : Int → List Int} {lba time hz : Int} : ∀ {n : Nat}, rdN V lba time hz n = true ↔ ∃ j : Nat, j < n ∧ nvT V lba (hz + j) = time ∧ 0 < time := by
  intro n
  induction n with
  | zero => simp [rdN]
  | succ n ih =>
    unfold rdN
    rw [Bool.or_eq_true, ih, Bool.and_eq_true, beq_iff_eq, decide_eq_true_eq]
    constructor
    · rintro (⟨j, h1, h2⟩ | ⟨h1, h2⟩)
      · exact ⟨j, by omega, h2⟩
      · exact ⟨n, by omega, h1, by omega⟩
    · rintro ⟨j, h1, h2, h3⟩
      rcases Nat.lt_or_ge j n with h4 | h4
      · exact .inl ⟨j, h4, h2, h3⟩
      · obtain rfl : j = n := by omega
        exact .inr ⟨h2, by omega⟩
theorem reads_live {V : Int → List Int} {lba time hz : Int} {n : Nat} (h : rdN V lba time hz n = true) : liveV V (lba, time) hz = true := by
  obtain ⟨j, _, h2, h3⟩ := rdN_iff.1 h
  obtain ⟨_, q, _, q2, q3, _⟩ := nv_spec h2 h3
  have := nv_stay (s := max time hz) h2 h3 (by omega) (by omega)
  unfold liveV
  rw [decide_eq_true (by show 1 ≤ time; omega), decide_eq_true this]
  rfl
theorem live_reads {V : Int → List Int} {lba time hz : Int} {n : Nat} (h : liveV V (lba, time) hz = true) (hn : hz + n = 1002) (hz1 : hz ≤ 1000) : rdN V lba time hz n = true ∨ 1001 < time := by
  unfold liveV at h
  simp only [Bool.and_eq_true, decide_eq_true_eq] at h
  by_cases ht : 1001 < time
  · exact .inr ht
  · left
    refine rdN_iff.2 ⟨(max time hz - hz).toNat, by omega, ?_, by omega⟩
    rw [show hz + ((max time hz - hz).toNat : Int) = max time hz by omega]
    exact h.2

set_option maxHeartbeats 3200000 in
set_option maxRecDepth 16000 in
theorem walk_CleanReads (w : World) (v : Value) (T : List Tx) (h : SlT w v T) (hz : Int) (_ : (Lit.int .i64 hz).wf = true) (lba : Int) (_ : (Lit.int .i64 lba).wf = true) (time : Int) (_ : (Lit.int .i64 time).wf = true) :
    Calls Try.prog 5 #[v, .int .i64 hz, .int .i64 lba, .int .i64 time] w fun e w' => e = .returned (.bool true) ∧ Below w.heap.size w w' := by
  obtain ⟨a, cap, rfl, ha, hle, hcap⟩ := SlG.form h
  have CS := Lib.hid (small_any _ (.slice none 0 0) T [] w h (SlG.nil _ _ _))
  have HT : Hid (∀ w', Below w.heap.size w w' → SlT w' (.slice a T.length cap) T) := fun w' hb => h.below hb
  generalize hB : w.heap.size = B at *
  clear h
  go_enter Try.func5, Try.ntmps5
  go_wp2_with fail
  refine CS.out.mono ?_
  rintro e w1 ⟨⟨r, rfl, hr⟩, hb1⟩
  have HB1 := Lib.hid hb1
  have HS1 : Hid (B ≤ w1.heap.size) := by have := hb1.size; show _ ≤ _; omega
  clear hb1 CS
  cases r with
  | false =>
    clear hr
    go_wp2_with fail
    refine (awake20_any _).mono ?_
    rintro e w2 ⟨rfl, hb2⟩
    have HB2 : Hid (Below B w w2) := HB1.out.trans (hb2.mono HS1.out)
    clear hb2
    go_wp2
    go_ret
    exact ⟨rfl, HB2.out⟩
  | true =>
    have hTl := (hr rfl).2
    clear hr
    by_cases h0 : hz < 0
    · have hd : decide (hz < 0) = true := decide_eq_true h0
      go_wp2_with fail
      refine (awake20_any _).mono ?_
      rintro e w2 ⟨rfl, hb2⟩
      have HB2 : Hid (Below B w w2) := HB1.out.trans (hb2.mono HS1.out)
      clear hb2
      go_wp2
      go_ret
      exact ⟨rfl, HB2.out⟩
    by_cases h1 : 1000 < hz
    · have hd : decide (hz < 0) = false := decide_eq_false h0
      have hd2 : decide (1000 < hz) = true := decide_eq_true h1
      go_wp2_with fail
      refine (awake20_any _).mono ?_
      rintro e w2 ⟨rfl, hb2⟩
      have HB2 : Hid (Below B w w2) := HB1.out.trans (hb2.mono HS1.out)
      clear hb2
      go_wp2
      go_ret
      exact ⟨rfl, HB2.out⟩
    have hd : decide (hz < 0) = false := decide_eq_false h0
    have hd2 : decide (1000 < hz) = false := decide_eq_false h1
    have CM := Lib.hid (made_any _ T hTl w1 (HT.out w1 HB1.out))
    go_wp2_with fail
    refine CM.out.mono ?_
    rintro e w2 ⟨⟨m, x, rfl, hm, _⟩, hb2⟩
    have HB2 : Hid (Below B w w2) := HB1.out.trans (hb2.mono HS1.out)
    have HM : Hid (∀ w', Below w2.heap.size w2 w' → Mp w' w1.heap.size m (stV T T.length).1 (stV T T.length).2 (30 * T.length)) := fun w' hb => hm.below hb
    have HS2 : Hid (B ≤ w2.heap.size) := by have := HB2.out.size; show _ ≤ _; omega
    clear hm hb2 CM HT
    generalize (stV T T.length).1 = V at *
    generalize (stV T T.length).2 = last at *
    have HRS : Hid (∀ k : Nat, rdN V lba time hz (k + 1) = (rdN V lba time hz k || (nvT V lba (hz + k) == time && decide (0 < nvT V lba (hz + k))))) := fun k => rfl
    go_wp2
    go_loopw [11, 12] (fun rv av wr => ∃ k : Nat, hz + k ≤ 1002 ∧ rv = .bool (rdN V lba time hz k) ∧ av = .int .i64 (hz + k) ∧ Hid (Below w2.heap.size w2 wr)) (fun _ av _ => (1002 - intOf av).toNat)
    case atStart => exact ⟨0, by omega, rfl, by simp, Below.refl _ _⟩
    case round =>
      obtain ⟨k, hk, rfl, rfl, hb⟩ := hrel
      by_cases hlt : hz + (k : Int) ≤ 1001
      · have CG := Lib.hid (get_any lba (hz + k) wr (HM.out wr hb.out))
        have HR1 := Lib.hid (HRS.out k)
        have HSr : Hid (w2.heap.size ≤ wr.heap.size) := hb.out.size
        have hwr : IntKind.i64.wrap (hz + (k : Int) + 1) = hz + (k : Int) + 1 := IntWalk.i64_in _ (by omega)
        clear HM HRS
        generalize nvT V lba (hz + k) = nv at *
        go_wp2_with fail
        refine CG.out.mono ?_
        rintro e w3 ⟨⟨vv, rfl⟩, hb3⟩
        have HB3 : Hid (Below w2.heap.size w2 w3) := hb.out.trans (hb3.mono HSr.out)
        clear hb3 CG
        have hstep : Hid (∀ b c d : Bool, rdN V lba time hz k = b → (nv == time) = c → decide (0 < nv) = d → rdN V lba time hz (k + 1) = (b || (c && d))) := fun b c d q1 q2 q3 => by rw [HR1.out, q1, q2, q3]
        clear HR1
        cases hq : rdN V lba time hz k with
        | true =>
          have HN : Hid (rdN V lba time hz (k + 1) = true) := by
            have h5 := hstep.out true _ _ hq rfl rfl
            exact h5
          clear hstep hq
          go_wp2
          exact ⟨⟨k + 1, by omega, by rw [HN.out], by go_num, HB3⟩, by simp [intOf]; omega⟩
        | false =>
          by_cases e1 : nv = time
          · have e1b : (nv == time) = true := beq_iff_eq.2 e1
            by_cases e2 : 0 < nv
            · have e2b : decide (0 < nv) = true := decide_eq_true e2
              have HN : Hid (rdN V lba time hz (k + 1) = true) := hstep.out false true true hq e1b e2b
              clear hstep hq e1 e2
              go_wp2
              exact ⟨⟨k + 1, by omega, by rw [HN.out], by go_num, HB3⟩, by simp [intOf]; omega⟩
            · have e2b : decide (0 < nv) = false := decide_eq_false e2
              have HN : Hid (rdN V lba time hz (k + 1) = false) := hstep.out false true false hq e1b e2b
              clear hstep hq e1 e2
              go_wp2
              exact ⟨⟨k + 1, by omega, by rw [HN.out], by go_num, HB3⟩, by simp [intOf]; omega⟩
          · have e1b : (nv == time) = false := beq_eq_false_iff_ne.2 e1
            have HN : Hid (rdN V lba time hz (k + 1) = false) := hstep.out false false _ hq e1b rfl
            clear hstep hq e1
            go_wp2
            exact ⟨⟨k + 1, by omega, by rw [HN.out], by go_num, HB3⟩, by simp [intOf]; omega⟩
      · have HN1 : Hid (rdN V lba time hz k = true → liveV V (lba, time) hz = true) := fun q => reads_live q
        have HN2 : Hid (liveV V (lba, time) hz = true → rdN V lba time hz k = true ∨ 1001 < time) := fun q => live_reads q (by omega) (by omega)
        have CL := Lib.hid (live_any (lba, time) hz wr (HM.out wr hb.out))
        have hd3 : decide (hz + (k : Int) ≤ 1001) = false := decide_eq_false hlt
        clear HM HRS hlt hk h0 h1 hd hd2
        generalize rdN V lba time hz k = rd at *
        generalize liveV V (lba, time) hz = lv at *
        go_wp2_with fail
        refine CL.out.mono ?_
        rintro e w4 ⟨rfl, hb4⟩
        have HB4 : Hid (Below B w w4) := HB2.out.trans ((hb.out.trans (hb4.mono hb.out.size)).mono HS2.out)
        have HS4 : Hid (B ≤ w4.heap.size) := by have h5 := HB2.out.size; have h6 := hb.out.size; have h7 := hb4.size; have := HS2.out; show _ ≤ _; omega
        clear hb4 CL hd3
        cases rd with
        | true =>
          obtain rfl : lv = true := HN1.out rfl
          clear HN1 HN2
          go_wp2_with fail
          refine (awake20_any _).mono ?_
          rintro e w5 ⟨rfl, hb5⟩
          have HB5 : Hid (Below B w w5) := HB4.out.trans (hb5.mono HS4.out)
          clear hb5
          go_wp2
          go_ret
          exact ⟨rfl, HB5.out⟩
        | false =>
          cases lv with
          | false =>
            clear HN1 HN2
            go_wp2_with fail
            refine (awake20_any _).mono ?_
            rintro e w5 ⟨rfl, hb5⟩
            have HB5 : Hid (Below B w w5) := HB4.out.trans (hb5.mono HS4.out)
            clear hb5
            go_wp2
            go_ret
            exact ⟨rfl, HB5.out⟩
          | true =>
            have h9 : decide (1001 < time) = true := decide_eq_true (by
              rcases HN2.out rfl with h | h
              · cases h
              · exact h)
            clear HN1 HN2
            go_wp2_with fail
            refine (awake20_any _).mono ?_
            rintro e w5 ⟨rfl, hb5⟩
            have HB5 : Hid (Below B w w5) := HB4.out.trans (hb5.mono HS4.out)
            clear hb5
            go_wp2
            go_ret
            exact ⟨rfl, HB5.out⟩
end Go.Proofs.Ytkpnjehgbehhcaa
