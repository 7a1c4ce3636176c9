/- The walks of Nums and of the reference's Most. -/
import Derived.Test.YticpfopjffbgbaaMst
import Derived.Test.YticpfopjffbgbaaRs
namespace Go.Proofs.Yticpfopjffbgbaa
open Go.RowKit Fl

/-- only draws have been made -/
def Drw (w w' : World) : Prop := ∃ n, w' = w.drewN n
theorem Drw.refl (w : World) : Drw w w := ⟨0, rfl⟩
theorem Drw.more {w w' : World} (h : Drw w w') (n : Nat) : Drw w (w'.drewN n) := by
  obtain ⟨m, rfl⟩ := h
  exact ⟨m + n, World.drewN_drewN ..⟩
theorem Drw.below {w w' : World} (h : Drw w w') (B : Nat) : Below B w w' := by
  obtain ⟨m, rfl⟩ := h
  exact below_drewN (Below.refl _ _) m

theorem same_yes {x y : Nat} (h : canon x = canon y) (w : World) (n : Nat) :
    Calls Try.prog 15 #[.float .f64 x, .float .f64 y] (w.drewN n) fun e w'' => e = .returned (.bool true) ∧ ∃ m, w'' = w.drewN m := by
  have := same_any x y (w.drewN n)
  rw [h, beq_self_eq_true] at this
  exact quiet_eq this

set_option maxHeartbeats 1600000 in
set_option maxRecDepth 8000 in
theorem nums_some (a a2 : Option Addr) (cap cap2 : Nat) (l r : List Nat) (hl : l.length * 8 ≤ 140737488351232) (he : l.map canon = r.map canon) (w : World) (h : Sl encF w (.slice a l.length cap) l) (g : Sl encF w (.slice a2 l.length cap2) r) :
    Calls Try.prog 17 #[.slice a l.length cap, .slice a2 l.length cap2] w fun e w' => e = .returned (.bool true) ∧ Drw w w' := by
  have hlr : r.length = l.length := by have := congrArg List.length he; simpa using this.symm
  obtain ⟨_, _, hv1, _, _, hA⟩ := h
  obtain ⟨_, _, hv2, _, _, hG⟩ := g
  simp only [Value.slice.injEq] at hv1 hv2
  obtain ⟨rfl, _, rfl⟩ := hv1
  obtain ⟨rfl, _, rfl⟩ := hv2
  have HA := Lib.hid hA
  have HG := Lib.hid hG
  have HE : Hid (∀ k (h1 : k < l.length) (h2 : k < r.length), canon l[k] = canon r[k]) := fun k h1 h2 => by
    have := congrArg (fun x => x[k]?) he
    simpa [h1, h2] using this
  have HLR := Lib.hid hlr
  clear he hA hG hlr
  go_enter Try.func17, Try.ntmps17
  go_wp2
  go_loopw [5] (fun i wr => ∃ (k : Nat), k ≤ l.length ∧ i = .int .i64 k ∧ Drw w wr) (fun i _ => l.length - (intOf i).toNat)
  case atStart => exact ⟨0, Nat.zero_le _, rfl, Drw.refl _⟩
  case round =>
    obtain ⟨k, hk, rfl, hd⟩ := hrel
    by_cases hlt : k < l.length
    · have hcell : ∃ b o b2 o2, a = some ⟨b, o, none⟩ ∧ a2 = some ⟨b2, o2, none⟩ ∧ wr.cell? ⟨b, o + k, none⟩ = some (.float .f64 l[k]) ∧ wr.cell? ⟨b2, o2 + k, none⟩ = some (.float .f64 (r[k]'(by have := HLR.out; omega))) := by
        have hlr := HLR.out
        obtain ⟨n, rfl⟩ := hd
        obtain h0 | ⟨b, o, rfl, hb, hc⟩ := HA.out
        · exfalso; rw [h0] at hlt; simp at hlt
        · obtain h0 | ⟨b2, o2, rfl, hb2, hc2⟩ := HG.out
          · exfalso; rw [h0] at hlr; simp at hlr; omega
          · exact ⟨b, o, b2, o2, rfl, rfl, hc k hlt, hc2 k (by omega)⟩
      obtain ⟨b, o, b2, o2, rfl, rfl, hc1, hc2⟩ := hcell
      have HC : Hid (canon l[k] = canon (r[k]'(by have := HLR.out; omega))) := HE.out k hlt (by have := HLR.out; omega)
      clear HA HG HE
      have HD := Lib.hid hd
      clear hd
      go_wp2
      go_quiet ((go_at_call 15; exact same_yes HC.out _ _))
      go_wp2
      exact ⟨⟨k + 1, by omega, by go_num, HD.out.more _⟩, by simp [intOf]; omega⟩
    · have HD := Lib.hid hd
      clear hd HA HG HE
      go_wp2
      go_ret
      exact ⟨rfl, HD.out⟩

theorem nums_any (v u : Value) (l r : List Nat) (hl : l.length * 8 ≤ 140737488351232) (he : l.map canon = r.map canon) (w : World) (h : Sl encF w v l) (g : Sl encF w u r) :
    Calls Try.prog 17 #[v, u] w fun e w' => e = .returned (.bool true) ∧ Drw w w' := by
  obtain ⟨a, cap, rfl, _⟩ := id h
  obtain ⟨a2, cap2, hv, _⟩ := id g
  have hlr : r.length = l.length := by have := congrArg List.length he; simpa using this.symm
  rw [hlr] at hv
  subst hv
  exact nums_some a a2 cap cap2 l r hl he w h g

set_option maxHeartbeats 3200000 in
set_option maxRecDepth 8000 in
theorem rmost_some (mx : Bool) (a : Option Addr) (cap : Nat) (l : List Nat) (h0 : 0 < l.length) (hl : l.length * 8 ≤ 140737488351232) (w : World)
    (hA : Hid (l = [] ∨ ∃ b o, a = some ⟨b, o, none⟩ ∧ b < w.heap.size ∧ ∀ i (h : i < l.length), w.cell? ⟨b, o + i, none⟩ = some (encF l[i]))) :
    Calls Try.prog 19 #[.slice a l.length cap, .int .i64 (wayI mx)] w fun e w' => e = .returned (.tuple #[.float .f64 (mostV mx l), .int .i64 0]) ∧ Drw w w' := by
  have hne : ((l.length : Int) == 0) = false := beq_eq_false_iff_ne.2 (by omega)
  have hcell0 : ∃ b o, a = some ⟨b, o, none⟩ ∧ (∀ i (h : i < l.length), w.cell? ⟨b, o + i, none⟩ = some (encF l[i])) := by
    obtain h | ⟨b, o, rfl, hb, hc⟩ := hA.out
    · exfalso; rw [h] at h0; simp at h0
    · exact ⟨b, o, rfl, hc⟩
  clear hA
  obtain ⟨b, o, rfl, hc⟩ := hcell0
  have HC := Lib.hid hc
  have hc0 : w.cell? ⟨b, o, none⟩ = some (.float .f64 l[0]) := hc 0 h0
  clear hc
  have hhd : l.headD 0 = l[0] := by cases l with
    | nil => simp at h0
    | cons x l => rfl
  have HV : Hid (∀ o, l.any isNaN = false → o = l.foldl (mstep mx) l[0] → mostV mx l = o) := fun o h1 h2 => by
    unfold mostV; rw [h1, hhd, h2]; rfl
  have HW : Hid (∀ k (hk : k < l.length), isNaN l[k] = true → mostV mx l = cN) := fun k hk h => by
    unfold mostV; rw [if_pos]; exact List.any_eq_true.2 ⟨_, List.getElem_mem hk, h⟩
  clear hhd
  generalize l[0] = z0 at *
  obtain ⟨way, hway⟩ : ∃ way, wayI mx = way := ⟨_, rfl⟩
  rw [hway]
  have HWY := Lib.hid hway
  clear hway
  go_enter Try.func19, Try.ntmps19
  go_wp2
  go_loopw [6, 7] (fun ov i wr => ∃ (k o' : Nat), k ≤ l.length ∧ i = .int .i64 k ∧ ov = .float .f64 o' ∧ Hid (o' = (l.take k).foldl (mstep mx) z0) ∧ Hid ((l.take k).any isNaN = false) ∧ Drw w wr) (fun _ i _ => l.length - (intOf i).toNat)
  case atStart => exact ⟨0, z0, Nat.zero_le _, rfl, rfl, rfl, rfl, Drw.refl _⟩
  case round =>
    obtain ⟨k, o', hk, rfl, rfl, ho, hn, hd⟩ := hrel
    by_cases hlt : k < l.length
    · have hcell : wr.cell? ⟨b, o + k, none⟩ = some (.float .f64 l[k]) := by
        obtain ⟨n, rfl⟩ := hd
        exact HC.out k hlt
      have HD := Lib.hid hd
      clear hd hc0
      cases hnan : isNaN l[k]
      · have HF : Hid (mstep mx o' l[k] = (l.take (k + 1)).foldl (mstep mx) z0) := by show _ = _; rw [fold_succ mx hlt, ← ho.out]
        have HN2 := Lib.hid (nonan_succ hlt hn.out hnan)
        clear hn ho
        by_cases hb : better mx l[k] o' = true
        · have HM : Hid (mstep mx o' l[k] = l[k]) := by show _ = _; unfold mstep; rw [hb]; rfl
          have HP : Hid (cmpF l[k] o' = way) := by
            show _ = _
            rw [← HWY.out]
            cases mx
            · exact (cmpF_lt (by simpa [better] using hb)).1
            · exact (cmpF_lt (by simpa [better] using hb)).2
          clear hb
          have hw2 : way = 1 ∨ way = -1 := by rw [← HWY.out]; cases mx <;> simp [wayI]
          rcases hw2 with rfl | rfl
          all_goals
            go_wp2
            go_quiet (fail)
            go_wp2_with (go_at_call 21; refine (rcompare_any _ _ _).mono ?_; rintro e w' ⟨rfl, rfl⟩; rw [HP.out])
            exact ⟨⟨k + 1, _, by omega, by go_num, rfl, by rw [← HF.out]; exact HM.out.symm, HN2, HD.out.more _⟩, by simp [intOf]; omega⟩
        · have HM : Hid (mstep mx o' l[k] = o') := by show _ = _; unfold mstep; rw [if_neg hb]
          have HP : Hid ((cmpF l[k] o' == way) = false) := by
            show _ = _
            rw [← HWY.out, beq_eq_false_iff_ne]
            rcases Nat.lt_trichotomy (ck l[k]) (ck o') with h | h | h
            · rw [(cmpF_lt h).1]
              cases mx
              · exact absurd (by simpa [better] using h) hb
              · decide
            · rw [cmpF_eq h]; cases mx <;> decide
            · rw [(cmpF_lt h).2]
              cases mx
              · decide
              · exact absurd (by simpa [better] using h) hb
          clear hb
          generalize hcp : cmpF l[k] o' = cp at HP
          have HCP := Lib.hid hcp
          have hp := HP.out
          clear hcp HP
          go_wp2
          go_quiet (fail)
          go_wp2_with (go_at_call 21; refine (rcompare_any _ _ _).mono ?_; rintro e w' ⟨rfl, rfl⟩; rw [HCP.out])
          exact ⟨⟨k + 1, _, by omega, by go_num, rfl, by rw [← HF.out]; exact HM.out.symm, HN2, HD.out.more _⟩, by simp [intOf]; omega⟩
      · have HM : Hid (mostV mx l = cN) := HW.out k hlt hnan
        have HCC : Hid (canon 9221120237041090560 = cN) := canon_cN
        clear ho hn
        go_wp2
        go_quiet (fail)
        go_wp2_with (go_at_call 27; refine (rfrom_any _ _).mono ?_; rintro e w' ⟨rfl, rfl⟩; rw [HCC.out])
        go_ret2
        exact ⟨by rw [HM.out]; rfl, HD.out.more _⟩
    · have hkl : l.take k = l := List.take_of_length_le (by omega)
      rw [hkl] at ho hn
      have HM : Hid (mostV mx l = o') := HV.out o' hn.out ho.out
      have HD := Lib.hid hd
      clear ho hn hd
      go_wp2
      go_ret2
      exact ⟨by rw [HM.out]; rfl, HD.out⟩

set_option maxHeartbeats 400000 in
theorem rmost_nil (mx : Bool) (a : Option Addr) (cap : Nat) (w : World) :
    Calls Try.prog 19 #[.slice a 0 cap, .int .i64 (wayI mx)] w fun e w' => e = .returned (.tuple #[.float .f64 0, .int .i64 14]) ∧ w = w' := by
  generalize wayI mx = way
  go_enter Try.func19, Try.ntmps19
  go_wp2
  go_ret2
  exact ⟨rfl, rfl⟩

theorem rmost_any (mx : Bool) (v : Value) (l : List Nat) (hl : l.length * 8 ≤ 140737488351232) (w : World) (h : Sl encF w v l) :
    Calls Try.prog 19 #[v, .int .i64 (wayI mx)] w fun e w' => e = .returned (.tuple #[.float .f64 (mostR mx l), .int .i64 (mostE l)]) ∧ Drw w w' := by
  obtain ⟨a, cap, rfl, _, _, hA⟩ := h
  by_cases h0 : l = []
  · subst h0
    refine (rmost_nil mx a cap w).mono ?_
    rintro e w' ⟨rfl, rfl⟩
    exact ⟨rfl, Drw.refl _⟩
  · rw [show mostR mx l = mostV mx l from if_neg h0, show mostE l = 0 from if_neg h0]
    exact rmost_some mx a cap l (List.length_pos_iff.2 h0) hl w hA
end Go.Proofs.Yticpfopjffbgbaa
