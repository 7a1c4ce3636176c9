/- A map of transactions, on both sides. -/
import Derived.Test.YtkpnjehgbehhcaaRfb
namespace Go.Proofs.Ytkpnjehgbehhcaa
open Go.RowKit

/-- both sides' maps behind the first k transactions -/
def MdS (B : Nat) (w0 : World) (T : List Tx) (m x : Nat) (k : Nat) (w : World) : Prop :=
  Mp w B m (stV T k).1 (stV T k).2 (30 * k) ∧ Rm w B x (segs (stV T k).1 0 30) (stV T k).2 (30 * k) ∧ Below B w0 w
theorem MdS.step {B : Nat} {w0 : World} {T : List Tx} {m x k : Nat} {w w1 w2 : World} (h : MdS B w0 T m x k w) (hm : Mp w1 B m (apV (stV T k).2 (T.getD k (0, [])).1 (T.getD k (0, [])).2 (stV T k).1) (apL (stV T k).2 (T.getD k (0, [])).1 (T.getD k (0, [])).2) (30 * k + 30)) (hk : KeepF w w1) (hb : Below B w w1)
    (hr : Rm w1 B x (segs (stV T k).1 0 30) (stV T k).2 (30 * k) → Rm w2 B x (apR (stV T k).2 (T.getD k (0, [])).1 (T.getD k (0, [])).2 (segs (stV T k).1 0 30)) (apL (stV T k).2 (T.getD k (0, [])).1 (T.getD k (0, [])).2) (30 * k + 30) ∧ KeepR x w1 w2 ∧ Below B w1 w2) : MdS B w0 T m x (k + 1) w2 := by
  have hx := h.2.1.keepF hk
  obtain ⟨r1, r2, r3⟩ := hr hx
  refine ⟨?_, ?_, (h.2.2.trans hb).trans r3⟩
  · have := hm.keepR r2 (by obtain ⟨_, _, v, h1, _⟩ := hx; exact ⟨_, h1⟩)
    rw [show 30 * (k + 1) = 30 * k + 30 by omega]
    exact this
  · rw [apR_segs] at r1
    rw [show 30 * (k + 1) = 30 * k + 30 by omega]
    exact r1

/-- what made returns -/
def MdR (B : Nat) (T : List Tx) (e : Ending) (w : World) : Prop :=
  ∃ m x : Nat, e = .returned (.tuple #[.pointer (some ⟨m, 0, none⟩), .pointer (some ⟨x, 0, none⟩)]) ∧ Mp w B m (stV T T.length).1 (stV T T.length).2 (30 * T.length) ∧ Rm w B x (segs (stV T T.length).1 0 30) (stV T T.length).2 (30 * T.length)

set_option maxHeartbeats 1600000 in
set_option maxRecDepth 8000 in
theorem made_any (v : Value) (T : List Tx) (hT : T.length ≤ 60) (w : World) (h : SlT w v T) :
    Calls Try.prog 10 #[v] w fun e w' => MdR w.heap.size T e w' ∧ Below w.heap.size w w' := by
  obtain ⟨a, cap, rfl, ha, hle, hcap⟩ := SlG.form h
  generalize hB : w.heap.size = B
  have HC : Hid (∀ k, k < T.length → ∃ b o ap c, a = some ⟨b, o, none⟩ ∧ ∀ w', Hid (Below B w w') → w'.cell? ⟨b, o + k * 2, none⟩ = some (.int .i64 (T.getD k (0, [])).1) ∧ w'.cell? ⟨b, o + k * 2 + 1, none⟩ = some (.slice ap (T.getD k (0, [])).2.length c) ∧ SlP w' (.slice ap (T.getD k (0, [])).2.length c) (T.getD k (0, [])).2) := fun k hk => by
    obtain ⟨b, o, u, h1, h2, h3, h4, h5⟩ := h.at rfl hk
    obtain ⟨ap, c, rfl, _⟩ := SlG.form h5
    refine ⟨b, o, ap, c, h1, fun w' hb => ⟨?_, ?_, h5.below (by rw [hB]; exact hb.out)⟩⟩
    · rw [hb.out.cell (p := ⟨b, o + k * 2, none⟩) (by rw [← hB]; exact h2)]; exact h3
    · rw [hb.out.cell (p := ⟨b, o + k * 2 + 1, none⟩) (by rw [← hB]; exact h2)]; exact h4
  have hB0 : Hid (B ≤ w.heap.size) := Nat.le_of_eq hB.symm
  have HBe := Lib.hid hB
  clear h hB
  go_enter Try.func10, Try.ntmps10
  go_wp2_with (first
    | (go_at_call 26; refine (new_any _).mono ?_; rintro e w1 ⟨m, rfl, hm1, hb1⟩
       have HM1 := Lib.hid hm1
       have HB1 := Lib.hid hb1
       clear hm1 hb1)
    | (go_at_call 27; refine (newmap_any _).mono ?_; rintro e w2 ⟨rfl, rfl⟩)
    | fail)
  have HS0 : Hid (MdS B w T m w1.heap.size 0 (w1.alloc (.cells #[.int .i64 30, .slice none 0 0, .int .i64 0] 97))) := by
    have hbB : Below B w w1 := HB1.out.mono hB0.out
    have hsz : B ≤ w1.heap.size := Nat.le_trans hB0.out hbB.size
    refine ⟨?_, ⟨hsz, Nat.le_refl _, _, heap_alloc_new w1 _, [], rfl, by simp, World.ownsRow_nil _ _ _ 3⟩, hbB.alloc hsz _⟩
    have h5 := (HM1.out.below ((Below.refl _ _).alloc (Nat.le_refl _) (.cells #[.int .i64 30, .slice none 0 0, .int .i64 0] 97)))
    rw [HBe.out] at h5
    exact h5
  clear HM1 HB1
  generalize w1.alloc (.cells #[.int .i64 30, .slice none 0 0, .int .i64 0] 97) = W at *
  generalize w1.heap.size = x at *
  go_loopw [8] (fun i wr => ∃ k : Nat, k ≤ T.length ∧ i = .int .i64 k ∧ Hid (MdS B w T m x k wr)) (fun i _ => T.length - (intOf i).toNat)
  case atStart => exact ⟨0, Nat.zero_le _, rfl, HS0⟩
  case round =>
    clear HS0
    obtain ⟨k, hk, rfl, hs⟩ := hrel
    by_cases hlt : k < T.length
    · obtain ⟨b, o, ap, c, rfl, hcell⟩ := HC.out k hlt
      have hlt2 : (k : Int) < (T.length : Int) := by omega
      have hbw := Lib.hid hs.out.2.2
      obtain ⟨c0, c1, hz⟩ := hcell wr hbw
      have HST : Hid (∀ w3 w4, Mp w3 B m (apV (stV T k).2 (T.getD k (0, [])).1 (T.getD k (0, [])).2 (stV T k).1) (apL (stV T k).2 (T.getD k (0, [])).1 (T.getD k (0, [])).2) (30 * k + 30) → KeepF wr w3 → Below B wr w3 →
          (Rm w3 B x (segs (stV T k).1 0 30) (stV T k).2 (30 * k) → Rm w4 B x (apR (stV T k).2 (T.getD k (0, [])).1 (T.getD k (0, [])).2 (segs (stV T k).1 0 30)) (apL (stV T k).2 (T.getD k (0, [])).1 (T.getD k (0, [])).2) (30 * k + 30) ∧ KeepR x w3 w4 ∧ Below B w3 w4) → MdS B w T m x (k + 1) w4) := fun w3 w4 q1 q2 q3 q4 => hs.out.step q1 q2 q3 q4
      have HMp := Lib.hid hs.out.1
      have HRm := Lib.hid hs.out.2.1
      have HSP : Hid (∀ w', Hid (Below B wr w') → SlP w' (.slice ap (T.getD k (0, [])).2.length c) (T.getD k (0, [])).2) := fun w' hb => (hcell w' (hbw.out.trans hb.out)).2.2
      have HC2 : Hid (∀ w', Below B wr w' → w'.cell? ⟨b, o + k * 2, none⟩ = some (.int .i64 (T.getD k (0, [])).1) ∧ w'.cell? ⟨b, o + k * 2 + 1, none⟩ = some (.slice ap (T.getD k (0, [])).2.length c)) := fun w' hb => ⟨(hcell w' (hbw.out.trans hb)).1, (hcell w' (hbw.out.trans hb)).2.1⟩
      have HBr : Hid (B ≤ wr.heap.size) := Nat.le_trans hB0.out hbw.out.size
      clear HC hcell hz hs hbw
      generalize (T.getD k (0, [])).1 = tm at *
      generalize (T.getD k (0, [])).2 = ps at *
      go_wp2_with (first
        | (go_at_call 28; refine (app_any2 tm ap c ps _ HMp.out HSP.out HBr.out (by omega)).mono ?_; rintro e w3 ⟨⟨r, rfl⟩, hm3, hk3, hb3⟩
           obtain ⟨d0, d1⟩ := HC2.out w3 hb3
           have HM3 := Lib.hid hm3
           have HK3 := Lib.hid hk3
           have HB3 := Lib.hid hb3
           clear hm3 hk3 hb3)
        | fail)
      go_wp2_with (first
        | (go_at_call 29; refine (rapp_any tm ap c ps _ (HRm.out.keepF HK3.out) (HSP.out w3 HB3) (Nat.le_trans HBr.out HB3.out.size) (by omega)).mono ?_; rintro e w4 ⟨⟨r, rfl⟩, hr4⟩
           have HN : Hid (MdS B w T m x (k + 1) w4) := HST.out w3 w4 HM3.out HK3.out HB3.out (fun _ => hr4)
           clear hr4)
        | fail)
      exact ⟨⟨k + 1, by omega, by go_num, HN⟩, by simp [intOf]; omega⟩
    · obtain rfl : k = T.length := by omega
      clear HC
      go_wp2
      go_ret2
      exact ⟨⟨m, x, rfl, hs.out.1, hs.out.2.1⟩, hs.out.2.2⟩
end Go.Proofs.Ytkpnjehgbehhcaa
