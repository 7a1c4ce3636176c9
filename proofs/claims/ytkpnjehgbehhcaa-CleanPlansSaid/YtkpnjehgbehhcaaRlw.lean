/- The reference's Live: the walk. -/
import Derived.Test.YtkpnjehgbehhcaaRlp
import Derived.Deep.QuietTactic
import Derived.BigQuiet
namespace Go.Proofs.Ytkpnjehgbehhcaa
open Go.RowKit

set_option maxHeartbeats 1600000 in
set_option maxRecDepth 8000 in
theorem rlive_any {B p : Nat} {V : Int → List Int} {last : Int} {n : Nat} (hV : Vok V last) (c : Cp) (hz : Int) (w : World) (h : Rm w B p (segs V 0 30) last n) (hn : n ≤ 1000000) :
    Calls Try.prog 19 #[.pointer (some ⟨p, 0, none⟩), .agg #[.int .i64 c.1, .int .i64 c.2], .int .i64 hz] w fun e w' => e = .returned (.bool (liveV V c hz)) ∧ Below w.heap.size w w' := by
  obtain ⟨c0, c1⟩ := c
  obtain ⟨hqz, hLn, rv, hp, rs, hrs, hone, hown⟩ := h
  obtain ⟨ar, cr, rfl, hrl, hrd⟩ := hown.form
  have hLl : (segs V 0 30).length = rs.length := by rw [← hrs]; simp
  have HRD : Hid (∀ i, i < rs.length → ∃ g x d, (segs V 0 30)[i]? = some x ∧ IsSl d ∧ ar = some ⟨g, 0, none⟩ ∧ ∀ w', Below w.heap.size w w' → w'.cell? ⟨g, i * 3, none⟩ = some (.int .i64 x.1) ∧ w'.cell? ⟨g, i * 3 + 1, none⟩ = some (.int .i64 x.2) ∧ w'.cell? ⟨g, i * 3 + 2, none⟩ = some d) := fun i hi => by
    obtain ⟨g, q1, q2, q3, q4, q5⟩ := hrd i hi
    exact ⟨g, rs[i].1, rs[i].2, by rw [← hrs, List.getElem?_map, List.getElem?_eq_getElem hi]; rfl, hone _ (List.getElem_mem hi), q1, fun w' hb => ⟨cell_keep q3 hb, cell_keep q4 hb, cell_keep q5 hb⟩⟩
  have HP : Hid (∀ w', Below w.heap.size w w' → w'.cell? ⟨p, 1, none⟩ = some (.slice ar rs.length cr)) := fun w' hb => cell_keep (by simp [World.cell?, hp]) hb
  have HBX : Hid (Below w.heap.size w (w.alloc (.cells #[.int .i64 c0, .int .i64 c1] 33))) := (Below.refl _ _).alloc (Nat.le_refl _) _
  have HXX : Hid ((w.alloc (.cells #[.int .i64 c0, .int .i64 c1] 33)).heap[w.heap.size]? = some (Obj.cells #[.int .i64 c0, .int .i64 c1] 33 (0, 0))) := heap_alloc_new _ _
  have HSZ : Hid (w.heap.size ≤ (w.alloc (.cells #[.int .i64 c0, .int .i64 c1] 33)).heap.size) := HBX.out.size
  have hrn : rs.length ≤ 1000000 := by omega
  have HNF : Hid (∀ (i : Nat) (x : Int × Int), (segs V 0 30)[i]? = some x → (x.1 ≠ c0 ∨ x.2 ≠ c1) → (segs V 0 30)[i]? ≠ some (c0, c1)) := fun i x q1 q2 q3 => by
    rw [q1] at q3
    obtain rfl := Option.some.inj q3
    rcases q2 with h | h
    · exact h rfl
    · exact h rfl
  have HF : Hid (1 ≤ c1 → ∀ i : Nat, (segs V 0 30)[i]? = some (c0, c1) → liveV V (c0, c1) hz = !later (segs V 0 30)[i + 1]? (c0, c1) hz) := fun q i q2 => live_found hV q q2
  have HAB : Hid ((∀ i : Nat, (segs V 0 30)[i]? ≠ some (c0, c1)) → liveV V (c0, c1) hz = false) := fun q => live_absent hV q
  have HNO : Hid (c1 < 1 → liveV V (c0, c1) hz = false) := fun q => by unfold liveV; rw [decide_eq_false (by show ¬ 1 ≤ c1; omega)]; rfl
  have HNN : Hid (∀ i, rs.length ≤ i → (segs V 0 30)[i]? = none) := fun i hi => List.getElem?_eq_none (by omega)
  generalize segs V 0 30 = L at *
  generalize liveV V (c0, c1) hz = lv at *
  clear hp hrs hone hown hrd hV hqz hLn
  generalize hA : w.heap.size = A at *
  by_cases ht : c1 < 1
  · have hd : decide (c1 < 1) = true := decide_eq_true ht
    have HL := Lib.hid (HNO.out ht)
    clear HRD HNF HF HAB HNO HNN
    go_enter Try.func19, Try.ntmps19
    go_wp2
    go_ret
    exact ⟨by rw [HL.out]; rfl, HBX.out⟩
  have hd : decide (c1 < 1) = false := decide_eq_false ht
  have HF1 := Lib.hid (HF.out (by omega))
  clear HF HNO ht
  go_enter Try.func19, Try.ntmps19
  go_wp2
  generalize w.alloc (.cells #[.int .i64 c0, .int .i64 c1] 33) = W at *
  clear hA
  go_loopw [7] (fun iv wr => ∃ i : Nat, i ≤ rs.length ∧ iv = .int .i64 i ∧ Hid (∀ j, j < i → L[j]? ≠ some (c0, c1)) ∧ Hid (Below W.heap.size W wr)) (fun iv _ => rs.length - (intOf iv).toNat)
  case atStart => exact ⟨0, Nat.zero_le _, rfl, fun j hj => absurd hj (Nat.not_lt_zero _), Below.refl _ _⟩
  case round =>
    obtain ⟨i, hi, rfl, hno, hb⟩ := hrel
    have HBA : Hid (Below A w wr) := HBX.out.trans (hb.out.mono HSZ.out)
    have k1 := HP.out wr HBA.out
    by_cases hlt : i < rs.length
    · obtain ⟨g, x, d, hx, ⟨ad, nd, cd, rfl⟩, rfl, hcx⟩ := HRD.out i hlt
      obtain ⟨x0, x1⟩ := x
      have hlt2 : (i : Int) < (rs.length : Int) := by omega
      obtain ⟨y0, y1, y2⟩ := hcx wr HBA.out
      have HB3 : Hid (Below W.heap.size W (wr.alloc (.cells #[.int .i64 x0, .int .i64 x1, .slice ad nd cd] 99))) := hb.out.alloc hb.out.size _
      have HBA3 : Hid (Below A w (wr.alloc (.cells #[.int .i64 x0, .int .i64 x1, .slice ad nd cd] 99))) := HBX.out.trans (HB3.out.mono HSZ.out)
      have p3 := (HB3.out.block _ (Array.getElem?_eq_some_iff.1 HXX.out).1).trans HXX.out
      have z0 : (wr.alloc (.cells #[.int .i64 x0, .int .i64 x1, .slice ad nd cd] 99)).cell? ⟨A, 0, none⟩ = some (.int .i64 c0) := cell_of p3 rfl
      have z1 : (wr.alloc (.cells #[.int .i64 x0, .int .i64 x1, .slice ad nd cd] 99)).cell? ⟨A, 1, none⟩ = some (.int .i64 c1) := cell_of p3 rfl
      have k3 := HP.out _ HBA3.out
      have HNX : Hid ((x0 ≠ c0 ∨ x1 ≠ c1) → ∀ j, j < i + 1 → L[j]? ≠ some (c0, c1)) := fun q j hj => by
        rcases Nat.lt_or_ge j i with h' | h'
        · exact hno.out j h'
        · obtain rfl : j = i := by omega
          exact HNF.out j _ hx q
      clear p3 hcx HAB hno HNF
      by_cases e0 : x0 = c0
      · by_cases e1 : x1 = c1
        · have HLV := Lib.hid (HF1.out i (by rw [hx, e0, e1]))
          have b0 : (x0 != c0) = false := by rw [e0]; simp
          have b1 : (x1 != c1) = false := by rw [e1]; simp
          have hwr : IntKind.i64.wrap ((i : Int) + 1) = (i : Int) + 1 := IntWalk.i64_in _ (by omega)
          by_cases hl3 : i + 1 < rs.length
          · obtain ⟨g', y, d', hy, _, hg', hcy⟩ := HRD.out (i + 1) hl3
            simp only [Option.some.injEq, Addr.mk.injEq, and_true] at hg'
            subst hg'
            obtain ⟨t0, t1⟩ := y
            obtain ⟨v0, v1, _⟩ := hcy _ HBA3.out
            rw [hy] at HLV
            have hl4 : (i : Int) + 1 < (rs.length : Int) := by omega
            have HLV2 : Hid (lv = !((t0 == c0) && decide (t1 ≤ hz))) := HLV.out
            clear HLV HNX hx hy hcy HRD HF1 HNN e0 e1
            have hcs : ((t0 == c0) = true ∧ decide (t1 ≤ hz) = true ∧ Hid (lv = false)) ∨ ((t0 == c0) = true ∧ decide (t1 ≤ hz) = false ∧ Hid (lv = true)) ∨ ((t0 == c0) = false ∧ Hid (lv = true)) := by
              have h5 := HLV2.out
              cases h6 : (t0 == c0) <;> cases h7 : decide (t1 ≤ hz) <;> rw [h6, h7] at h5
              · exact .inr (.inr ⟨rfl, h5⟩)
              · exact .inr (.inr ⟨rfl, h5⟩)
              · exact .inr (.inl ⟨rfl, rfl, h5⟩)
              · exact .inl ⟨rfl, rfl, h5⟩
            clear HLV2
            rcases hcs with ⟨b2, b3, hl⟩ | ⟨b2, b3, hl⟩ | ⟨b2, hl⟩
            · go_wp2
              go_quiet (fail)
              go_wp2
              go_ret
              exact ⟨by rw [hl.out]; rfl, below_drewN HBA3.out _⟩
            · go_wp2
              go_quiet (fail)
              go_wp2
              go_ret
              exact ⟨by rw [hl.out]; rfl, below_drewN HBA3.out _⟩
            · go_wp2
              go_quiet (fail)
              go_wp2
              go_ret
              exact ⟨by rw [hl.out]; rfl, below_drewN HBA3.out _⟩
          · have HLV2 : Hid (lv = true) := by
              have h5 := HLV.out
              rw [HNN.out (i + 1) (by omega)] at h5
              exact h5
            have hl4 : (rs.length : Int) ≤ (i : Int) + 1 := by omega
            have hl5 : decide ((i : Int) + 1 < (rs.length : Int)) = false := decide_eq_false (by omega)
            clear HLV HNX hx HRD HF1 HNN e0 e1
            go_wp2
            go_quiet (fail)
            go_wp2
            go_ret
            exact ⟨by rw [HLV2.out]; rfl, below_drewN HBA3.out _⟩
        · have b0 : (x0 != c0) = false := by rw [e0]; simp
          have b1 : (x1 != c1) = true := bne_iff_ne.2 e1
          have HN := Lib.hid (HNX.out (.inr e1))
          clear HNX hx HRD HF1 HNN e0 e1
          go_wp2
          exact ⟨⟨i + 1, by omega, by go_num, HN, HB3⟩, by simp [intOf]; omega⟩
      · have b0 : (x0 != c0) = true := bne_iff_ne.2 e0
        have HN := Lib.hid (HNX.out (.inl e0))
        clear HNX hx HRD HF1 HNN e0
        go_wp2
        exact ⟨⟨i + 1, by omega, by go_num, HN, HB3⟩, by simp [intOf]; omega⟩
    · obtain rfl : i = rs.length := by omega
      have HL : Hid (lv = false) := HAB.out fun j => by
        rcases Nat.lt_or_ge j rs.length with h' | h'
        · exact hno.out j h'
        · rw [HNN.out j h']; simp
      clear HRD HNF HF1 HAB HNN hno
      go_wp2
      go_ret
      exact ⟨by rw [HL.out]; rfl, HBA.out⟩
end Go.Proofs.Ytkpnjehgbehhcaa
