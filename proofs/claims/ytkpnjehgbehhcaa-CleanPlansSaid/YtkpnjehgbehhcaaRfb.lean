/- The reference's Apply: the walk. -/
import Derived.Test.YtkpnjehgbehhcaaMgd
import Derived.Test.YtkpnjehgbehhcaaZon
import Derived.Deep.RegionHeld3
import Derived.BigRegion
import Derived.BigQuiet
import Derived.Deep.QuietTactic
namespace Go.Proofs.Ytkpnjehgbehhcaa
open Go.RowKit

theorem forty_all {l : List Pt} : ∀ k, (∀ j, j < k → (l.getD j (0, 0)).2 = 40) → fortyN l k = true := by
  intro k
  induction k with
  | zero => intro _; rfl
  | succ k ih =>
    intro h
    unfold fortyN
    rw [ih (fun j hj => h j (by omega)), h k (by omega)]
    rfl
theorem okA_mk {last tm : Int} {l : List Pt} (h1 : last < tm) (h2 : tm ≤ 1099511627776) (h3 : riseN l l.length = true) (h0 : 0 < l.length) (h4 : ∀ j, j < l.length → 0 ≤ (l.getD j (0, 0)).1 ∧ (l.getD j (0, 0)).1 < 30) (h5 : ∀ j, j < l.length → (l.getD j (0, 0)).2 = 40) : okA last tm l = true := by
  have a1 := h4 0 h0
  have a2 := h4 (l.length - 1) (by omega)
  unfold okA riseP inB
  rw [h3, forty_all _ h5, decide_eq_true h1, decide_eq_true h2, decide_eq_true h0, decide_eq_true a1.1, decide_eq_true a1.2, decide_eq_true a2.1, decide_eq_true a2.2]
  rfl
theorem rise_no {last tm : Int} {l : List Pt} {k : Nat} (hk : k + 1 < l.length) (h : (l.getD (k + 1) (0, 0)).1 ≤ (l.getD k (0, 0)).1) : okA last tm l = false := by
  cases hq : okA last tm l
  · rfl
  · have := rise_step (ok_rise hq).1 k hk
    omega

/-- what Apply leaves where it refuses -/
theorem rapp_refuse {w w' : World} {B p : Nat} {L : List (Int × Int)} {last tm : Int} {l : List Pt} {n : Nat} (h : Rm w B p L last n) (hB : B ≤ w.heap.size) (hno : okA last tm l = false) (hb : Below w.heap.size w w') :
    Rm w' B p (apR last tm l L) (apL last tm l) (n + 30) ∧ KeepR p w w' ∧ Below B w w' := by
  have e1 : apR last tm l L = L := by unfold apR; rw [if_neg (by rw [hno]; decide)]
  have e2 : apL last tm l = last := by unfold apL; rw [if_neg (by rw [hno]; decide)]
  rw [e1, e2]
  exact ⟨(h.below hb).mono (by omega), KeepR.below hb, hb.mono hB⟩

set_option maxHeartbeats 6400000 in
set_option maxRecDepth 16000 in
theorem rapp_any {B p : Nat} {L : List (Int × Int)} {last : Int} {n : Nat} (tm : Int) (a : Option Addr) (cap : Nat) (l : List Pt) (w : World) (h : Rm w B p L last n) (hl : SlP w (.slice a l.length cap) l) (hB : B ≤ w.heap.size) (hnn : n + 30 < 1000000) :
    Calls Try.prog 29 #[.pointer (some ⟨p, 0, none⟩), .agg #[.int .i64 tm, .slice a l.length cap]] w fun e w' => (∃ r, e = .returned (.int .i64 r)) ∧ Rm w' B p (apR last tm l L) (apL last tm l) (n + 30) ∧ KeepR p w w' ∧ Below B w w' := by
  obtain ⟨hz1, hLn, rv, hp, rs, hrs, hone, hown⟩ := id h
  obtain ⟨ar, cr, rfl, hrl, hrd⟩ := hown.form
  have hLl : L.length = rs.length := by rw [← hrs]; simp
  have HREF : Hid (∀ w', okA last tm l = false → Below w.heap.size w w' → Rm w' B p (apR last tm l L) (apL last tm l) (n + 30) ∧ KeepR p w w' ∧ Below B w w') := fun w' q1 q2 => rapp_refuse h hB q1 q2
  have HRM := Lib.hid h
  have HBB := Lib.hid hB
  have HC := Lib.hid (hl.rd rfl)
  have HRD : Hid (∀ i, i < rs.length → ∃ g x d, L[i]? = some x ∧ IsSl d ∧ ar = some ⟨g, 0, none⟩ ∧ ∀ w', Hid (Below w.heap.size w w') → w'.cell? ⟨g, i * 3, none⟩ = some (.int .i64 x.1) ∧ w'.cell? ⟨g, i * 3 + 1, none⟩ = some (.int .i64 x.2) ∧ w'.cell? ⟨g, i * 3 + 2, none⟩ = some d) := fun i hi => by
    obtain ⟨g, q1, q2, q3, q4, q5⟩ := hrd i hi
    refine ⟨g, rs[i].1, rs[i].2, by rw [← hrs, List.getElem?_map, List.getElem?_eq_getElem hi]; rfl, hone _ (List.getElem_mem hi), q1, fun w' hb => ⟨?_, ?_, ?_⟩⟩
    · rw [hb.out.cell (p := ⟨g, i * 3, none⟩) q2]; exact q3
    · rw [hb.out.cell (p := ⟨g, i * 3 + 1, none⟩) q2]; exact q4
    · rw [hb.out.cell (p := ⟨g, i * 3 + 2, none⟩) q2]; exact q5
  have hHB : Hid (Below w.heap.size w (w.alloc (.cells #[.int .i64 tm, .slice a l.length cap] 68))) := (Below.refl _ _).alloc (Nat.le_refl _) _
  have hS : Hid (RaS w.heap.size p tm last (.slice a l.length cap) (.slice ar rs.length cr) (w.alloc (.cells #[.int .i64 tm, .slice a l.length cap] 68))) :=
    ⟨World.cell?_alloc_at _ _ _ 0 rfl, World.cell?_alloc_at _ _ _ 1 rfl, cell_keep (by simp [World.cell?, hp]) hHB.out, cell_keep (by simp [World.cell?, hp]) hHB.out, cell_keep (by simp [World.cell?, hp]) hHB.out⟩
  have hlt : Hid (w.heap.size < (w.alloc (.cells #[.int .i64 tm, .slice a l.length cap] 68)).heap.size) := by show _ < _; simp
  obtain ⟨az, cz, hcv, hz2, hcl, hcm⟩ := SlG.form hl
  simp only [Value.slice.injEq] at hcv
  obtain ⟨rfl, hz3, rfl⟩ := hcv
  clear hz1 hz2 hz3 h hl hB hown hone hrs hrd hp
  obtain ⟨k0, k1, k2, k3, k4⟩ := hS.out
  go_enter Try.func29, Try.ntmps29
  go_wp2
  generalize (w.alloc (.cells #[.int .i64 tm, .slice a l.length cap] 68)) = W at *
  generalize hA : w.heap.size = A at *
  have HA := Lib.hid hA
  clear hA
  by_cases hle : tm ≤ last
  · have hno : Hid (okA last tm l = false) := by
      show _ = _
      cases hq : okA last tm l
      · rfl
      · have := (ok_rise hq).2.1; omega
    have hd : decide (tm ≤ last) = true := decide_eq_true hle
    clear HC HRD HRM HBB
    go_quiet (fail)
    go_wp2
    go_ret
    exact ⟨⟨11, rfl⟩, HREF.out _ hno.out (below_drewN hHB.out _)⟩
  by_cases hgt : 1099511627776 < tm
  · have hno : Hid (okA last tm l = false) := by
      show _ = _
      cases hq : okA last tm l
      · rfl
      · have := (ok_rise hq).2.2; omega
    have hd : decide (tm ≤ last) = false := decide_eq_false hle
    have hd2 : decide (1099511627776 < tm) = true := decide_eq_true hgt
    clear HC HRD HRM HBB
    go_quiet (fail)
    go_wp2
    go_ret
    exact ⟨⟨11, rfl⟩, HREF.out _ hno.out (below_drewN hHB.out _)⟩
  have HTM : Hid (last < tm ∧ tm ≤ 1099511627776) := ⟨by omega, by omega⟩
  have hd : decide (tm ≤ last) = false := decide_eq_false hle
  have hd2 : decide (1099511627776 < tm) = false := decide_eq_false hgt
  by_cases h0 : l.length = 0
  · have hno : Hid (okA last tm l = false) := by
      show _ = _
      cases hq : okA last tm l
      · rfl
      · have := riseP_pos (ok_rise hq).1; omega
    have he : ((l.length : Int) == 0) = true := by rw [h0]; rfl
    clear HC HRD HRM HBB h0
    go_quiet (fail)
    go_wp2
    go_ret
    exact ⟨⟨1, rfl⟩, HREF.out _ hno.out (below_drewN hHB.out _)⟩
  have he : ((l.length : Int) == 0) = false := beq_eq_false_iff_ne.2 (by omega)
  go_quiet (fail)
  go_wp2
  clear hd hd2 hle hgt he k0 k1 k2 k3 k4
  have HSA : Hid (∀ wr, Below W.heap.size W wr → RaS A p tm last (.slice a l.length cap) (.slice ar rs.length cr) wr ∧ Below A w wr) := fun wr hb => ⟨hS.out.keep hb, hHB.out.trans (hb.mono (Nat.le_of_lt hlt.out))⟩
  go_loopw [5] (fun i wr => ∃ k : Nat, 1 ≤ k ∧ k ≤ l.length ∧ i = .int .i64 k ∧ Hid (riseN l k = true) ∧ Hid (Below W.heap.size W wr)) (fun i _ => l.length - (intOf i).toNat)
  case atStart => exact ⟨1, Nat.le_refl _, by omega, rfl, rfl, below_drewN (Below.refl _ _) _⟩
  case round =>
    obtain ⟨k, h1, hk, rfl, hr, hb⟩ := hrel
    obtain ⟨⟨k0, k1, k2, k3, k4⟩, hbA⟩ := HSA.out wr hb.out
    have HBA := Lib.hid hbA
    clear hbA
    by_cases hlt1 : k < l.length
    · obtain ⟨b, o, u, x, c, rfl, rfl, hcell⟩ := HC.out k hlt1
      obtain ⟨b', o', u', x', c', hbo, rfl, hcell'⟩ := HC.out (k - 1) (by omega)
      simp only [Option.some.injEq, Addr.mk.injEq] at hbo
      obtain ⟨rfl, rfl, hz⟩ := hbo
      obtain ⟨c1, hz1, hz2⟩ := hcell wr HBA
      obtain ⟨c2, hz3, hz4⟩ := hcell' wr HBA
      clear hz hz1 hz2 hz3 hz4
      have HR1 : Hid (riseN l (k + 1) = decide ((l.getD (k - 1) (0, 0)).1 < (l.getD k (0, 0)).1)) := by
        show riseN l (k + 1) = _
        unfold riseN
        rw [hr.out, show (k == 0) = false from beq_eq_false_iff_ne.2 (by omega)]
        simp
      have HNO : Hid ((l.getD k (0, 0)).1 ≤ (l.getD (k - 1) (0, 0)).1 → okA last tm l = false) := fun hx => rise_no (k := k - 1) (by omega) (by rw [show k - 1 + 1 = k by omega]; exact hx)
      have hkz : ((k : Int) - 1) = ((k - 1 : Nat) : Int) := by omega
      generalize (l.getD k (0, 0)).1 = p1 at *
      generalize (l.getD (k - 1) (0, 0)).1 = p2 at *
      have hkl : ((k - 1 : Nat) : Int) < (l.length : Int) := by omega
      generalize k - 1 = j at *
      have hwr : IntKind.i64.wrap (j : Int) = (j : Int) := IntWalk.i64_in _ (by omega)
      have hlt2 : (k : Int) < (l.length : Int) := by omega
      clear HC HRD hcell hcell' HSA
      by_cases hp : p1 ≤ p2
      · have hno := Lib.hid (HNO.out hp)
        clear HR1 HNO
        go_wp2
        go_quiet (fail)
        go_wp2
        go_ret
        exact ⟨⟨1, rfl⟩, HREF.out _ hno.out (below_drewN HBA.out _)⟩
      · have hd : decide (p1 ≤ p2) = false := decide_eq_false hp
        have hr2 : Hid (riseN l (k + 1) = true) := by
          have h5 := HR1.out
          rw [decide_eq_true (by omega)] at h5
          exact h5
        clear HR1 HNO
        go_wp2
        go_quiet (fail)
        go_wp2
        exact ⟨⟨k + 1, by omega, by omega, by go_num, hr2.out, below_drewN hb.out _⟩, by simp [intOf]; omega⟩
    obtain rfl : k = l.length := by omega
    go_wp2
    clear k0 k1 k2 k3 k4
    clear hk h1 hlt1
    have HRI := Lib.hid hr.out
    clear hr
    go_loopw [6] (fun i wr => ∃ k : Nat, k ≤ l.length ∧ i = .int .i64 k ∧ Hid (∀ j, j < k → 0 ≤ (l.getD j (0, 0)).1 ∧ (l.getD j (0, 0)).1 < 30) ∧ Hid (Below W.heap.size W wr)) (fun i _ => l.length - (intOf i).toNat)
    case atStart => exact ⟨0, Nat.zero_le _, rfl, fun j hj => absurd hj (Nat.not_lt_zero _), hb⟩
    case round =>
      clear hb HBA
      obtain ⟨k, hk, rfl, hr, hb⟩ := hrel
      obtain ⟨⟨k0, k1, k2, k3, k4⟩, hbA⟩ := HSA.out wr hb.out
      have HBA := Lib.hid hbA
      clear hbA
      by_cases hlt1 : k < l.length
      · obtain ⟨b, o, u, x, c, rfl, rfl, hcell⟩ := HC.out k hlt1
        obtain ⟨c1, hz1, hz2⟩ := hcell wr HBA
        clear hz1 hz2
        have HNO : Hid (¬ (0 ≤ (l.getD k (0, 0)).1 ∧ (l.getD k (0, 0)).1 < 30) → okA last tm l = false) := fun hx => by
          cases hq : okA last tm l
          · rfl
          · exact absurd ((okA_in hq).1 k hlt1) hx
        have HYES : Hid (0 ≤ (l.getD k (0, 0)).1 ∧ (l.getD k (0, 0)).1 < 30 → ∀ j, j < k + 1 → 0 ≤ (l.getD j (0, 0)).1 ∧ (l.getD j (0, 0)).1 < 30) := fun hx j hj => by
          rcases Nat.lt_or_ge j k with h' | h'
          · exact hr.out j h'
          · obtain rfl : j = k := by omega
            exact hx
        generalize (l.getD k (0, 0)).1 = p1 at *
        have hlt2 : (k : Int) < (l.length : Int) := by omega
        clear HC HRD hcell HSA hr HRI
        by_cases hp0 : p1 < 0
        · have hno := Lib.hid (HNO.out (by omega))
          have hd : decide (p1 < 0) = true := decide_eq_true hp0
          clear HNO HYES
          go_wp2
          go_quiet (fail)
          go_wp2
          go_ret
          exact ⟨⟨2, rfl⟩, HREF.out _ hno.out (below_drewN HBA.out _)⟩
        by_cases hp1 : 30 ≤ p1
        · have hno := Lib.hid (HNO.out (by omega))
          have hd : decide (p1 < 0) = false := decide_eq_false hp0
          have hd2 : decide (30 ≤ p1) = true := decide_eq_true hp1
          clear HNO HYES
          go_wp2
          go_quiet (fail)
          go_wp2
          go_ret
          exact ⟨⟨2, rfl⟩, HREF.out _ hno.out (below_drewN HBA.out _)⟩
        have hd : decide (p1 < 0) = false := decide_eq_false hp0
        have hd2 : decide (30 ≤ p1) = false := decide_eq_false hp1
        have hyes := Lib.hid (HYES.out (by omega))
        clear HNO HYES
        go_wp2
        go_quiet (fail)
        go_wp2
        exact ⟨⟨k + 1, by omega, by go_num, hyes, below_drewN hb.out _⟩, by simp [intOf]; omega⟩
      obtain rfl : k = l.length := by omega
      go_wp2
      clear k0 k1 k2 k3 k4
      clear hk hlt1
      have HIN := Lib.hid hr.out
      clear hr
      go_loopw [7] (fun i wr => ∃ k : Nat, k ≤ l.length ∧ i = .int .i64 k ∧ Hid (∀ j, j < k → (l.getD j (0, 0)).2 = 40) ∧ Hid (Below W.heap.size W wr)) (fun i _ => l.length - (intOf i).toNat)
      case atStart => exact ⟨0, Nat.zero_le _, rfl, fun j hj => absurd hj (Nat.not_lt_zero _), hb⟩
      case round =>
        clear hb HBA
        obtain ⟨k, hk, rfl, hr, hb⟩ := hrel
        obtain ⟨⟨k0, k1, k2, k3, k4⟩, hbA⟩ := HSA.out wr hb.out
        have HBA := Lib.hid hbA
        clear hbA
        by_cases hlt1 : k < l.length
        · obtain ⟨b, o, u, x, c, rfl, rfl, hcell⟩ := HC.out k hlt1
          obtain ⟨hz1, c1, hz2⟩ := hcell wr HBA
          clear hz1 hz2
          have HNO : Hid (¬ (l.getD k (0, 0)).2 = 40 → okA last tm l = false) := fun hx => by
            cases hq : okA last tm l
            · rfl
            · exact absurd ((okA_in hq).2 k hlt1) hx
          have HYES : Hid ((l.getD k (0, 0)).2 = 40 → ∀ j, j < k + 1 → (l.getD j (0, 0)).2 = 40) := fun hx j hj => by
            rcases Nat.lt_or_ge j k with h' | h'
            · exact hr.out j h'
            · obtain rfl : j = k := by omega
              exact hx
          generalize (l.getD k (0, 0)).2 = m1 at *
          have hlt2 : (k : Int) < (l.length : Int) := by omega
          clear HC HRD hcell HSA hr HRI HIN
          by_cases hm : m1 = 40
          · have hyes := Lib.hid (HYES.out hm)
            have hd : ((m1 : Int) != 40) = false := by rw [hm]; rfl
            clear HNO HYES hm
            go_wp2
            exact ⟨⟨k + 1, by omega, by go_num, hyes, hb⟩, by simp [intOf]; omega⟩
          · have hno := Lib.hid (HNO.out hm)
            have hd : ((m1 : Int) != 40) = true := bne_iff_ne.2 (by omega)
            clear HNO HYES hm
            go_wp2
            go_ret
            exact ⟨⟨3, rfl⟩, HREF.out _ hno.out HBA.out⟩
        obtain rfl : k = l.length := by omega
        clear hk hlt1
        have HOK : Hid (okA last tm l = true) := okA_mk HTM.out.1 HTM.out.2 HRI.out (by omega) HIN.out hr.out
        have H40 := Lib.hid hr.out
        have hsh := ok_short HOK.out
        clear hr HRI HIN HTM
        go_wp2
        clear k0 k1 k2 k3 k4 HREF HBA
        go_loopw [8, 9, 10] (fun vo kv iv wm => ∃ (i k : Nat) (v1 : Value) (os : List Rv), i ≤ rs.length + 1 ∧ k ≤ l.length ∧ vo = v1 ∧ kv = .int .i64 k ∧ iv = .int .i64 i ∧ Hid (MgS tm L (lbs l) i k os) ∧ Hid (OwnV wm W.heap.size v1 os) ∧ Hid (Below W.heap.size W wm)) (fun _ _ iv _ => rs.length + 1 - (intOf iv).toNat)
        case atStart => exact ⟨0, 0, _, [], by omega, by omega, rfl, rfl, rfl, MgS.start _ _ _, World.ownsRow_nil _ _ _ 3, hb⟩
        case round =>
          clear hb
          obtain ⟨i, k, v1, os, hi, hk, rfl, rfl, rfl, hmg, ho, hb⟩ := hrel
          obtain ⟨⟨k0, k1, k2, k3, k4⟩, hz⟩ := HSA.out wr hb.out
          clear hz
          by_cases hi2 : i ≤ rs.length
          · have hi3 : (i : Int) ≤ (rs.length : Int) := by omega
            go_wp2
            clear k0 k1 k2 k3 k4
            go_loopw [8, 9] (fun vo kv wx => ∃ (k : Nat) (v1 : Value) (os : List Rv), k ≤ l.length ∧ vo = v1 ∧ kv = .int .i64 k ∧ Hid (MgS tm L (lbs l) i k os) ∧ Hid (OwnV wx W.heap.size v1 os) ∧ Hid (Below W.heap.size W wx)) (fun _ kv _ => l.length - (intOf kv).toNat)
            case atStart => exact ⟨k, _, os, hk, rfl, rfl, hmg, ho, hb⟩
            case round =>
              clear hmg ho hb hk
              obtain ⟨k, v1, os, hk, rfl, rfl, hmg, ho, hb⟩ := hrel
              obtain ⟨⟨k0, k1, k2, k3, k4⟩, hbA⟩ := HSA.out wr hb.out
              have hosl := hmg.out.len
              rw [show (lbs l).length = l.length by simp [lbs]] at hosl
              by_cases hkl : k < l.length
              · obtain ⟨b, o, u, x, c, rfl, rfl, hcell⟩ := HC.out k hkl
                have HPT : Hid (∀ w', Below W.heap.size W w' → w'.cell? ⟨A, 0, none⟩ = some (.int .i64 tm) ∧ w'.cell? ⟨A, 1, none⟩ = some (.slice (some ⟨b, o, none⟩) l.length cap) ∧ w'.cell? ⟨b, o + k * 2, none⟩ = some (.int .i64 (l.getD k (0, 0)).1) ∧ w'.cell? ⟨b, o + k * 2 + 1, none⟩ = some (.slice x (l.getD k (0, 0)).2 c)) := fun w' hb' =>
                  ⟨(HSA.out w' hb').1.1, (HSA.out w' hb').1.2.1, (hcell w' (HSA.out w' hb').2).1, (hcell w' (HSA.out w' hb').2).2.1⟩
                have HDB : Hid (∀ w', Below W.heap.size W w' → SlB w' (.slice x (l.getD k (0, 0)).2 c) (l.getD k (0, 0)).2) := fun w' hb' => (hcell w' (HSA.out w' hb').2).2.2
                obtain ⟨c1, hz1, hz2⟩ := hcell wr hbA
                have hk3 : (k : Int) < (l.length : Int) := by omega
                clear hz1 hz2 hcell hbA
                by_cases hin : i < rs.length
                · obtain ⟨g, y, d, hy, ⟨ad, nd, cd, rfl⟩, rfl, hcy⟩ := HRD.out i hin
                  obtain ⟨y0, y1, y2⟩ := hcy wr (HSA.out wr hb.out).2
                  have hin3 : (i : Int) < (rs.length : Int) := by omega
                  have hie : ((i : Int) == (rs.length : Int)) = false := beq_eq_false_iff_ne.2 (by omega)
                  by_cases hlt3 : (l.getD k (0, 0)).1 < y.1
                  · have hd : decide ((l.getD k (0, 0)).1 < y.1) = true := decide_eq_true hlt3
                    have hmg2 := fun d hd => MgS.put hmg.out (by omega) (lbs_get hkl) (fun x hx => by rw [hy] at hx; obtain rfl := Option.some.inj hx; exact hlt3) d hd
                    have HMG := Lib.hid hmg2
                    have H401 := H40.out k hkl
                    rw [H401] at HPT HDB
                    clear hmg2 HRD hmg H401
                    generalize (l.getD k (0, 0)).1 = p1 at *
                    go_wp2
                    go_quiet (fail)
                    have HB0 : Hid (Below W.heap.size W (wr.drewN nq)) := below_drewN hb.out _
                    have HO0 : Hid (OwnV (wr.drewN nq) W.heap.size u8 os) := ownsRow_keep ho.out (fun g _ => rfl)
                    clear hb ho k0 k1 k2 k3 k4 c1 hy hcy y0 y1 y2
                    go_wp2
                    generalize wr.drewN nq = w0 at *
                    obtain ⟨news, hsrc, hnl, hnu⟩ := (HDB.out w0 HB0.out).src
                    have HSRC : Hid (∀ w', Below w0.heap.size w0 w' → Src w' (.slice x 40 c) 40 news) := fun w' hb' => hsrc.below hb'
                    have HNL := Lib.hid hnl
                    have HNU : Hid (∀ u ∈ news, u.oneCell' = true) := fun u hm => by obtain ⟨q, rfl⟩ := hnu u hm; rfl
                    have HS0 : Hid (W.heap.size ≤ w0.heap.size) := HB0.out.size
                    clear hsrc hnl hnu HDB
                    have HKP : Hid (Below W.heap.size W (w0.alloc (.cells #[] 5))) := HB0.out.alloc HS0.out _
                    go_region_held3 (fun w' => w'.cell? ⟨A, 0, none⟩ = some (.int .i64 tm) ∧ w'.cell? ⟨A, 1, none⟩ = some (.slice (some ⟨b, o, none⟩) l.length cap) ∧ w'.cell? ⟨b, o + k * 2, none⟩ = some (.int .i64 p1) ∧ w'.cell? ⟨b, o + k * 2 + 1, none⟩ = some (.slice x 40 c))
                      (first
                        | exact HPT.out _ ⟨HB0.out.os, HB0.out.tape, HB0.out.output, HB0.out.size, HB0.out.block⟩
                        | exact HPT.out _ ⟨HKP.out.os, HKP.out.tape, HKP.out.output, HKP.out.size, HKP.out.block⟩
                        | exact HPT.out _ HB2.out
                        | exact HPT.out _ (HB2.out.alloc HS2.out _)
                        | exact HPT.out _ HB4.out
                        | fail)
                      (first
                        | (refine step_appG rfl (.tmp 139) (.tmp 145) w0.heap.size 43 5 (.int .u8 0) 1 1 rfl Try.underlying43 infoB rfl (by decide) (.slice (some ⟨w0.heap.size, 0, none⟩) 0 0) 0 [] (by simp [Act.eval]) (ownsRow_empty (by exact heap_alloc_new w0 _) (Nat.le_refl _)) (.slice x 40 c) 40 news (by simp [Act.eval])
                             (HSRC.out _ (by first | exact ((Below.refl _ _).alloc (Nat.le_refl _) _).drew | exact ((Below.refl _ _).drew.alloc (Nat.le_refl _) _) | exact ((Below.refl _ _).alloc (Nat.le_refl _) _))) HNL.out HNU.out (by omega) (by unfold maxLen; omega) (by simp) ?_
                           intro v2 w2 ho2 hg2 hat2
                           obtain ⟨a2, c2, rfl⟩ := ownsRow_form ho2
                           have HB2 : Hid (Below W.heap.size W w2) := HKP.out.grown ⟨hg2.os, hg2.tape, hg2.output, hg2.size, hg2.block⟩ HKP.out.size (fun q hq => by have : w0.heap.size = q := Option.some.inj hq; have := HS0.out; omega)
                           have HS2 : Hid (W.heap.size ≤ w2.heap.size) := HB2.out.size
                           have HO2 : Hid (OwnV w2 W.heap.size u8 os) := ownsRow_keep HO0.out (fun q hq => by
                             have h1 := ownsRow_lt HO0.out hq
                             rw [hg2.block q (by simp; omega) (fun e => by have : q = w0.heap.size := Option.some.inj e; omega)]
                             exact heap_alloc_old w0 _ h1)
                           clear ho2 hg2 hat2)
                        | (refine step_appG rfl (.tmp 130) (.tmp 148) W.heap.size 95 99 (.agg #[.int .i64 0, .int .i64 0, .slice none 0 0]) 3 40 rfl Try.underlying95 infoRv rfl (by decide) u8 os.length (flatR os) (by simp [Act.eval])
                             (ownsRow_after HO2.out (by first | exact ((Below.refl _ _).alloc (Nat.le_refl _) _).drew | exact ((Below.refl _ _).drew.alloc (Nat.le_refl _) _) | exact ((Below.refl _ _).alloc (Nat.le_refl _) _))) _ 1 [.int .i64 p1, .int .i64 tm, .slice a2 40 c2] (by simp [Act.eval]) (Src.new w2 [.int .i64 p1, .int .i64 tm, .slice a2 40 c2] 99 1) rfl
                             (by intro u hu; simp at hu; rcases hu with rfl | rfl | rfl <;> rfl) (by omega) (by unfold maxLen; omega) (by have := HS2.out; simp; omega) ?_
                           intro v4 w4 ho4 hg4 hat4
                           have HB4 : Hid (Below W.heap.size W w4) := below_own (ownsRow_after HO2.out ((Below.refl _ _).alloc (Nat.le_refl _) _)) ⟨hg4.os, hg4.tape, hg4.output, hg4.size, hg4.block⟩ (HB2.out.alloc HS2.out _) (Nat.le_refl _) (by have := HS2.out; simp; omega)
                           have HO4 : Hid (OwnV w4 W.heap.size v4 (os ++ [((p1, tm), .slice a2 40 c2)])) := by
                             show w4.ownsRow _ _ _ _ _ _
                             rw [flatR_app, List.length_append]
                             exact ho4
                           clear ho4 hg4 hat4)
                        | fail)
                    all_goals
                      rename_i hheld
                      clear hheld
                      go_wp2
                      exact ⟨⟨k + 1, _, _, by omega, rfl, by go_num, HMG.out _ ⟨_, _, _, rfl⟩, HO4, HB4⟩, by simp [intOf]; omega⟩
                  · have hd : decide ((l.getD k (0, 0)).1 < y.1) = false := decide_eq_false hlt3
                    have HMG : Hid (MgS tm L (lbs l) (i + 1) k (os ++ [(y, .slice ad nd cd)])) := MgS.old hmg.out hy (fun p hp => by rw [lbs_get hkl] at hp; obtain rfl := Option.some.inj hp; exact hlt3) _ ⟨_, _, _, rfl⟩
                    obtain ⟨ya, yb⟩ := y
                    clear HPT HDB
                    generalize (l.getD k (0, 0)).1 = p1 at *
                    clear HRD hmg hy hcy
                    go_wp2
                    go_quiet (fail)
                    have HB0 : Hid (Below W.heap.size W (wr.drewN nq)) := below_drewN hb.out _
                    have HO0 : Hid (OwnV (wr.drewN nq) W.heap.size u8 os) := ownsRow_keep ho.out (fun g _ => rfl)
                    have HS0 : Hid (W.heap.size ≤ (wr.drewN nq).heap.size) := HB0.out.size
                    clear hb ho
                    go_wp2_with (first
                      | (at_builtin; refine wpList_appG rfl _ _ W.heap.size 95 99 (.agg #[.int .i64 0, .int .i64 0, .slice none 0 0]) 3 40 rfl Try.underlying95 infoRv rfl (by decide) u8 os.length (flatR os) rfl
                           (ownsRow_after HO0.out ((Below.refl _ _).alloc (Nat.le_refl _) _)) _ 1 [.int .i64 ya, .int .i64 yb, .slice ad nd cd] rfl (Src.new' _ _ _ 1 _ rfl) rfl
                           (by intro u hu; simp at hu; rcases hu with rfl | rfl | rfl <;> rfl) (by omega) (by unfold maxLen; omega) (Nat.le_trans HS0.out ((Below.refl _ _).alloc (Nat.le_refl _) _).size) ?_
                         intro v4 w4 ho4 hg4 hat4
                         have HB4 : Hid (Below W.heap.size W w4) := below_own (ownsRow_after HO0.out ((Below.refl _ _).alloc (Nat.le_refl _) _)) hg4 (HB0.out.alloc HS0.out _) (Nat.le_refl _) (Nat.le_trans HS0.out ((Below.refl _ _).alloc (Nat.le_refl _) _).size)
                         have HO4 : Hid (OwnV w4 W.heap.size v4 (os ++ [((ya, yb), .slice ad nd cd)])) := by
                           show w4.ownsRow _ _ _ _ _ _
                           rw [flatR_app, List.length_append]
                           exact ho4
                         clear ho4 hg4 hat4)
                      | fail)
                    exact ⟨⟨i + 1, k, _, _, by omega, by omega, rfl, rfl, by go_num, HMG, HO4, HB4⟩, by simp [intOf]; omega⟩
                · have hie : ((i : Int) == (rs.length : Int)) = true := beq_iff_eq.2 (by omega)
                  have hmg2 := fun d hd => MgS.put hmg.out (by omega) (lbs_get hkl) (fun x hx => by rw [List.getElem?_eq_none (by omega)] at hx; cases hx) d hd
                  have HMG := Lib.hid hmg2
                  have H401 := H40.out k hkl
                  rw [H401] at HPT HDB
                  clear hmg2 HRD hmg H401
                  generalize (l.getD k (0, 0)).1 = p1 at *
                  go_wp2
                  go_quiet (fail)
                  have HB0 : Hid (Below W.heap.size W (wr.drewN nq)) := below_drewN hb.out _
                  have HO0 : Hid (OwnV (wr.drewN nq) W.heap.size u8 os) := ownsRow_keep ho.out (fun g _ => rfl)
                  clear hb ho k0 k1 k2 k3 k4 c1 
                  go_wp2
                  generalize wr.drewN nq = w0 at *
                  obtain ⟨news, hsrc, hnl, hnu⟩ := (HDB.out w0 HB0.out).src
                  have HSRC : Hid (∀ w', Below w0.heap.size w0 w' → Src w' (.slice x 40 c) 40 news) := fun w' hb' => hsrc.below hb'
                  have HNL := Lib.hid hnl
                  have HNU : Hid (∀ u ∈ news, u.oneCell' = true) := fun u hm => by obtain ⟨q, rfl⟩ := hnu u hm; rfl
                  have HS0 : Hid (W.heap.size ≤ w0.heap.size) := HB0.out.size
                  clear hsrc hnl hnu HDB
                  have HKP : Hid (Below W.heap.size W (w0.alloc (.cells #[] 5))) := HB0.out.alloc HS0.out _
                  go_region_held3 (fun w' => w'.cell? ⟨A, 0, none⟩ = some (.int .i64 tm) ∧ w'.cell? ⟨A, 1, none⟩ = some (.slice (some ⟨b, o, none⟩) l.length cap) ∧ w'.cell? ⟨b, o + k * 2, none⟩ = some (.int .i64 p1) ∧ w'.cell? ⟨b, o + k * 2 + 1, none⟩ = some (.slice x 40 c))
                    (first
                      | exact HPT.out _ ⟨HB0.out.os, HB0.out.tape, HB0.out.output, HB0.out.size, HB0.out.block⟩
                      | exact HPT.out _ ⟨HKP.out.os, HKP.out.tape, HKP.out.output, HKP.out.size, HKP.out.block⟩
                      | exact HPT.out _ HB2.out
                      | exact HPT.out _ (HB2.out.alloc HS2.out _)
                      | exact HPT.out _ HB4.out
                        | fail)
                    (first
                      | (refine step_appG rfl (.tmp 139) (.tmp 145) w0.heap.size 43 5 (.int .u8 0) 1 1 rfl Try.underlying43 infoB rfl (by decide) (.slice (some ⟨w0.heap.size, 0, none⟩) 0 0) 0 [] (by simp [Act.eval]) (ownsRow_empty (by exact heap_alloc_new w0 _) (Nat.le_refl _)) (.slice x 40 c) 40 news (by simp [Act.eval])
                           (HSRC.out _ (by first | exact ((Below.refl _ _).alloc (Nat.le_refl _) _).drew | exact ((Below.refl _ _).drew.alloc (Nat.le_refl _) _) | exact ((Below.refl _ _).alloc (Nat.le_refl _) _))) HNL.out HNU.out (by omega) (by unfold maxLen; omega) (by simp) ?_
                         intro v2 w2 ho2 hg2 hat2
                         obtain ⟨a2, c2, rfl⟩ := ownsRow_form ho2
                         have HB2 : Hid (Below W.heap.size W w2) := HKP.out.grown ⟨hg2.os, hg2.tape, hg2.output, hg2.size, hg2.block⟩ HKP.out.size (fun q hq => by have : w0.heap.size = q := Option.some.inj hq; have := HS0.out; omega)
                         have HS2 : Hid (W.heap.size ≤ w2.heap.size) := HB2.out.size
                         have HO2 : Hid (OwnV w2 W.heap.size u8 os) := ownsRow_keep HO0.out (fun q hq => by
                           have h1 := ownsRow_lt HO0.out hq
                           rw [hg2.block q (by simp; omega) (fun e => by have : q = w0.heap.size := Option.some.inj e; omega)]
                           exact heap_alloc_old w0 _ h1)
                         clear ho2 hg2 hat2)
                      | (refine step_appG rfl (.tmp 130) (.tmp 148) W.heap.size 95 99 (.agg #[.int .i64 0, .int .i64 0, .slice none 0 0]) 3 40 rfl Try.underlying95 infoRv rfl (by decide) u8 os.length (flatR os) (by simp [Act.eval])
                           (ownsRow_after HO2.out (by first | exact ((Below.refl _ _).alloc (Nat.le_refl _) _).drew | exact ((Below.refl _ _).drew.alloc (Nat.le_refl _) _) | exact ((Below.refl _ _).alloc (Nat.le_refl _) _))) _ 1 [.int .i64 p1, .int .i64 tm, .slice a2 40 c2] (by simp [Act.eval]) (Src.new w2 [.int .i64 p1, .int .i64 tm, .slice a2 40 c2] 99 1) rfl
                           (by intro u hu; simp at hu; rcases hu with rfl | rfl | rfl <;> rfl) (by omega) (by unfold maxLen; omega) (by have := HS2.out; simp; omega) ?_
                         intro v4 w4 ho4 hg4 hat4
                         have HB4 : Hid (Below W.heap.size W w4) := below_own (ownsRow_after HO2.out ((Below.refl _ _).alloc (Nat.le_refl _) _)) ⟨hg4.os, hg4.tape, hg4.output, hg4.size, hg4.block⟩ (HB2.out.alloc HS2.out _) (Nat.le_refl _) (by have := HS2.out; simp; omega)
                         have HO4 : Hid (OwnV w4 W.heap.size v4 (os ++ [((p1, tm), .slice a2 40 c2)])) := by
                           show w4.ownsRow _ _ _ _ _ _
                           rw [flatR_app, List.length_append]
                           exact ho4
                         clear ho4 hg4 hat4)
                        | fail)
                  all_goals
                    rename_i hheld
                    clear hheld
                    go_wp2
                    exact ⟨⟨k + 1, _, _, by omega, rfl, by go_num, HMG.out _ ⟨_, _, _, rfl⟩, HO4, HB4⟩, by simp [intOf]; omega⟩
              · by_cases hin : i < rs.length
                · obtain ⟨g, y, d, hy, ⟨ad, nd, cd, rfl⟩, rfl, hcy⟩ := HRD.out i hin
                  obtain ⟨y0, y1, y2⟩ := hcy wr (HSA.out wr hb.out).2
                  have hin3 : (i : Int) < (rs.length : Int) := by omega
                  clear hbA
                  have HMG : Hid (MgS tm L (lbs l) (i + 1) k (os ++ [(y, .slice ad nd cd)])) := MgS.old hmg.out hy (fun p hp => by rw [List.getElem?_eq_none (by simp [lbs]; omega)] at hp; cases hp) _ ⟨_, _, _, rfl⟩
                  obtain ⟨ya, yb⟩ := y
                  skip
                  clear HRD hmg hy hcy
                  go_wp2
                  go_quiet (fail)
                  have HB0 : Hid (Below W.heap.size W (wr.drewN nq)) := below_drewN hb.out _
                  have HO0 : Hid (OwnV (wr.drewN nq) W.heap.size u8 os) := ownsRow_keep ho.out (fun g _ => rfl)
                  have HS0 : Hid (W.heap.size ≤ (wr.drewN nq).heap.size) := HB0.out.size
                  clear hb ho
                  go_wp2_with (first
                    | (at_builtin; refine wpList_appG rfl _ _ W.heap.size 95 99 (.agg #[.int .i64 0, .int .i64 0, .slice none 0 0]) 3 40 rfl Try.underlying95 infoRv rfl (by decide) u8 os.length (flatR os) rfl
                         (ownsRow_after HO0.out ((Below.refl _ _).alloc (Nat.le_refl _) _)) _ 1 [.int .i64 ya, .int .i64 yb, .slice ad nd cd] rfl (Src.new' _ _ _ 1 _ rfl) rfl
                         (by intro u hu; simp at hu; rcases hu with rfl | rfl | rfl <;> rfl) (by omega) (by unfold maxLen; omega) (Nat.le_trans HS0.out ((Below.refl _ _).alloc (Nat.le_refl _) _).size) ?_
                       intro v4 w4 ho4 hg4 hat4
                       have HB4 : Hid (Below W.heap.size W w4) := below_own (ownsRow_after HO0.out ((Below.refl _ _).alloc (Nat.le_refl _) _)) hg4 (HB0.out.alloc HS0.out _) (Nat.le_refl _) (Nat.le_trans HS0.out ((Below.refl _ _).alloc (Nat.le_refl _) _).size)
                       have HO4 : Hid (OwnV w4 W.heap.size v4 (os ++ [((ya, yb), .slice ad nd cd)])) := by
                         show w4.ownsRow _ _ _ _ _ _
                         rw [flatR_app, List.length_append]
                         exact ho4
                       clear ho4 hg4 hat4)
                    | fail)
                  exact ⟨⟨i + 1, k, _, _, by omega, by omega, rfl, rfl, by go_num, HMG, HO4, HB4⟩, by simp [intOf]; omega⟩
                · obtain rfl : i = rs.length := by omega
                  have HMG : Hid (MgS tm L (lbs l) (rs.length + 1) k os) := by
                    have h5 := hmg.out
                    rw [← hLl] at h5 ⊢
                    exact MgS.last h5 (by simp [lbs]; omega)
                  clear HRD hmg hbA
                  go_wp2
                  go_quiet (fail)
                  have HB0 : Hid (Below W.heap.size W (wr.drewN nq)) := below_drewN hb.out _
                  have HO0 : Hid (OwnV (wr.drewN nq) W.heap.size u8 os) := ownsRow_keep ho.out (fun g _ => rfl)
                  clear hb ho
                  go_wp2
                  exact ⟨⟨rs.length + 1, k, _, os, by omega, by omega, rfl, rfl, by go_num, HMG, HO0, HB0⟩, by simp [intOf]⟩
          · obtain rfl : i = rs.length + 1 := by omega
            obtain ⟨a8, c8, rfl⟩ := ownsRow_form ho.out
            have HMD : Hid (os.map (·.1) = mrg tm L (lbs l)) := by
              have h5 := hmg.out
              rw [← hLl] at h5
              exact h5.done
            have hmone := hmg.out.2.1
            have hbw := HSA.out wr hb.out
            have hp0 : ∃ v0, w.heap[p]? = some (Obj.cells #[.int .i64 30, v0, .int .i64 last] 97 (0, 0)) := by obtain ⟨_, _, v0, h5, _⟩ := HRM.out; exact ⟨v0, h5⟩
            obtain ⟨v0, hp0⟩ := hp0
            have hpA : p < A := by rw [← HA.out]; exact (Array.getElem?_eq_some_iff.1 hp0).1
            have hp : wr.heap[p]? = some (Obj.cells #[.int .i64 30, v0, .int .i64 last] 97 (0, 0)) := (hbw.2.block p hpA).trans hp0
            have e0 : wr.frozen? ⟨p, 1, none⟩ = false := by simp [World.frozen?, hp]
            have a1 : (wr.setCell ⟨p, 1, none⟩ (.slice a8 os.length c8)).heap[p]? = some (Obj.cells #[.int .i64 30, .slice a8 os.length c8, .int .i64 last] 97 (0, 0)) := by
              show (wr.heap.modify p _)[p]? = _
              rw [Array.getElem?_modify, if_pos rfl, hp]
              rfl
            have e1 : (wr.setCell ⟨p, 1, none⟩ (.slice a8 os.length c8)).frozen? ⟨p, 2, none⟩ = false := by simp [World.frozen?, a1]
            have e2 : (wr.setCell ⟨p, 1, none⟩ (.slice a8 os.length c8)).cell? ⟨p, 2, none⟩ = some (.int .i64 last) := cell_of a1 rfl
            have e3 : (wr.setCell ⟨p, 1, none⟩ (.slice a8 os.length c8)).cell? ⟨A, 0, none⟩ = some (.int .i64 tm) := by
              have h5 := (hS.out.keep hb.out).1
              unfold World.cell? at h5 ⊢
              rw [heap_setCell_other wr ⟨p, 1, none⟩ A (.slice a8 os.length c8) (Nat.ne_of_gt hpA)]
              exact h5
            have HF : Hid (Rm ((wr.setCell ⟨p, 1, none⟩ (.slice a8 os.length c8)).setCell ⟨p, 2, none⟩ (.int .i64 tm)) B p (apR last tm l L) (apL last tm l) (n + 30) ∧ KeepR p w ((wr.setCell ⟨p, 1, none⟩ (.slice a8 os.length c8)).setCell ⟨p, 2, none⟩ (.int .i64 tm)) ∧ Below B w ((wr.setCell ⟨p, 1, none⟩ (.slice a8 os.length c8)).setCell ⟨p, 2, none⟩ (.int .i64 tm))) := by
              have q1 : apR last tm l L = mrg tm L (lbs l) := by unfold apR; rw [if_pos HOK.out]
              have q2 : apL last tm l = tm := by unfold apL; rw [if_pos HOK.out]
              rw [q1, q2]
              refine Rm.set HRM.out (by rw [HA.out]; exact hbw.2) (by rw [HA.out]; exact HBB.out) tm (ownsRow_mono ho.out (by rw [HA.out]; exact Nat.le_of_lt hlt.out)) HMD.out hmone ?_
              rw [mrg_len tm _ _ _ rfl]
              simp only [lbs, List.length_map]
              omega
            clear hmg ho hb hmone hbw hp0 hp a1 HRM HRD HC HSA hS HMD
            go_wp2
            go_ret
            exact ⟨⟨0, rfl⟩, HF.out⟩
end Go.Proofs.Ytkpnjehgbehhcaa
