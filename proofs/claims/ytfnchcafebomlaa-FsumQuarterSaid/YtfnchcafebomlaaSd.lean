/- The walk of Dot: sums of products. -/
import Derived.Test.YtfnchcafebomlaaSwc
import Derived.Test.YtfnchcafebomlaaAppF
import Derived.Deep.RegionLaw
import Derived.RegionTactic
namespace Fl
open Go
/-- the products of two lists -/
def prods (l r : List Nat) : List Nat := List.zipWith fmul l r
theorem prods_len {l r : List Nat} (h : l.length = r.length) : (prods l r).length = l.length := by unfold prods; rw [List.length_zipWith, h, Nat.min_self]
theorem prods_canon (l r : List Nat) : (prods l r).map canon = prods l r := by
  unfold prods; rw [List.map_zipWith]; congr 1; funext x y; exact canon_fmul x y
theorem prods_succ {l r ys : List Nat} {k z : Nat} (hl : k < l.length) (hr : k < r.length) (h : ys.map canon = (prods l r).take k) (hz : canon z = fmul l[k] r[k]) :
    (ys ++ [z]).map canon = (prods l r).take (k + 1) := by
  have hk : k < (prods l r).length := by unfold prods; rw [List.length_zipWith]; omega
  rw [List.take_succ_eq_append_getElem hk, List.map_append, h]
  congr 1
  show [canon z] = _
  rw [hz, show (prods l r)[k] = fmul l[k] r[k] from List.getElem_zipWith]
theorem lt_snoc {ys : List Nat} {z : Nat} (h : ∀ y ∈ ys, y < 2^64) (hz : z < 2^64) : ∀ y ∈ ys ++ [z], y < 2^64 := fun y hy => by
  rcases List.mem_append.1 hy with h1 | h1
  · exact h y h1
  · rw [List.mem_singleton.1 h1]; exact hz
theorem take_len_map {ys P : List Nat} {k : Nat} (h : ys.map canon = P.take k) (hk : k ≤ P.length) : ys.length = k := by
  have := congrArg List.length h
  rw [List.length_map, List.length_take] at this
  omega
end Fl
namespace Go.Proofs.Ytfnchcafebomlaa
open Go.RowKit Fl

/-- a float operation, run in any world: the word is told by its canonical form alone -/
theorem float_runs (op : BinOp) (hop : op = .add ∨ op = .sub ∨ op = .mul ∨ op = .quo) (t : TypeId) (x y : Nat) :
    ∃ (Z : World → Nat) (N : World → Nat), (∀ w, (Go.binOp op t (.float .f64 x) (.float .f64 y)).run Try.prog w = .ok (.float .f64 (Z w)) (w.drewN (N w))) ∧ ∀ w, canon (Z w) = fop op x y ∧ Z w < 2^64 :=
  ⟨fun w => (float_run (P := Try.prog) w op hop t x y).choose, fun w => (float_run (P := Try.prog) w op hop t x y).choose_spec.choose,
    fun w => (float_run (P := Try.prog) w op hop t x y).choose_spec.choose_spec.1, fun w => (float_run (P := Try.prog) w op hop t x y).choose_spec.choose_spec.2⟩

def dotV (l r : List Nat) : Nat := if l.length = r.length then sumF (prods l r) else 0
def dotE (l r : List Nat) : Int := if l.length = r.length then 0 else 1

set_option maxHeartbeats 400000 in
theorem dot_odd (a1 a2 : Option Addr) (n m c1 c2 : Nat) (h : n ≠ m) (w : World) :
    Calls Try.prog 18 #[.slice a1 n c1, .slice a2 m c2] w fun e w' => e = .returned (.tuple #[.float .f64 0, .int .i64 1]) ∧ w = w' := by
  have h' : ((n : Int) != (m : Int)) = true := by simp; omega
  go_enter Try.func18, Try.ntmps18
  go_wp2
  go_ret2
  exact ⟨rfl, rfl⟩

set_option maxHeartbeats 1600000 in
theorem dot_even (a1 a2 : Option Addr) (c1 c2 : Nat) (l r : List Nat) (hlr : l.length = r.length) (hl : l.length * 8 ≤ 140737488351232) (w : World)
    (hA : Hid (l = [] ∨ ∃ b o, a1 = some ⟨b, o, none⟩ ∧ b < w.heap.size ∧ ∀ i (h : i < l.length), w.cell? ⟨b, o + i, none⟩ = some (encF l[i])))
    (hB' : Hid (r = [] ∨ ∃ b o, a2 = some ⟨b, o, none⟩ ∧ b < w.heap.size ∧ ∀ i (h : i < r.length), w.cell? ⟨b, o + i, none⟩ = some (encF r[i]))) :
    Calls Try.prog 18 #[.slice a1 l.length c1, .slice a2 r.length c2] w fun e w' => e = .returned (.tuple #[.float .f64 (sumF (prods l r)), .int .i64 0]) ∧ Below w.heap.size w w' := by
  generalize hB : w.heap.size = B
  have HB := Lib.hid hB
  have HPL := Lib.hid (prods_len hlr)
  clear hB
  obtain ⟨n, hn⟩ : ∃ n, r.length = n := ⟨_, rfl⟩
  have hne : ((l.length : Int) != (n : Int)) = false := by simp; omega
  have HR := Lib.hid hn
  have HLR := Lib.hid hlr
  rw [hn]
  clear hn hlr
  go_enter Try.func18, Try.ntmps18
  go_wp2
  go_loopw [6, 7, 15] (fun v _ i wr => ∃ (k : Nat) (ys : List Nat) (v' : Value), v' = v ∧ k ≤ l.length ∧ i = .int .i64 k ∧ Hid (OwnF wr B v' ys) ∧ Hid (ys.map canon = (prods l r).take k ∧ ∀ y ∈ ys, y < 2^64) ∧ Hid (Below B w wr)) (fun _ _ i _ => l.length - (intOf i).toNat)
  case atStart => exact ⟨0, [], _, rfl, Nat.zero_le _, rfl, OwnF.nil _ _, ⟨by simp, by simp⟩, Below.refl _ _⟩
  case round =>
    obtain ⟨k, ys, v', rfl, hk, rfl, hown, hW, hbl⟩ := hrel
    have hB1 := Lib.hid (show B ≤ wr.heap.size from by rw [← HB.out]; exact hbl.out.size)
    have HYL : Hid (ys.length = k) := by show _ = _; exact take_len_map hW.out.1 (by rw [HPL.out]; exact hk)
    by_cases hlt : k < l.length
    · have hlr : k < r.length := by rw [← HLR.out]; exact hlt
      have hln : k < n := by rw [← HR.out]; exact hlr
      have hcell : ∃ b o, a1 = some ⟨b, o, none⟩ ∧ wr.cell? ⟨b, o + k, none⟩ = some (.float .f64 l[k]) := by
        obtain h0 | ⟨b, o, rfl, hb, hc⟩ := hA.out
        · exfalso; rw [h0] at hlt; simp at hlt
        · exact ⟨b, o, rfl, by rw [hbl.out.cell (p := ⟨b, o + k, none⟩) (by rw [← HB.out]; exact hb)]; exact hc k hlt⟩
      have hcell2 : ∃ b o, a2 = some ⟨b, o, none⟩ ∧ wr.cell? ⟨b, o + k, none⟩ = some (.float .f64 r[k]) := by
        obtain h0 | ⟨b, o, rfl, hb, hc⟩ := hB'.out
        · exfalso; rw [h0] at hlr; simp at hlr
        · exact ⟨b, o, rfl, by rw [hbl.out.cell (p := ⟨b, o + k, none⟩) (by rw [← HB.out]; exact hb)]; exact hc k hlr⟩
      obtain ⟨b, o, rfl, hc1⟩ := hcell
      obtain ⟨b2, o2, rfl, hc2⟩ := hcell2
      obtain ⟨Z, N, hrun, hZ⟩ := float_runs .mul (.inr (.inr (.inl rfl))) 25 l[k] r[k]
      have HZ : Hid (∀ w, canon (Z w) = fmul l[k] r[k] ∧ Z w < 2^64) := hZ
      clear hZ
      have HN : Hid (∀ w', (ys ++ [Z w']).map canon = (prods l r).take (k + 1) ∧ ∀ y ∈ ys ++ [Z w'], y < 2^64) := fun w' =>
        ⟨prods_succ hlt hlr hW.out.1 (HZ.out w').1, lt_snoc hW.out.2 (HZ.out w').2⟩
      clear hA hB'
      go_wp2_with fail
      go_region_law (
        (refine step_appF rfl (.tmp 18) (.tmp 28) rfl B v' ys (by simp [Act.eval]) (by first | exact ((hown.out.drewN _).alloc _)) _ _ (by simp [Act.eval]) (Sl.one encF _ _ _) (by rw [HYL.out]; simp; omega) (by simp; have := hB1.out; omega) ?_
         intro v1 w1 ho1 hg1
         have hb' : Hid (Below B w w1) := OwnF.below ((hown.out.drewN _).alloc _) hg1 ((below_drewN hbl.out _).alloc hB1.out _) (Nat.le_refl _) (by simp; have := hB1.out; omega)
         have HO1 := Lib.hid ho1
         clear ho1 hg1))
      all_goals
        go_wp2
        exact ⟨⟨k + 1, _, _, rfl, by omega, by go_num, HO1, HN.out _, hb'⟩, by simp [intOf]; omega⟩
    · have hkl : k = l.length := by omega
      have HS : Hid (sumF ys = sumF (prods l r)) := sumF_congr _ _ (by rw [hW.out.1, prods_canon, List.take_of_length_le (by rw [HPL.out]; omega)])
      have HS1 := Lib.hid (sum_any v' ys hW.out.2 wr (hown.out.sl (by rw [HYL.out]; omega)))
      rw [HS.out] at HS1
      clear HS hW hA hB'
      go_wp2_with (go_at_call 14; refine (HS1.out).mono ?_; rintro e w' ⟨rfl, n3, rfl⟩)
      go_ret2
      exact ⟨rfl, below_drewN hbl.out _⟩

theorem Sl.parts {w : World} {v : Value} {l : List Nat} (h : Sl encF w v l) : ∃ a cap, v = .slice a l.length cap ∧ Hid (l = [] ∨ ∃ b o, a = some ⟨b, o, none⟩ ∧ b < w.heap.size ∧ ∀ i (h : i < l.length), w.cell? ⟨b, o + i, none⟩ = some (encF l[i])) := by
  obtain ⟨a, cap, rfl, _, _, h⟩ := h
  exact ⟨a, cap, rfl, h⟩

theorem dot_any (v1 v2 : Value) (l r : List Nat) (hl : l.length * 8 ≤ 140737488351232) (w : World) (h1 : Sl encF w v1 l) (h2 : Sl encF w v2 r) :
    Calls Try.prog 18 #[v1, v2] w fun e w' => e = .returned (.tuple #[.float .f64 (dotV l r), .int .i64 (dotE l r)]) ∧ Below w.heap.size w w' := by
  obtain ⟨a1, c1, rfl, g1⟩ := h1.parts
  obtain ⟨a2, c2, rfl, g2⟩ := h2.parts
  by_cases h : l.length = r.length
  · have e1 : dotV l r = sumF (prods l r) := if_pos h
    have e2 : dotE l r = 0 := if_pos h
    rw [e1, e2]
    exact dot_even a1 a2 c1 c2 l r h hl w g1 g2
  · have e1 : dotV l r = 0 := if_neg h
    have e2 : dotE l r = 1 := if_neg h
    rw [e1, e2]
    refine (dot_odd a1 a2 _ _ c1 c2 h w).mono ?_
    rintro e w' ⟨rfl, rfl⟩
    exact ⟨rfl, Below.refl _ _⟩
end Go.Proofs.Ytfnchcafebomlaa
