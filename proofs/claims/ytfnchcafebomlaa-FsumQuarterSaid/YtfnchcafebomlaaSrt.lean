/- The walk of the program's Sort. -/
import Derived.Test.YtfnchcafebomlaaCw
import Derived.Test.YtfnchcafebomlaaSlay
import Derived.Test.YtfnchcafebomlaaAppF
import Derived.Lib.OwnBridge
namespace Fl
open Go
def encC (c : CW) : Value := .float .f64 c.1
def sortF (l : List Nat) : List Nat := (sortC (l.map toCW)).map (·.1)
theorem sortF_len (l : List Nat) : (sortF l).length = l.length := by unfold sortF; rw [List.length_map, sortC_length, List.length_map]
theorem map_toCW {l : List Nat} (h : ∀ x ∈ l, x < 2^64) : (l.map toCW).map (·.1) = l.map canon := by
  rw [List.map_map]; exact List.map_congr_left fun x hx => toCW_val (h x hx)
theorem map_encC (l : List CW) : l.map encC = (l.map (·.1)).map (Value.float .f64) := by rw [List.map_map]; rfl
end Fl
namespace Go.Proofs.Ytfnchcafebomlaa
open Go.RowKit Fl Go.Sort Go.Lib Go.Shelf

theorem eg45 : ∀ args w, (callFunc 45 args).run Try.prog w = .ok (.enter 45 args) w := enters_of Try.func45 (by kernel_rfl) rfl

theorem cmpReads (blk off size : Nat) (w : World) : CmpReads Try.prog 45 #[] encC cfC blk off size w := fun _ _ _ _ x y => by
  refine (compare_any x.1 y.1 _).mono ?_
  rintro e w' ⟨rfl, rfl⟩
  refine ⟨?_, 0, rfl⟩
  unfold cmpF cfC CW.key
  rw [x.2.2, y.2.2]

theorem grownBy_grow (w : World) (os : Array Obj) : w.grownBy (grow w os) none :=
  ⟨rfl, rfl, rfl, by simp [grow], fun k hk _ => heap_grow_old _ _ hk⟩

/-- slices.SortFunc at an own row -/
theorem sortFunc_own (base : Nat) (v : Value) (cs : List CW) (hsz : cs.length < 4611686018427387904) (w : World) (h : OwnF w base v (cs.map (·.1))) (B : Nat) (w0 : World) (hb : Below B w0 w) (hB : B ≤ base) :
    Calls Try.prog 44 #[v, .func (.func 45) #[] #[]] w fun e w' => e = .returned (.tuple #[]) ∧ OwnF w' base v ((sortC cs).map (·.1)) ∧ Below B w0 w' := by
  have h' : w.ownsRow base 25 1 v cs.length (cs.map encC) := by
    have := h
    unfold OwnF at this
    rw [List.length_map] at this
    rw [map_encC]; exact this
  by_cases hv : v = .slice none 0 0
  · subst hv
    have hl : cs = [] := by
      rcases h'.2 with ⟨_, h0⟩ | ⟨g, cap, cur, h0, _⟩
      · exact List.length_eq_zero_iff.1 h0
      · cases h0
    subst hl
    have hS := AnyF.slices_SortFunc_none (P := Try.prog) (ρ := Try.sortL_ren) { Try.sortL with } none 0 (.func (.func 45) #[] #[]) w
    change Calls Try.prog 44 _ _ _ at hS
    refine hS.mono ?_
    rintro e w' ⟨rfl, rfl⟩
    refine ⟨rfl, ?_, hb⟩
    have : sortC [] = [] := List.length_eq_zero_iff.1 (by rw [sortC_length]; rfl)
    rw [this]; exact h
  · obtain ⟨g, cap, rfl, hg, hlt, hn, hm, _, hH⟩ := holds_of_ownsRow h' hv
    have hS := Any.slices_SortFunc_total Try.sortL encC (fun _ => rfl) cfC swoC 45 #[] g 0 cap cs.toArray w eg45 (cmpReads g 0 cs.toArray.size w).lays hH hlt (by simpa using hsz) totC
    change Calls Try.prog 44 _ _ _ at hS
    rw [geC, List.size_toArray] at hS
    refine hS.mono ?_
    rintro e w' ⟨rfl, n, os, rfl⟩
    refine ⟨rfl, ?_, ?_⟩
    · have h1 := ownsRow_putRow (q := n) (k := cs.length) (ys := sortC cs) h' (sortC_length cs) (Nat.le_refl _)
      rw [List.take_of_length_le (by rw [sortC_length]; exact Nat.le_refl _)] at h1
      have h2 := World.ownsRow.kept h1 (grownBy_grow _ os) (.inr (by simp [Value.ownBlock]))
      unfold OwnF
      rw [List.length_map, sortC_length]
      rw [map_encC] at h2
      exact h2
    · have h1 : Below B w0 (putRow encC (Sort.ahead w n) g 0 (sortC cs).toArray) := below_putRow hb (by omega)
      refine h1.grown (grownBy_grow _ os) ?_ (fun k h => by cases h)
      have : w.heap.size = (putRow encC (Sort.ahead w n) g 0 (sortC cs).toArray).heap.size := by simp [putRow, mapBlock, Sort.ahead]
      omega

theorem wpList_makeOF {w : World} {ops : Array Oper} {rest : List Oper} {o : Oper} {a : Act} {Q : Exit → Act → World → Prop} (hgd : o.guard = none) (l c : Operand)
    (hop : o.op = Op.makeSlice 24 l c) (base n : Nat) (hl : a.eval l = .int .i64 0) (hc : a.eval c = .int .i64 n) (hn : n * 8 ≤ 140737488355328) (hb : base ≤ w.heap.size)
    (h : ∀ v w', OwnF w' base v [] → w.grownBy w' none → wpList Try.prog ops Q rest (a.put o.dst v) w') :
    wpList Try.prog ops Q (o :: rest) a w := by
  obtain ⟨i0, hi, hz0, hz1, hz2⟩ := info_parts infoF
  refine wpList_make_own w hgd l c _ hop base 25 i0 (.float .f64 0) 1 Try.underlying24 hi hz0 hz1 .i64 .i64 _ n hl hc rfl (by rw [hz2]; omega) (by unfold maxLen; omega) hb ?_
  intro w' h1 h2
  exact h _ w' h1 h2

theorem canon_take_succ {l : List Nat} {k : Nat} (h : k < l.length) : (l.take k).map canon ++ [canon l[k]] = (l.take (k + 1)).map canon := by
  rw [List.take_succ_eq_append_getElem h, List.map_append]; rfl

set_option maxHeartbeats 1600000 in
theorem sort_any (v : Value) (l : List Nat) (hbd : ∀ x ∈ l, x < 2^64) (hl : l.length * 8 ≤ 140737488351232) (w : World) (h : Sl encF w v l) :
    Calls Try.prog 35 #[v] w fun e w' => ∃ v', e = .returned v' ∧ OwnF w' w.heap.size v' (sortF l) ∧ Below w.heap.size w w' := by
  obtain ⟨a1, c1, rfl, _, _, hA'⟩ := h
  have hA := Lib.hid hA'
  clear hA'
  generalize hB : w.heap.size = B
  have HB := Lib.hid hB
  have hB0 : Hid (B ≤ w.heap.size) := Nat.le_of_eq hB.symm
  have hlb := Lib.hid (show l.length * 8 ≤ 140737488355328 by omega)
  clear hB
  obtain ⟨xs, hxs⟩ : ∃ xs, xs = l.map canon := ⟨_, rfl⟩
  have hxl : Hid (xs.length = l.length) := by show _ = _; rw [hxs, List.length_map]
  have HXS := Lib.hid hxs
  have HBD := Lib.hid hbd
  clear hxs hbd
  go_enter Try.func35, Try.ntmps35
  go_wp2_with (refine wpList_makeOF rfl _ _ rfl B l.length rfl rfl hlb.out hB0.out ?_; intro v0 w1 ho1 hg1; have hb1 : Hid (Below B w w1) := (Below.refl _ _).grown hg1 hB0.out (fun k h => by cases h); have HO1 := Lib.hid ho1; clear ho1 hg1)
  go_loopw [3, 5, 11] (fun v _ i wr => ∃ (k : Nat) (v' : Value), v' = v ∧ k ≤ l.length ∧ i = .int .i64 k ∧ Hid (OwnF wr B v' (xs.take k)) ∧ Hid (Below B w wr)) (fun _ _ i _ => l.length - (intOf i).toNat)
  case atStart => exact ⟨0, _, rfl, Nat.zero_le _, rfl, by rw [List.take_zero]; exact HO1, hb1⟩
  case round =>
    obtain ⟨k, v', rfl, hk, rfl, hown, hbl⟩ := hrel
    have hB1 := Lib.hid (show B ≤ wr.heap.size from by rw [← HB.out]; exact hbl.out.size)
    have HYL : Hid ((xs.take k).length = k) := by show _ = _; rw [List.length_take, hxl.out]; omega
    by_cases hlt : k < l.length
    · have hcell : ∃ b o, a1 = some ⟨b, o, none⟩ ∧ wr.cell? ⟨b, o + k, none⟩ = some (.float .f64 l[k]) := by
        obtain h0 | ⟨b, o, rfl, hb, hc⟩ := hA.out
        · exfalso; rw [h0] at hlt; simp at hlt
        · exact ⟨b, o, rfl, by rw [hbl.out.cell (p := ⟨b, o + k, none⟩) (by rw [← HB.out]; exact hb)]; exact hc k hlt⟩
      obtain ⟨b, o, rfl, hc1⟩ := hcell
      have HN : Hid (xs.take k ++ [canon l[k]] = xs.take (k + 1)) := by show _ = _; rw [HXS.out, ← List.map_take, ← List.map_take]; exact canon_take_succ hlt
      have HCC : Hid (canon (canon l[k]) = canon l[k]) := canon_canon _
      clear hA
      go_wp2_with (first
        | (go_at_call 43; refine (bits_any _ _).mono ?_; rintro e w' ⟨rfl, rfl⟩)
        | (go_at_call 42; refine (from_any _ _).mono ?_; rintro e w' ⟨rfl, rfl⟩; rw [HCC.out])
        | (at_builtin; go_must (refine wpList_appF rfl _ _ rfl B _ _ rfl (hown.out.alloc _) _ _ rfl (Sl.one encF _ _ _) ?c1 ?c2 ?c3)))
      case c1 => rw [HYL.out]; simp; omega
      case c2 => simp; have := hB1.out; omega
      intro v1 w1 ho1 hg1
      have hb' : Hid (Below B w w1) := OwnF.below (hown.out.alloc _) hg1 (hbl.out.alloc hB1.out _) (Nat.le_refl _) (by simp; have := hB1.out; omega)
      rw [HN.out] at ho1
      have HO1 := Lib.hid ho1
      clear ho1 hg1
      go_wp2
      exact ⟨⟨k + 1, _, rfl, by omega, by go_num, HO1, hb'⟩, by simp [intOf]; omega⟩
    · have hkl : xs.take k = xs := List.take_of_length_le (by rw [hxl.out]; omega)
      rw [hkl, HXS.out, ← map_toCW HBD.out] at hown
      have HS := Lib.hid (sortFunc_own B v' (l.map toCW) (by rw [List.length_map]; omega) wr hown.out B w hbl.out (Nat.le_refl _))
      clear hA
      go_wp2_with (go_at_call 44; refine (HS.out).mono ?_; rintro e w2 ⟨rfl, ho2, hb2⟩; have HO2 := Lib.hid ho2; have HB2 := Lib.hid hb2; clear ho2 hb2)
      go_ret
      exact ⟨v', rfl, HO2.out, HB2.out⟩
end Go.Proofs.Ytfnchcafebomlaa
