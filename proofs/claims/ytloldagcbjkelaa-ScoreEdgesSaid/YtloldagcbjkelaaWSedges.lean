/- The walk of ScoreEdges: the law returns true. -/
import Derived.Test.YtloldagcbjkelaaSeg
import Derived.Test.YtloldagcbjkelaaWSranks
namespace Fl
/-- which numbers have been seen -/
def seenR (r : List Nat) (i n : Nat) : List Bool := (List.range n).map fun x => decide (x ∈ r.take i)
theorem seenR_len (r : List Nat) (i n : Nat) : (seenR r i n).length = n := by unfold seenR; simp
theorem seenR_zero (r : List Nat) (n : Nat) : seenR r 0 n = List.replicate n false := by
  unfold seenR
  apply List.ext_getElem
  · simp
  · intro i h1 h2; simp
theorem seenR_get {r : List Nat} {i n x : Nat} (h : x < n) : (seenR r i n).getD x false = decide (x ∈ r.take i) := by
  unfold seenR
  rw [List.getD_eq_getElem?_getD, List.getElem?_map, List.getElem?_range h]; rfl
theorem mem_take_succ {r : List Nat} {i : Nat} (hi : i < r.length) (j : Nat) : j ∈ r.take (i + 1) ↔ j ∈ r.take i ∨ j = r.getD i 0 := by
  rw [List.take_succ_eq_append_getElem hi, List.mem_append, List.mem_singleton, List.getD_eq_getElem?_getD, List.getElem?_eq_getElem hi]; rfl
theorem seenR_set {r : List Nat} {i n : Nat} (hi : i < r.length) : (seenR r i n).set (r.getD i 0) true = seenR r (i + 1) n := by
  unfold seenR
  apply List.ext_getElem
  · simp
  · intro j h1 h2
    rw [List.getElem_set]
    simp only [List.getElem_map, List.getElem_range]
    have hm := mem_take_succ hi j
    by_cases e : r.getD i 0 = j
    · rw [if_pos e]
      exact (decide_eq_true (hm.2 (.inr e.symm))).symm
    · rw [if_neg e]
      rw [decide_eq_decide, hm]
      exact ⟨.inl, fun h => h.resolve_right (fun h => e h.symm)⟩
end Fl
namespace Go.Proofs.Ytloldagcbjkelaa
open Go.RowKit Fl

theorem infoB : (Try.prog.info? 4).map (fun i => (i.zero, i.size, i.bytes)) = some (some (.bool false), 1, 1) := by kernel_rfl
/-- the call's own row of bools -/
def OwnB (w : World) (base : Nat) (v : Value) (xs : List Bool) : Prop := w.ownsRow base 4 1 v xs.length (xs.map Value.bool)
theorem OwnB.later {w w' : World} {base : Nat} {v : Value} {xs : List Bool} (h : OwnB w base v xs) (hb : Below w.heap.size w w') : OwnB w' base v xs := ownsRow_later h hb
theorem OwnB.alloc {w : World} {base : Nat} {v : Value} {xs : List Bool} (h : OwnB w base v xs) (o : Obj) : OwnB (w.alloc o) base v xs := World.ownsRow.alloc h o
theorem OwnB.put {w : World} {base : Nat} {g n cap : Nat} {xs : List Bool} (h : OwnB w base (.slice (some ⟨g, 0, none⟩) n cap) xs) (j : Nat) (x : Bool) :
    OwnB (w.setCell ⟨g, j, none⟩ (.bool x)) base (.slice (some ⟨g, 0, none⟩) n cap) (xs.set j x) := by
  have hn : n = xs.length := by
    obtain ⟨_, h1 | ⟨_, _, _, h1, _⟩⟩ := h
    · cases h1.1
    · simp only [Value.slice.injEq] at h1; exact h1.2.1
  subst hn
  have := (World.ownsRow.stored h j (.bool x)).1
  unfold OwnB
  rw [List.length_set, List.map_set]; exact this
theorem OwnB.cellOf {w : World} {base : Nat} {g n cap : Nat} {xs : List Bool} (h : OwnB w base (.slice (some ⟨g, 0, none⟩) n cap) xs) (j : Nat) (hj : j < xs.length) :
    w.cell? ⟨g, j, none⟩ = some (.bool (xs.getD j false)) ∧ w.frozen? ⟨g, j, none⟩ = false := by
  have hn : n = xs.length := by
    obtain ⟨_, h1 | ⟨_, _, _, h1, _⟩⟩ := h
    · cases h1.1
    · simp only [Value.slice.injEq] at h1; exact h1.2.1
  subst hn
  refine ⟨?_, World.ownsRow.frozenAt h j⟩
  rw [World.ownsRow.cellAt h j (by rw [Nat.mul_one]; exact hj), List.getElem?_map, List.getElem?_eq_getElem hj, List.getD_eq_getElem?_getD, List.getElem?_eq_getElem hj]; rfl
theorem wpList_mkB {w : World} {ops : Array Oper} {rest : List Oper} {o : Oper} {a : Act} {Q : Exit → Act → World → Prop} (hgd : o.guard = none) (l c : Operand)
    (hop : o.op = Op.makeSlice 41 l c) (base n : Nat) (hl : a.eval l = .int .i64 n) (hc : a.eval c = .int .i64 n) (hn : n * 8 ≤ 140737488355328) (hb : base ≤ w.heap.size)
    (h : ∀ w', OwnB w' base (.slice (some ⟨w.heap.size, 0, none⟩) n n) (List.replicate n false) → w.grownBy w' none → wpList Try.prog ops Q rest (a.put o.dst (.slice (some ⟨w.heap.size, 0, none⟩) n n)) w') :
    wpList Try.prog ops Q (o :: rest) a w := by
  obtain ⟨i0, hi, hz0, hz1, hz2⟩ := info_parts infoB
  refine wpList_make_full w hgd l c _ hop base 4 i0 (.bool false) 1 Try.underlying41 hi hz0 hz1 .i64 .i64 _ _ n hl hc rfl rfl (by rw [hz2]; omega) (by unfold maxLen; omega) hb ?_
  intro w' h1 h2
  refine h w' ?_ h2
  unfold OwnB
  have : (madeCells (Value.bool false).cells (n * 1)).toList = (List.replicate n false).map Value.bool := by
    rw [Nat.mul_one, List.map_replicate]; exact toList_madeCells_one _ _
  rw [this] at h1
  rw [List.length_replicate]; exact h1

/-- what holds at each round's head -/
def EdRel (l : List Zn) (r : List Nat) (w1 : World) (rv iv : Value) (wr : World) : Prop := ∃ (i : Nat) (q : Bool), i ≤ r.length ∧ iv = .int .i64 i ∧ rv = .bool q ∧ Hid (q = true → ∃ j, j < i ∧ 0 < (l.getD (r.getD j 0) (0, 0, 0)).1) ∧
  Hid (OwnB wr w1.heap.size (.slice (some ⟨w1.heap.size, 0, none⟩) l.length l.length) (seenR r i l.length)) ∧ Hid (Below w1.heap.size w1 wr)

set_option maxHeartbeats 3200000 in
set_option maxRecDepth 16000 in
theorem edges_small (now : Int) (a : Option Addr) (cap : Nat) (l : List Zn) (hl : l.length ≤ 200) (hn0 : 0 ≤ now) (hn1 : now ≤ 1099511627776) (w : World) (hS : SlZ w (.slice a l.length cap) l) :
    Calls Try.prog 6 #[.slice a l.length cap, .int .i64 now] w fun e w' => e = .returned (.bool true) ∧ Below w.heap.size w w' := by
  generalize hB : w.heap.size = B
  have hB0 : Hid (B ≤ w.heap.size) := Nat.le_of_eq hB.symm
  have HZ : Hid (∀ k, k < l.length → ∃ b o, a = some ⟨b, o, none⟩ ∧ ∀ w', Hid (Below B w w') → w'.cell? ⟨b, o + k * 3, none⟩ = some (.int .i64 (l.getD k (0, 0, 0)).1) ∧
      w'.cell? ⟨b, o + k * 3 + 1, none⟩ = some (.int .i64 (l.getD k (0, 0, 0)).2.1) ∧ w'.cell? ⟨b, o + k * 3 + 2, none⟩ = some (.int .i64 (l.getD k (0, 0, 0)).2.2)) := fun k hk => by
    obtain ⟨_, _, hv, _, _, _, hc⟩ := hS
    simp only [Value.slice.injEq] at hv
    obtain ⟨rfl, _, rfl⟩ := hv
    obtain ⟨b, o, rfl, hlt, c0, c1, c2⟩ := hc k (by omega)
    refine ⟨b, o, rfl, fun w' hb => ⟨?_, ?_, ?_⟩⟩
    · rw [hb.out.cell (p := ⟨b, o + k * 3, none⟩) (by rw [← hB]; exact hlt)]; exact c0
    · rw [hb.out.cell (p := ⟨b, o + k * 3 + 1, none⟩) (by rw [← hB]; exact hlt)]; exact c1
    · rw [hb.out.cell (p := ⟨b, o + k * 3 + 2, none⟩) (by rw [← hB]; exact hlt)]; exact c2
  have CR := Lib.hid (rank_any _ l now (by omega) w hS)
  have hsm : decide (l.length ≤ 200) = true := decide_eq_true hl
  clear hS hB
  go_enter Try.func6, Try.ntmps6
  go_wp2_with (go_at_call 15; refine (small5_any _ _ _ _).mono ?_; rintro e w' ⟨rfl, rfl⟩)
  refine CR.out.mono ?_
  rintro e w1 ⟨v1, r, rfl, hr, ho1, hb1⟩
  have B1 : Hid (Below B w w1) := hb1.mono hB0.out
  have S1 : Hid (B ≤ w1.heap.size) := Nat.le_trans hB0.out B1.out.size
  have hrl := hr.len
  have HR := Lib.hid hr
  obtain ⟨ar, cr, rfl⟩ := ho1.form
  have HRC : Hid (∀ i, i < r.length → ∃ g, ar = some ⟨g, 0, none⟩ ∧ g < w1.heap.size ∧ ∀ w', Hid (Below w1.heap.size w1 w') → w'.cell? ⟨g, i, none⟩ = some (.int .i64 (r.getD i 0 : Nat))) := fun i hi => by
    obtain ⟨g, c, he, _, hg⟩ := ho1.at0 (by omega)
    simp only [Value.slice.injEq] at he
    obtain ⟨rfl, _, rfl⟩ := he
    refine ⟨g, rfl, hg, fun w' hb => ?_⟩
    rw [hb.out.cell (p := ⟨g, i, none⟩) hg]
    exact (ho1.cellOf i hi).1
  clear ho1 hb1 hr CR
  go_wp2_with (refine wpList_mkB (w := w1) rfl _ _ rfl w1.heap.size l.length rfl rfl (by omega) (Nat.le_refl _) ?_; intro w2 ho2 hg2; have hb2 : Hid (Below w1.heap.size w1 w2) := (Below.refl _ _).grown hg2 (Nat.le_refl _) (fun k h => by cases h); have HO2 := Lib.hid ho2; clear ho2 hg2)
  go_loopw [7, 8] (fun rv iv wr => EdRel l r w1 rv iv wr) (fun _ iv _ => r.length - (intOf iv).toNat)
  case atStart => exact ⟨0, false, by omega, rfl, rfl, (fun h => by simp at h), by rw [seenR_zero]; exact HO2.out, hb2⟩
  case round =>
    obtain ⟨i, q, hi, rfl, rfl, hq, hon, hbl⟩ := hrel
    by_cases hlt : i < r.length
    · obtain ⟨g, rfl, hgl, hgc⟩ := HRC.out i hlt
      have hgi := hgc wr hbl
      obtain ⟨hx, hok⟩ := HR.out.mem hlt
      obtain ⟨f1, f2, f3, f4, f5, f6⟩ := okB_facts hok
      have HBW : Hid (Below B w wr) := B1.out.trans (hbl.out.mono S1.out)
      obtain ⟨b, o, rfl, hc⟩ := HZ.out _ hx
      obtain ⟨hc0, hc1, hc2⟩ := hc wr HBW
      have hseen : (seenR r i l.length).getD (r.getD i 0) false = false := by
        rw [seenR_get hx, decide_eq_false_iff_not]
        intro hm
        obtain ⟨j, hj, e⟩ := List.getElem_of_mem hm
        rw [List.length_take] at hj
        rw [List.getElem_take] at e
        have := HR.out.ne (i := j) (j := i) (by omega) hlt
        rw [List.getD_eq_getElem?_getD, List.getElem?_eq_getElem (by omega : j < r.length)] at this
        exact this e
      obtain ⟨hs1, hs2⟩ := hon.out.cellOf (r.getD i 0) (by rw [seenR_len]; exact hx)
      rw [hseen] at hs1
      have hrest : ∀ j, j < i → 0 < (l.getD (r.getD j 0) (0, 0, 0)).1 → 0 < (l.getD (r.getD i 0) (0, 0, 0)).1 := fun j hj h => rank_rest HR.out hj hlt h
      have HSET := Lib.hid (seenR_set (n := l.length) hlt)
      have HQ0 : Hid ((l.getD (r.getD i 0) (0, 0, 0)).1 = 0 → q = false) := fun h0 => by
        cases q
        · rfl
        · obtain ⟨j, hj, hp⟩ := hq.out rfl
          have := hrest j hj hp
          omega
      have HQ1 : Hid (0 < (l.getD (r.getD i 0) (0, 0, 0)).1 → ∃ j, j < i + 1 ∧ 0 < (l.getD (r.getD j 0) (0, 0, 0)).1) := fun h => ⟨i, by omega, h⟩
      clear hc hgc hseen hrest hok f5 f6 hq
      generalize hgx : r.getD i 0 = x at *
      have HGX := Lib.hid hgx
      clear hgx
      generalize (l.getD x (0, 0, 0)).1 = z0 at *
      generalize (l.getD x (0, 0, 0)).2.1 = z1 at *
      generalize (l.getD x (0, 0, 0)).2.2 = z2 at *
      have HB3 : Hid (Below w1.heap.size w1 ((wr.setCell ⟨w1.heap.size, x, none⟩ (.bool true)).alloc (.cells #[.int .i64 z0, .int .i64 z1, .int .i64 z2] 23))) := (hbl.out.setCell (p := ⟨w1.heap.size, x, none⟩) (Nat.le_refl _) _).alloc (by simpa using hbl.out.size) _
      have HO3 : Hid (OwnB ((wr.setCell ⟨w1.heap.size, x, none⟩ (.bool true)).alloc (.cells #[.int .i64 z0, .int .i64 z1, .int .i64 z2] 23)) w1.heap.size (.slice (some ⟨w1.heap.size, 0, none⟩) l.length l.length) (seenR r (i + 1) l.length)) := by
        have h1 := (hon.out.put x true).alloc (.cells #[.int .i64 z0, .int .i64 z1, .int .i64 z2] 23)
        have h2 := HSET.out
        rw [h2] at h1; exact h1
      have hw1r : w1.heap.size < wr.heap.size := by
        have h1 := World.ownsRow.lt hon.out w1.heap.size rfl
        exact h1.2
      have hgr : g < wr.heap.size := World.block_lt_of_cell? wr ⟨g, i, none⟩ hgi
      have hnb : wr.heap.size ≠ w1.heap.size := by omega
      have hng : wr.heap.size ≠ g := by omega
      have ix : (x : Int) < (l.length : Int) := by omega
      have ix2 : decide (l.length ≤ x) = false := decide_eq_false (by omega)
      have hgw : g ≠ w1.heap.size := by omega
      clear hon hbl HBW HGX HSET
      by_cases hz0 : z0 = 0
      · have hqf := HQ0.out hz0
        have E1 := Lib.hid HB3.out
        subst hz0
        subst hqf
        clear HQ0 HQ1
        go_wp2
        exact ⟨⟨i + 1, false, by omega, by go_num, rfl, (fun h => by simp at h), HO3, E1⟩, by simp [intOf]; omega⟩
      · have hz1 : 0 < z0 := by omega
        have hq1 := Lib.hid (HQ1.out hz1)
        have ht := f4 hz1
        have E1 := Lib.hid HB3.out
        clear HQ0 HQ1 f4
        have HQT : Hid (true = true → ∃ j, j < i + 1 ∧ 0 < (l.getD (r.getD j 0) (0, 0, 0)).1) := fun _ => hq1.out
        clear hq1
        cases q
        all_goals
          go_wp2
          exact ⟨⟨i + 1, true, by omega, by go_num, rfl, HQT, HO3, E1⟩, by simp [intOf]; omega⟩
    · go_wp2_with (go_at_call 14; refine (awake5_any _).mono ?_; rintro e w' ⟨rfl, hbb⟩)
      go_ret
      exact ⟨rfl, B1.out.trans ((hbl.out.trans (hbb.mono hbl.out.size)).mono S1.out)⟩

set_option maxHeartbeats 800000 in
set_option maxRecDepth 8000 in
theorem edges_off (now : Int) (a : Option Addr) (n cap : Nat) (h : 200 < n ∨ (n ≤ 200 ∧ now < 0) ∨ (n ≤ 200 ∧ 0 ≤ now ∧ 1099511627776 < now)) (w : World) :
    Calls Try.prog 6 #[.slice a n cap, .int .i64 now] w fun e w' => e = .returned (.bool true) ∧ Below w.heap.size w w' := by
  rcases h with h | ⟨h, h2⟩ | ⟨h, h2, h3⟩
  · have hsm : decide (n ≤ 200) = false := decide_eq_false (by omega)
    go_enter Try.func6, Try.ntmps6
    go_wp2_with (first | (go_at_call 15; refine (small5_any _ _ _ _).mono ?_; rintro e w' ⟨rfl, rfl⟩) | (go_at_call 14; refine (awake5_any _).mono ?_; rintro e w' ⟨rfl, hbb⟩))
    go_ret
    exact ⟨rfl, hbb⟩
  all_goals
    have hsm : decide (n ≤ 200) = true := decide_eq_true h
    go_enter Try.func6, Try.ntmps6
    go_wp2_with (first | (go_at_call 15; refine (small5_any _ _ _ _).mono ?_; rintro e w' ⟨rfl, rfl⟩) | (go_at_call 14; refine (awake5_any _).mono ?_; rintro e w' ⟨rfl, hbb⟩))
    go_ret
    exact ⟨rfl, hbb⟩

theorem walk_ScoreEdges (w : World) (v : Value) (l : List Zn) (h : SlZ w v l) (now : Int) (_ : (Lit.int .i64 now).wf = true) :
    Calls Try.prog 6 #[v, .int .i64 now] w fun e w' => e = .returned (.bool true) ∧ Below w.heap.size w w' := by
  obtain ⟨a, cap, rfl, _⟩ := id h
  rcases Nat.lt_or_ge 200 l.length with hl | hl
  · exact edges_off now a _ cap (.inl hl) w
  · rcases Int.lt_or_le now 0 with h1 | h1
    · exact edges_off now a _ cap (.inr (.inl ⟨hl, h1⟩)) w
    · rcases Int.lt_or_le 1099511627776 now with h2 | h2
      · exact edges_off now a _ cap (.inr (.inr ⟨hl, h1, h2⟩)) w
      · exact edges_small now a cap l hl h1 h2 w h
end Go.Proofs.Ytloldagcbjkelaa
