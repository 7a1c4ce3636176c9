/- What Run is, plain; a grid of one's own: rows of copies that lie apart from each other. -/
import Derived.Test.YtkpnjehgbehhcaaNxt
namespace Go.Proofs.Ytkpnjehgbehhcaa
open Go.RowKit Fl

/-- may m copies move into row i? -/
def fits (L : List (List Cp)) (size : Int) (z m i : Nat) : Bool := decide (i ≠ z) && decide ((m : Int) ≤ size - ((L.getD i []).length : Int))
def findI (L : List (List Cp)) (size : Int) (z m : Nat) : Option Nat := (List.range L.length).find? (fits L size z m)
theorem findI_some {L : List (List Cp)} {size : Int} {z m i : Nat} (hi : i < L.length) (h : fits L size z m i = true) (hn : ∀ j, j < i → fits L size z m j = false) : findI L size z m = some i := by
  unfold findI
  rw [List.find?_range_eq_some]
  exact ⟨h, List.mem_range.2 hi, fun j hj => by rw [hn j hj]; rfl⟩
theorem findI_none {L : List (List Cp)} {size : Int} {z m : Nat} (hn : ∀ j, j < L.length → fits L size z m j = false) : findI L size z m = none := by
  unfold findI
  rw [List.find?_range_eq_none]
  exact fun j hj => by rw [hn j hj]; rfl
theorem findI_spec {L : List (List Cp)} {size : Int} {z m i : Nat} (h : findI L size z m = some i) : i < L.length ∧ i ≠ z ∧ (m : Int) + ((L.getD i []).length : Int) ≤ size := by
  unfold findI at h
  rw [List.find?_range_eq_some] at h
  obtain ⟨h1, h2, _⟩ := h
  unfold fits at h1
  simp only [Bool.and_eq_true, decide_eq_true_eq] at h1
  exact ⟨List.mem_range.1 h2, h1.1, by omega⟩
/-- one step; none: there is none -/
def stepV (V : Int → List Int) (size hz now : Int) (L : List (List Cp)) : Option (List (List Cp)) :=
  if nextE V L size hz now = 0 then
    (findI L size (nextZ V L size hz now) (nextM V L size hz now).length).map fun i => (L.set i (L.getD i [] ++ nextM V L size hz now)).set (nextZ V L size hz now) []
  else none
def runV (V : Int → List Int) (size hz now : Int) : Nat → List (List Cp) → List (List Cp)
  | 0, L => L
  | n + 1, L => match stepV V size hz now L with
    | none => L
    | some L' => runV V size hz now n L'
theorem runV_none {V : Int → List Int} {size hz now : Int} {L : List (List Cp)} (h : stepV V size hz now L = none) : ∀ n, runV V size hz now n L = L
  | 0 => rfl
  | n + 1 => by rw [runV, h]
theorem runV_some {V : Int → List Int} {size hz now : Int} {L L' : List (List Cp)} (h : stepV V size hz now L = some L') (n : Nat) : runV V size hz now (n + 1) L = runV V size hz now n L' := by rw [runV, h]

theorem getD_set {α : Type} (l : List α) (i j : Nat) (x d : α) (hi : i < l.length) : (l.set i x).getD j d = if i = j then x else l.getD j d := by
  rw [List.getD_eq_getElem?_getD, List.getElem?_set, List.getD_eq_getElem?_getD]
  by_cases e : i = j
  · rw [if_pos e, if_pos e, if_pos hi]; rfl
  · rw [if_neg e, if_neg e]

theorem row_form {w : World} {B n k : Nat} {e : TypeId} {v : Value} {xs : List Value} (h : w.ownsRow B e k v n xs) : ∃ a c, v = .slice a n c := by
  obtain ⟨_, ⟨rfl, rfl⟩ | ⟨g, cap, _, rfl, _⟩⟩ := h
  · exact ⟨_, _, rfl⟩
  · exact ⟨_, _, rfl⟩
theorem getD_left {α : Type} (l m : List α) (i : Nat) (d : α) (h : i < l.length) : (l ++ m).getD i d = l.getD i d := by
  rw [List.getD_eq_getElem?_getD, List.getElem?_append_left h, ← List.getD_eq_getElem?_getD]
theorem getD_last {α : Type} (l : List α) (x d : α) : (l ++ [x]).getD l.length d = x := by simp
def nilS : Value := .slice none 0 0
/-- rows us of one's own, in a row of one's own, that hold the copies L -/
def OwnGu (w : World) (B : Nat) (v : Value) (us : List Value) (L : List (List Cp)) : Prop :=
  us.length = L.length ∧ w.ownsRow B 31 1 v L.length us ∧ (∀ i, i < L.length → OwnC w B (us.getD i nilS) (L.getD i [])) ∧
    ∀ i j, i < L.length → j < L.length → i ≠ j → ∀ g, (us.getD i nilS).ownBlock = some g → (us.getD j nilS).ownBlock ≠ some g
def OwnG (w : World) (B : Nat) (v : Value) (L : List (List Cp)) : Prop := ∃ us, OwnGu w B v us L
theorem OwnGu.nil (w : World) (B : Nat) : OwnGu w B (.slice none 0 0) [] [] := ⟨rfl, World.ownsRow_nil w B _ 1, fun _ hi => absurd hi (Nat.not_lt_zero _), fun _ _ hi => absurd hi (Nat.not_lt_zero _)⟩
theorem OwnGu.after {w w' : World} {B : Nat} {v : Value} {us : List Value} {L : List (List Cp)} (h : OwnGu w B v us L) (hb : Below w.heap.size w w') : OwnGu w' B v us L :=
  ⟨h.1, ownsRow_after h.2.1 hb, fun i hi => ownsRow_after (h.2.2.1 i hi) hb, h.2.2.2⟩
theorem OwnG.slr {w : World} {B : Nat} {v : Value} {L : List (List Cp)} (h : OwnG w B v L) : SlR w v L := by
  obtain ⟨us, h1, h2, h3, _⟩ := h
  have h2' := h2
  obtain ⟨h4, ⟨rfl, h0⟩ | ⟨g, cap, cur, rfl, _, hg, hle, hm, _⟩⟩ := h2
  · have : L = [] := List.eq_nil_of_length_eq_zero h0
    subst this
    exact SlG.nil _ _ _
  · refine ⟨_, cap, rfl, (fun h => by cases h), hle, by simpa [maxLen] using hm, fun i hi => ⟨g, 0, rfl, (Array.getElem?_eq_some_iff.1 hg).1, fun j hj => ?_⟩⟩
    have hj0 : j = 0 := by omega
    subst hj0
    refine ⟨us.getD i nilS, ?_, (h3 i hi).slc⟩
    rw [Nat.zero_add, Nat.add_zero, World.ownsRow.cellAt h2' (i * 1) (by omega), Nat.mul_one, List.getD_eq_getElem?_getD, List.getElem?_eq_getElem (by omega)]
    rfl
theorem OwnGu.form {w : World} {B : Nat} {v : Value} {us : List Value} {L : List (List Cp)} (h : OwnGu w B v us L) {i : Nat} (hi : i < L.length) : ∃ g c x k, v = .slice (some ⟨g, 0, none⟩) L.length c ∧ B ≤ g ∧ g < w.heap.size ∧ us.getD i nilS = .slice x (L.getD i []).length k ∧
    w.cell? ⟨g, i, none⟩ = some (.slice x (L.getD i []).length k) ∧ w.frozen? ⟨g, i, none⟩ = false := by
  obtain ⟨h1, h2, h3, _⟩ := h
  have h2' := h2
  obtain ⟨x, k, hx⟩ := (h3 i hi).form
  obtain ⟨h4, ⟨rfl, h0⟩ | ⟨g, cap, cur, rfl, hB, hg, hle, hm, _⟩⟩ := h2
  · omega
  · refine ⟨g, cap, x, k, rfl, hB, (Array.getElem?_eq_some_iff.1 hg).1, hx, ?_, World.ownsRow.frozenAt h2' i⟩
    rw [World.ownsRow.cellAt h2' i (by omega), ← hx, List.getD_eq_getElem?_getD, List.getElem?_eq_getElem (by omega)]
    rfl
theorem OwnGu.snoc {w w1 w2 : World} {B : Nat} {v v2 u : Value} {us : List Value} {L : List (List Cp)} {l : List Cp} (h : OwnGu w B v us L) (hb : Below w.heap.size w w1) (hB : B ≤ w.heap.size) (hu : OwnC w1 w.heap.size u l) (ho : w2.ownsRow B 31 1 v2 (L.length + 1) (us ++ [u])) (hg : w1.grownBy w2 v.ownBlock) :
    OwnGu w2 B v2 (us ++ [u]) (L ++ [l]) := by
  obtain ⟨h1, h2, h3, h4⟩ := h
  have hfar : ∀ {B' : Nat} {x : Value} {r : List Cp}, OwnC w1 B' x r → OwnC w2 B' x r := fun q => ownsRow_far (ownsRow_after h2 hb) q (by decide) hg
  have e1 : ∀ i, i < L.length → (us ++ [u]).getD i nilS = us.getD i nilS ∧ (L ++ [l]).getD i [] = L.getD i [] := fun i hi => ⟨getD_left _ _ _ _ (by omega), getD_left _ _ _ _ hi⟩
  have e2 : (us ++ [u]).getD L.length nilS = u ∧ (L ++ [l]).getD L.length [] = l := by
    refine ⟨?_, getD_last _ _ _⟩
    rw [← h1]
    exact getD_last _ _ _
  have hlt : ∀ i, i < L.length → ∀ g, (us.getD i nilS).ownBlock = some g → g < w.heap.size := fun i hi g hg => ownsRow_lt (h3 i hi) hg
  have hge : ∀ g, u.ownBlock = some g → w.heap.size ≤ g := fun g hg => (ownsRow_block hu hg).1
  refine ⟨by simp [h1], by rw [List.length_append]; exact ho, fun i hi => ?_, fun i j hi hj hne g hgi => ?_⟩
  · rw [List.length_append, List.length_singleton] at hi
    rcases Nat.lt_or_ge i L.length with hi2 | hi2
    · rw [(e1 i hi2).1, (e1 i hi2).2]
      exact hfar (ownsRow_after (h3 i hi2) hb)
    · obtain rfl : i = L.length := by omega
      rw [e2.1, e2.2]
      exact ownsRow_mono (hfar hu) hB
  · rw [List.length_append, List.length_singleton] at hi hj
    rcases Nat.lt_or_ge i L.length with hi2 | hi2 <;> rcases Nat.lt_or_ge j L.length with hj2 | hj2
    · rw [(e1 i hi2).1] at hgi
      rw [(e1 j hj2).1]
      exact h4 i j hi2 hj2 hne g hgi
    · obtain rfl : j = L.length := by omega
      rw [(e1 i hi2).1] at hgi
      rw [e2.1]
      intro e
      have := hlt i hi2 g hgi
      have := hge g e
      omega
    · obtain rfl : i = L.length := by omega
      rw [e2.1] at hgi
      rw [(e1 j hj2).1]
      intro e
      have := hlt j hj2 g e
      have := hge g hgi
      omega
    · omega
/-- a cell of the outer row is stored -/
theorem OwnGu.put {w : World} {B g c i : Nat} {us : List Value} {L : List (List Cp)} {u : Value} {l : List Cp} (h1 : us.length = L.length) (h2 : w.ownsRow B 31 1 (.slice (some ⟨g, 0, none⟩) L.length c) L.length us)
    (h3 : ∀ j, j < L.length → j ≠ i → OwnC w B (us.getD j nilS) (L.getD j [])) (hu : OwnC w B u l) (h4 : ∀ j k, j < L.length → k < L.length → j ≠ k → j ≠ i → k ≠ i → ∀ g, (us.getD j nilS).ownBlock = some g → (us.getD k nilS).ownBlock ≠ some g)
    (h5 : ∀ j, j < L.length → j ≠ i → ∀ g, u.ownBlock = some g → (us.getD j nilS).ownBlock ≠ some g) (hi : i < L.length) :
    OwnGu (w.setCell ⟨g, i, none⟩ u) B (.slice (some ⟨g, 0, none⟩) L.length c) (us.set i u) (L.set i l) := by
  have hg : ∃ cur, w.heap[g]? = some (Obj.cells cur 31 (0, 0)) := (ownsRow_block h2 rfl).2
  obtain ⟨cur, hg⟩ := hg
  have hne : ∀ {x : Value} {r : List Cp}, OwnC w B x r → ∀ q, x.ownBlock = some q → q ≠ g := fun hx q hq e => by
    obtain ⟨_, cur', h6⟩ := ownsRow_block hx hq
    rw [e, hg] at h6
    simp at h6
  refine ⟨by simp [h1], by rw [List.length_set]; exact (World.ownsRow.stored h2 i u).1, fun j hj => ?_, fun j k hj hk hjk q hq => ?_⟩
  · rw [List.length_set] at hj
    rw [getD_set us i j u nilS (by omega), getD_set L i j l [] hi]
    by_cases e : i = j
    · rw [if_pos e, if_pos e]
      exact ownsRow_set hu _ _ (hne hu)
    · rw [if_neg e, if_neg e]
      exact ownsRow_set (h3 j hj (Ne.symm e)) _ _ (hne (h3 j hj (Ne.symm e)))
  · rw [List.length_set] at hj hk
    rw [getD_set us i j u nilS (by omega)] at hq
    rw [getD_set us i k u nilS (by omega)]
    by_cases e : i = j
    · rw [if_pos e] at hq
      rw [if_neg (by omega)]
      exact h5 k hk (by omega) q hq
    · rw [if_neg e] at hq
      by_cases e2 : i = k
      · rw [if_pos e2]
        intro q2
        exact h5 j hj (Ne.symm e) q q2 hq
      · rw [if_neg e2]
        exact h4 j k hj hk hjk (Ne.symm e) (Ne.symm e2) q hq
theorem OwnGu.move {w w1 w2 : World} {B g c i : Nat} {us : List Value} {L : List (List Cp)} {u : Value} {l : List Cp} (h : OwnGu w B (.slice (some ⟨g, 0, none⟩) L.length c) us L) (hb : Below w.heap.size w w1) (hi : i < L.length) (hg : w1.grownBy w2 (us.getD i nilS).ownBlock)
    (ho : OwnC w2 B u l) (hat : u.ownBlock = (us.getD i nilS).ownBlock ∨ u.ownBlock = some w1.heap.size) : OwnGu (w2.setCell ⟨g, i, none⟩ u) B (.slice (some ⟨g, 0, none⟩) L.length c) (us.set i u) (L.set i l) := by
  obtain ⟨h1, h2, h3, h4⟩ := h
  refine OwnGu.put h1 (ownsRow_far (ownsRow_after (h3 i hi) hb) (ownsRow_after h2 hb) (by decide) hg) (fun j hj hji => ?_) ho (fun j k hj hk hjk _ _ => h4 j k hj hk hjk) (fun j hj hji q hq e => ?_) hi
  · refine ownsRow_keep (ownsRow_after (h3 j hj) hb) fun q hq => hg.block q ?_ fun e => h4 i j hi hj (Ne.symm hji) q e.symm hq
    exact Nat.lt_of_lt_of_le (ownsRow_lt (h3 j hj) hq) hb.size
  · rcases hat with q1 | q1
    · rw [q1] at hq
      exact h4 i j hi hj (Ne.symm hji) q hq e
    · rw [q1] at hq
      obtain rfl := Option.some.inj hq
      have := ownsRow_lt (h3 j hj) e
      have := hb.size
      omega
theorem OwnGu.clear {w : World} {B g c z : Nat} {us : List Value} {L : List (List Cp)} (h : OwnGu w B (.slice (some ⟨g, 0, none⟩) L.length c) us L) (hz : z < L.length) : OwnGu (w.setCell ⟨g, z, none⟩ nilS) B (.slice (some ⟨g, 0, none⟩) L.length c) (us.set z nilS) (L.set z []) := by
  obtain ⟨h1, h2, h3, h4⟩ := h
  exact OwnGu.put h1 h2 (fun j hj _ => h3 j hj) (World.ownsRow_nil _ _ _ 2) (fun j k hj hk hjk _ _ => h4 j k hj hk hjk) (fun j _ _ q hq => by cases hq) hz
theorem OwnC.src {w : World} {B : Nat} {v : Value} {l : List Cp} (h : OwnC w B v l) : Src w v l.length (flatC l) := by
  have h' := h
  obtain ⟨h1, ⟨rfl, h0⟩ | ⟨g, cap, cur, rfl, _, hg, hle, hm, _⟩⟩ := h
  · have : l = [] := List.eq_nil_of_length_eq_zero h0
    subst this
    exact .inl ⟨rfl, rfl, rfl⟩
  · refine .inr ⟨_, cap, rfl, fun j u hj => ?_⟩
    have hjl : j < l.length * 2 := by rw [← flatC_len]; exact (List.getElem?_eq_some_iff.1 hj).1
    rw [addr_ad, Nat.zero_add, World.ownsRow.cellAt h' j hjl]
    exact hj
theorem SlC.src {w : World} {v : Value} {l : List Cp} (h : SlC w v l) : Src w v l.length (flatC l) := by
  obtain ⟨a, cap, rfl, h0, _, _, h⟩ := h
  cases l with
  | nil =>
    cases a with
    | none => exact .inl ⟨by rw [h0 rfl]; rfl, rfl, rfl⟩
    | some ad => exact .inr ⟨ad, cap, rfl, by intro j u hj; simp [flatC] at hj⟩
  | cons x l =>
    obtain ⟨b, o, rfl, _, _⟩ := h 0 (by simp)
    refine .inr ⟨_, cap, rfl, fun j u hj => ?_⟩
    have hjl : j < (x :: l).length * 2 := by rw [← flatC_len]; exact (List.getElem?_eq_some_iff.1 hj).1
    obtain ⟨b', o', hbo, _, hc⟩ := h (j / 2) (by omega)
    cases hbo
    obtain ⟨u', h3, h4⟩ := hc (j % 2) (Nat.mod_lt _ (by decide))
    obtain ⟨f0, f1⟩ := flatC_get (x :: l) (j / 2) (by omega)
    rw [addr_ad, show o + j = o + j / 2 * 2 + j % 2 by omega, h3]
    rcases h4 with ⟨q1, rfl⟩ | ⟨q1, rfl⟩
    · rw [show j / 2 * 2 = j by omega] at f0
      rw [← hj, f0]
    · rw [show j / 2 * 2 + 1 = j by omega] at f1
      rw [← hj, f1]
theorem infoS : (Try.prog.info? 31).map (fun i => (i.zero, i.size, i.bytes)) = some (some (.slice none 0 0), 1, 24) := by kernel_rfl
end Go.Proofs.Ytkpnjehgbehhcaa
