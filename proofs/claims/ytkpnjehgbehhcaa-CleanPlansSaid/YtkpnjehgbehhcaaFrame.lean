/- What every law's proof ends with: a call that returns true and leaves old memory as it was gives the row; how slices of one-cell elements are read off the form. -/
import Derived.Test.YtkpnjehgbehhcaaRows
import Derived.Test.YtkpnjehgbehhcaaFw
import Derived.Test.YtkpnjehgbehhcaaSl
import Derived.ProofKit
import Derived.OpenShut
import Derived.Deep.Slices
import Derived.Lib.SmallJoins
namespace Go.Proofs.Ytkpnjehgbehhcaa
open Go.ChangeShapes Go.WideShapes Go.ChangeAt Go.RowKit

theorem own : ownKnob Try.prog.godebug = none := by kernel_rfl
theorem laidOut : laidOutB Try.prog = true := by kernel_rfl

section
variable {H : Type} {enc : TypeId × Value → H} {P : Program}

theorem trodAll_below {W W' : World} (hl : laidOutB P = true) (hb : Below W.heap.size W W') :
    ∀ (ts : List TypeId) (vs : List Value) (ds : List (DataW H)) (ps : List MemPlace), (∀ t ∈ ts, P.readableRec t = true ∧ t < P.types.size) →
      DataW.TrodAll enc P W 0 (fun _ => true) true ts vs ds ps → (∀ x ∈ ps, x.block < W.heap.size) →
      DataW.TrodAll enc P W' 0 (fun b => decide (b < W.heap.size)) true ts vs ds ps := by
  intro ts
  induction ts with
  | nil =>
    intro vs ds ps _ h _
    obtain ⟨rfl, rfl, rfl⟩ := trodAll_nil h
    exact trodAll_mk0
  | cons t ts ih =>
    intro vs ds ps ht h hlt
    obtain ⟨v, vs', d, ds', p, q, rfl, rfl, rfl, h1, h2⟩ := trodAll_cons h
    obtain ⟨hr, hrow⟩ := ht t (by simp)
    exact trodAll_cons_mk (Below.trod hl hr hrow h1 hb fun x hx => hlt x (by simp [hx])) (ih _ _ _ (fun t' h' => ht t' (by simp [h'])) h2 fun x hx => hlt x (by simp [hx]))

/-- 'post' of a law: true came back, and below the heap's old size nothing has turned -/
theorem law_post {f : Func} {s : ChangeSpec} (tb : TypeId) (hv : s.vars = []) (hres : f.resultTypes = #[tb]) (htb : P.underlying tb = some .bool) (hl : laidOutB P = true)
    (hts : ∀ t ∈ f.params.toList, P.readableRec t = true ∧ t < P.types.size) {W W' : World} {args : Array Value} {ds gs : List (DataW H)} {before : List MemPlace}
    (hW : DataW.Whole enc P f.params.toList s.vars false W args.toList ds gs before)
    (hfn : s.fn H (ds ++ gs) = { results := [.lit (.bool true)], args := ds }) (hb : Below W.heap.size W W') :
    s.post enc P f false true false false W args (.bool true) W' := by
  have hlt := fun x hx => hW.lt x hx
  have hW' := hW
  obtain ⟨p, q, hA, hV, rfl, _, _⟩ := hW
  have hV' : DataW.TrodVars enc P W (fun _ => true) [] gs q := by rw [hv] at hV; exact hV
  obtain ⟨rfl, rfl⟩ := trodVars_none hV'
  refine ⟨ds, [], _, [], p, [], hW', ?_, ?_, ?_, hb.frame _, fun h => by cases h⟩
  · rw [hfn, hres]; exact trodAll_mk1 (shut_bool htb true)
  · rw [hfn]; exact trodAll_below hl hb _ _ _ _ hts hA fun x hx => hlt x (by simp [hx])
  · rw [hv, hfn]; rfl
end

section
variable {H : Type} {enc : TypeId × Value → H} {P : Program}
theorem addr_some {w : World} {a : Addr} {v : Value} (h : w.cell? a = some v) : ∃ b o, a = ⟨b, o, none⟩ := by
  obtain ⟨b, o, s⟩ := a
  have := World.cell?_spot h
  simp at this
  subst this
  exact ⟨b, o, rfl⟩

theorem addr_add (b o i : Nat) : (⟨b, o, none⟩ : Addr).add i = ⟨b, o + i, none⟩ := by
  unfold Addr.add
  split
  · rename_i h; have : i = 0 := by simpa using h
    subst this; rfl
  · rfl

/-- A SLICE OF float64s, OPENED -/
theorem open_floats {W : World} {t e : TypeId} {v : Value} {d : DataW H} {ps : List MemPlace} {base : Nat} {r : Reach} (ht : P.underlying t = some (.slice e)) (he : P.underlying e = some (.float .f64)) (hc : P.cellsOf e = 1) (hby : P.bytesOf e = 8)
    (hval : Value.okWide P W r base t v) (h : DataW.Trod enc P W 0 (fun _ => true) true t v d ps) (hlt : ∀ x ∈ ps, x.block < W.heap.size)
    (hreach : ∀ xs ys, d = .slice xs ys → (xs.length + ys.length) * P.bytesOf e ≤ reachBytes) :
    ∃ l : List Nat, Sl encF W v l ∧ (∀ x ∈ l, x < 2^64) ∧ l.length * 8 ≤ 140737488351232 := by
  obtain ⟨a0, len, cap, rfl⟩ := okWide_slice ht hval
  obtain ⟨fuel, hf⟩ := h
  rcases Deep.open_slice1 ht hc hf with ⟨hcs, hx⟩ | ⟨a, len', cap', m, n, V, D, Pl, hcs, _, hl, hm, hmm, hx, hV⟩
  · simp [Value.cells] at hcs
    obtain ⟨rfl, rfl, rfl⟩ := hcs
    exact ⟨[], ⟨none, 0, rfl, fun _ => rfl, by simp, .inl rfl⟩, by simp, by simp⟩
  · simp [Value.cells] at hcs
    obtain ⟨rfl, rfl, rfl⟩ := hcs
    simp only [Prod.mk.injEq] at hx
    obtain ⟨hd, hp⟩ := hx
    simp only [if_true] at hmm
    subst hmm
    have hb := hreach _ _ hd
    simp only [List.length_map, List.length_range, hby] at hb
    have hrb : reachBytes = 140737488351232 := by decide
    rw [hrb] at hb
    have hlen : len * 8 ≤ 140737488351232 := by omega
    have each : ∀ i, i < m → ∃ b, V i = .float .f64 b ∧ b < 2^64 := by
      intro i hi
      have h2 := (hV i hi).2
      cases n with
      | zero => simp [DataW.trod] at h2
      | succ n =>
        cases hvi : V i <;> simp [DataW.trod, he, hvi] at h2
        rename_i k b
        cases k
        · simp at h2
        · simp only [Lit.wf] at h2
          exact ⟨b, rfl, by have := h2.1; simpa using this⟩
    obtain ⟨B, hB⟩ := Deep.choose_lt (n := m) (p := fun i b => V i = .float .f64 b ∧ b < 2^64) each
    refine ⟨(List.range len).map B, ?_, ?_, ?_⟩
    · refine ⟨some a, m, by simp, fun h => (by cases h), by simp; omega, ?_⟩
      by_cases h0 : len = 0
      · left; simp [h0]
      · right
        obtain ⟨b, o, rfl⟩ := addr_some (hV 0 (by omega)).1
        refine ⟨b, o, rfl, ?_, fun i hi => ?_⟩
        · have hmem : MemPlace.cell b o ∈ ps := by
            rw [hp]
            simp only [List.mem_append]
            left
            simp only [MemPlace.row, List.mem_map, List.mem_range]
            exact ⟨0, by omega, by simp⟩
          exact hlt _ hmem
        · have hi' : i < len := by simpa using hi
          have h1 := (hV i (by omega)).1
          rw [(hB i (by omega)).1] at h1
          rw [addr_add] at h1
          simpa [encF] using h1
    · intro x hx
      simp only [List.mem_map, List.mem_range] at hx
      obtain ⟨i, hi, rfl⟩ := hx
      exact (hB i (by omega)).2
    · simpa using hlen

/-- A SLICE OF ints, OPENED -/
theorem open_intl {W : World} {t e : TypeId} {v : Value} {d : DataW H} {ps : List MemPlace} {base : Nat} {r : Reach} (ht : P.underlying t = some (.slice e)) (he : P.underlying e = some (.int .i64)) (hc : P.cellsOf e = 1) (hby : P.bytesOf e = 8)
    (hval : Value.okWide P W r base t v) (h : DataW.Trod enc P W 0 (fun _ => true) true t v d ps) (hlt : ∀ x ∈ ps, x.block < W.heap.size)
    (hreach : ∀ xs ys, d = .slice xs ys → (xs.length + ys.length) * P.bytesOf e ≤ reachBytes) :
    ∃ l : List Int, Sl encI W v l ∧ (∀ x ∈ l, (Lit.int .i64 x).wf = true) ∧ l.length * 8 ≤ 140737488351232 := by
  obtain ⟨a0, len, cap, rfl⟩ := okWide_slice ht hval
  obtain ⟨fuel, hf⟩ := h
  rcases Deep.open_slice1 ht hc hf with ⟨hcs, hx⟩ | ⟨a, len', cap', m, n, V, D, Pl, hcs, _, hl, hm, hmm, hx, hV⟩
  · simp [Value.cells] at hcs
    obtain ⟨rfl, rfl, rfl⟩ := hcs
    exact ⟨[], ⟨none, 0, rfl, fun _ => rfl, by simp, .inl rfl⟩, by simp, by simp⟩
  · simp [Value.cells] at hcs
    obtain ⟨rfl, rfl, rfl⟩ := hcs
    simp only [Prod.mk.injEq] at hx
    obtain ⟨hd, hp⟩ := hx
    simp only [if_true] at hmm
    subst hmm
    have hb := hreach _ _ hd
    simp only [List.length_map, List.length_range, hby] at hb
    have hrb : reachBytes = 140737488351232 := by decide
    rw [hrb] at hb
    have hlen : len * 8 ≤ 140737488351232 := by omega
    have each : ∀ i, i < m → ∃ b : Int, V i = .int .i64 b ∧ (Lit.int .i64 b).wf = true := by
      intro i hi
      have h2 := (hV i hi).2
      obtain ⟨b, hb1, _, hb2⟩ := DataW.trod_int he h2
      exact ⟨b, by simpa using hb1, hb2⟩
    obtain ⟨B, hB⟩ := Deep.choose_lt (n := m) (p := fun i (b : Int) => V i = .int .i64 b ∧ (Lit.int .i64 b).wf = true) each
    refine ⟨(List.range len).map B, ?_, ?_, ?_⟩
    · refine ⟨some a, m, by simp, fun h => (by cases h), by simp; omega, ?_⟩
      by_cases h0 : len = 0
      · left; simp [h0]
      · right
        obtain ⟨b, o, rfl⟩ := addr_some (hV 0 (by omega)).1
        refine ⟨b, o, rfl, ?_, fun i hi => ?_⟩
        · have hmem : MemPlace.cell b o ∈ ps := by
            rw [hp]
            simp only [List.mem_append]
            left
            simp only [MemPlace.row, List.mem_map, List.mem_range]
            exact ⟨0, by omega, by simp⟩
          exact hlt _ hmem
        · have hi' : i < len := by simpa using hi
          have h1 := (hV i (by omega)).1
          rw [(hB i (by omega)).1] at h1
          rw [addr_add] at h1
          simpa [encI] using h1
    · intro x hx
      simp only [List.mem_map, List.mem_range] at hx
      obtain ⟨i, hi, rfl⟩ := hx
      exact (hB i (by omega)).2
    · simpa using hlen
end
end Go.Proofs.Ytkpnjehgbehhcaa
