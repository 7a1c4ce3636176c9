/- extmap's Apply, whatever it is handed. -/
import Derived.Test.YtkpnjehgbehhcaaAp4
namespace Go.Proofs.Ytkpnjehgbehhcaa
open Go.RowKit Go.MapKept

theorem rise_step {l : List Pt} (h : riseP l = true) : ∀ k, k + 1 < l.length → (l.getD k (0, 0)).1 < (l.getD (k + 1) (0, 0)).1 := by
  intro k hk
  unfold riseP at h
  simp only [Bool.and_eq_true] at h
  have h1 := riseN_le h.1 (k + 2) (by omega)
  unfold riseN at h1
  simp only [Bool.and_eq_true, Bool.or_eq_true, beq_iff_eq, decide_eq_true_eq] at h1
  rcases h1.2 with h2 | h2
  · omega
  · simpa using h2
theorem rise_mono {l : List Pt} (h : riseP l = true) : ∀ d k, k + d < l.length → (l.getD k (0, 0)).1 ≤ (l.getD (k + d) (0, 0)).1 := by
  intro d
  induction d with
  | zero => intro k _; exact Int.le_refl _
  | succ d ih =>
    intro k hk
    have h1 := ih k (by omega)
    have h2 := rise_step h (k + d) (by omega)
    have h3 : k + (d + 1) = k + d + 1 := by omega
    rw [h3]
    omega
theorem inB_iff {k : Int} (h : inB k = true) : 0 ≤ k ∧ k < 30 := by unfold inB at h; simpa using h
theorem okA_in {last tm : Int} {l : List Pt} (h : okA last tm l = true) : (∀ k, k < l.length → 0 ≤ (l.getD k (0, 0)).1 ∧ (l.getD k (0, 0)).1 < 30) ∧ ∀ k, k < l.length → (l.getD k (0, 0)).2 = 40 := by
  unfold okA at h
  simp only [Bool.and_eq_true, decide_eq_true_eq] at h
  obtain ⟨⟨⟨_, hr⟩, h0⟩, hj⟩ := h.1
  have h0 := inB_iff h0
  have hj := inB_iff hj
  refine ⟨fun k hk => ?_, fun k hk => ?_⟩
  · have h1 := rise_mono hr k 0 (by omega)
    have h2 := rise_mono hr (l.length - 1 - k) k (by omega)
    rw [Nat.zero_add] at h1
    rw [show k + (l.length - 1 - k) = l.length - 1 by omega] at h2
    omega
  · have h1 := fortyN_le h.2 (k + 1) (by omega)
    unfold fortyN at h1
    simp only [Bool.and_eq_true, Bool.not_eq_true', bne_eq_false_iff_eq] at h1
    have := h1.2
    omega

def apV (last tm : Int) (l : List Pt) (V : Int → List Int) : Int → List Int := if okA last tm l = true then addN V l tm l.length else V
def apL (last tm : Int) (l : List Pt) : Int := if okA last tm l = true then tm else last
theorem Mp.mono {w : World} {B p : Nat} {V : Int → List Int} {last : Int} {n n' : Nat} (h : Mp w B p V last n) (hn : n ≤ n') : Mp w B p V last n' := by
  obtain ⟨h0, b, h1, h2, es, clock, h3, h4, h5, h6, h7, h8, h9⟩ := h
  exact ⟨h0, b, h1, h2, es, clock, h3, h4, Nat.le_trans h5 hn, h6, h7, h8, fun k => Nat.le_trans (h9 k) hn⟩

/-- Apply -/
theorem app_any {B p : Nat} {V : Int → List Int} {last : Int} {n : Nat} (tm : Int) (a : Option Addr) (cap : Nat) (l : List Pt) (w : World) (h : Mp w B p V last n) (hl : ∀ w', Hid (Below B w w') → SlP w' (.slice a l.length cap) l) (hB : B ≤ w.heap.size)
    (hnn : n + l.length < 1000000) :
    Calls Try.prog 28 #[.pointer (some ⟨p, 0, none⟩), .agg #[.int .i64 tm, .slice a l.length cap]] w fun e w' => (∃ r, e = .returned (.int .i64 r)) ∧ Mp w' B p (apV last tm l V) (apL last tm l) (n + l.length) ∧ KeepF w w' ∧ Below B w w' := by
  cases hok : okA last tm l with
  | true =>
    obtain ⟨h1, h2⟩ := okA_in hok
    have e1 : apV last tm l V = addN V l tm l.length := if_pos hok
    have e2 : apL last tm l = tm := if_pos hok
    rw [e1, e2]
    exact (app_yes tm a cap l w h hl hB hok hnn h1 h2).mono fun e w' ⟨q1, q2⟩ => ⟨⟨0, q1⟩, q2⟩
  | false =>
    have e1 : apV last tm l V = V := by unfold apV; rw [if_neg (by rw [hok]; decide)]
    have e2 : apL last tm l = last := by unfold apL; rw [if_neg (by rw [hok]; decide)]
    rw [e1, e2]
    exact (app_no tm a cap l w h (hl w (Below.refl _ _)) hok).mono fun e w' ⟨q1, q2⟩ => ⟨q1, (h.below q2).mono (by omega), KeepF.below q2, q2.mono hB⟩

/-- New -/
theorem new_any (w : World) : Calls Try.prog 26 #[.int .i64 30] w fun e w' => ∃ p, e = .returned (.tuple #[.pointer (some ⟨p, 0, none⟩), .int .i64 0]) ∧ Mp w' w.heap.size p (fun _ => []) 0 0 ∧ Below w.heap.size w w' := by
  have hmm := fun w => run_makeMap (P := Try.prog) 87 w
  have HM : Hid (Mp ((w.alloc (.map #[] 0)).alloc (.cells #[.int .i64 30, .map (some w.heap.size), .int .i64 0] 89)) w.heap.size (w.alloc (.map #[] 0)).heap.size (fun _ => []) 0 0) := by
    have h1 : (w.alloc (.map #[] 0)).heap[w.heap.size]? = some (Obj.map #[] 0) := heap_alloc_new w _
    refine ⟨by simp, w.heap.size, heap_alloc_new _ _, Nat.le_refl _, #[], 0, ?_, ⟨by simp, stamped_empty 0, by simp⟩, Nat.le_refl _, by simp, by simp, by simp, by simp⟩
    rw [heap_alloc_old _ _ (Array.getElem?_eq_some_iff.1 h1).1]
    exact h1
  have HB : Hid (Below w.heap.size w ((w.alloc (.map #[] 0)).alloc (.cells #[.int .i64 30, .map (some w.heap.size), .int .i64 0] 89))) := ((Below.refl _ _).alloc (Nat.le_refl _) _).alloc (by simp) _
  go_enter Try.func26, Try.ntmps26
  go_wp2
  go_ret2
  refine ⟨_, rfl, ?_, HB.out⟩
  have h5 := HM.out
  rw [show (w.alloc (.map #[] 0)).heap.size = w.heap.size + 1 by simp] at h5
  exact h5
end Go.Proofs.Ytkpnjehgbehhcaa
