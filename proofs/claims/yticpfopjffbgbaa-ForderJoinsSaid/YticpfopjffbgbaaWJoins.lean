/- The walk of ForderJoins: the law returns true. -/
import Derived.Test.YticpfopjffbgbaaWEnds
namespace Go.Proofs.Yticpfopjffbgbaa
open Go.RowKit Fl

theorem most_fin (mx : Bool) {l : List Nat} (h0 : 0 < l.length) (ha : l.any isNaN = false) : mostV mx l ∈ l ∧ ∀ x ∈ l, if mx then ck x ≤ ck (mostV mx l) else ck (mostV mx l) ≤ ck x := by
  unfold mostV
  rw [ha]
  obtain ⟨h1, h2⟩ := fold_end mx l (l.headD 0)
  have hh : l.headD 0 ∈ l := by cases l with
    | nil => simp at h0
    | cons y l => simp
  refine ⟨?_, fun x hx => h2 x (by simp [hx])⟩
  rcases List.mem_cons.1 h1 with e | e
  · rw [if_neg (by simp), e]; exact hh
  · rw [if_neg (by simp)]; exact e
theorem most_nan (mx : Bool) {l : List Nat} (ha : l.any isNaN = true) : mostV mx l = cN := by unfold mostV; rw [ha]; rfl
theorem not_nan_mem {l : List Nat} (ha : l.any isNaN = false) {x : Nat} (hx : x ∈ l) : isNaN x = false := by
  rw [List.any_eq_false] at ha
  simpa using ha x hx
theorem most_lt (mx : Bool) {l : List Nat} (h0 : 0 < l.length) (hb : ∀ x ∈ l, x < 2^64) : mostV mx l < 2^64 := by
  cases ha : l.any isNaN
  · exact hb _ (most_fin mx h0 ha).1
  · rw [most_nan mx ha]; decide

theorem most_join (mx : Bool) {a b : List Nat} (ha0 : 0 < a.length) (hb0 : 0 < b.length) (hab : ∀ x ∈ a, x < 2^64) (hbb : ∀ x ∈ b, x < 2^64) :
    (canon (mostV mx (a ++ b)) == canon (mostV mx [mostV mx a, mostV mx b])) = true := by
  cases ha : a.any isNaN
  · cases hb : b.any isNaN
    · obtain ⟨a1, a2⟩ := most_fin mx ha0 ha
      obtain ⟨b1, b2⟩ := most_fin mx hb0 hb
      obtain ⟨c1, c2⟩ := most_fin mx (l := a ++ b) (by rw [List.length_append]; omega) (by rw [List.any_append, ha, hb]; rfl)
      obtain ⟨d1, d2⟩ := most_fin mx (l := [mostV mx a, mostV mx b]) (by simp) (by simp [not_nan_mem ha a1, not_nan_mem hb b1])
      have hc : mostV mx (a ++ b) < 2^64 := by
        rcases List.mem_append.1 c1 with h | h
        · exact hab _ h
        · exact hbb _ h
      have hd : mostV mx [mostV mx a, mostV mx b] < 2^64 ∧ mostV mx [mostV mx a, mostV mx b] ∈ a ++ b := by
        have : mostV mx [mostV mx a, mostV mx b] = mostV mx a ∨ mostV mx [mostV mx a, mostV mx b] = mostV mx b := by simpa using d1
        rcases this with e | e
        · rw [e]; exact ⟨hab _ a1, List.mem_append_left _ a1⟩
        · rw [e]; exact ⟨hbb _ b1, List.mem_append_right _ b1⟩
      have k1 := c2 _ hd.2
      have k2 : if mx then ck (mostV mx (a ++ b)) ≤ ck (mostV mx [mostV mx a, mostV mx b]) else ck (mostV mx [mostV mx a, mostV mx b]) ≤ ck (mostV mx (a ++ b)) := by
        have x1 := d2 (mostV mx a) (by simp)
        have x2 := d2 (mostV mx b) (by simp)
        rcases List.mem_append.1 c1 with h | h
        · have y := a2 _ h
          cases mx <;> simp at x1 y ⊢ <;> omega
        · have y := b2 _ h
          cases mx <;> simp at x2 y ⊢ <;> omega
      rw [ck_same hc hd.1, decide_eq_true_eq]
      cases mx <;> simp at k1 k2 <;> omega
    · rw [most_nan mx (l := a ++ b) (by rw [List.any_append, hb, Bool.or_true]), most_nan mx hb, most_nan mx (l := [mostV mx a, cN]) (by simp [cN_nan])]; exact beq_self_eq_true _
  · rw [most_nan mx (l := a ++ b) (by rw [List.any_append, ha, Bool.true_or]), most_nan mx ha, most_nan mx (l := [cN, mostV mx b]) (by simp [cN_nan])]; exact beq_self_eq_true _

theorem two_sl (w : World) (x y : Nat) (t : TypeId) : Sl encF (w.alloc (.cells #[.float .f64 x, .float .f64 y] t)) (.slice (some ⟨w.heap.size, 0, none⟩) 2 2) [x, y] := by
  refine ⟨some ⟨w.heap.size, 0, none⟩, 2, rfl, (fun h => by cases h), by simp, .inr ⟨_, 0, rfl, by simp, fun i hi => ?_⟩⟩
  match i, hi with
  | 0, _ => exact World.cell?_alloc_at _ _ _ 0 rfl
  | 1, _ => exact World.cell?_alloc_at _ _ _ 1 rfl

set_option maxHeartbeats 6400000 in
set_option maxRecDepth 8000 in
theorem joins_small (v u : Value) (a a2 : Option Addr) (cap cap2 : Nat) (l r : List Nat) (hv : v = .slice a l.length cap) (hu : u = .slice a2 r.length cap2) (l0 : 0 < l.length) (r0 : 0 < r.length) (hl : l.length ≤ 300) (hr : r.length ≤ 300) (hbd : ∀ x ∈ l, x < 2^64) (hrd : ∀ x ∈ r, x < 2^64) (w : World)
    (hS : Sl encF w v l) (hR : Sl encF w u r) :
    Calls Try.prog 7 #[v, u] w fun e w' => e = .returned (.bool true) ∧ Below w.heap.size w w' := by
  generalize hB : w.heap.size = B
  have HB := Lib.hid hB
  have HL : Hid (∀ w', Hid (Below B w w') → Sl encF w' v l) := fun w' h => hS.below (Nat.le_of_eq hB) h.out
  have HR : Hid (∀ w', Hid (Below B w w') → Sl encF w' u r) := fun w' h => hR.below (Nat.le_of_eq hB) h.out
  have l8 : l.length * 8 ≤ 140737488351232 := by omega
  have r8 : r.length * 8 ≤ 140737488351232 := by omega
  have L8 := Lib.hid l8
  have R8 := Lib.hid r8
  have ln : l ≠ [] := List.length_pos_iff.1 l0
  have rn : r ≠ [] := List.length_pos_iff.1 r0
  have arn : l ++ r ≠ [] := by simp [ln]
  have a8 : Hid ((l ++ r).length * 8 ≤ 140737488351232) := by show _ ≤ _; rw [List.length_append]; omega
  have pk : ∀ mx (x : List Nat), x ≠ [] → mostR mx x = mostV mx x ∧ mostE x = 0 := fun mx x h => ⟨if_neg h, if_neg h⟩
  have C1 := Lib.hid (fun w' (h : Hid (Below B w w')) => min_any v l l8 w' (HL.out w' h))
  have C2 := Lib.hid (fun w' (h : Hid (Below B w w')) => min_any u r r8 w' (HR.out w' h))
  have C3 := Lib.hid (fun w' (h : Hid (Below B w w')) => max_any v l l8 w' (HL.out w' h))
  have C4 := Lib.hid (fun w' (h : Hid (Below B w w')) => max_any u r r8 w' (HR.out w' h))
  rw [(pk false l ln).1, (pk false l ln).2] at C1
  rw [(pk false r rn).1, (pk false r rn).2] at C2
  rw [(pk true l ln).1, (pk true l ln).2] at C3
  rw [(pk true r rn).1, (pk true r rn).2] at C4
  have A1 := Lib.hid (fun v' w' (h : Sl encF w' v' (l ++ r)) => min_any v' (l ++ r) a8.out w' h)
  have A2 := Lib.hid (fun v' w' (h : Sl encF w' v' (l ++ r)) => max_any v' (l ++ r) a8.out w' h)
  rw [(pk false _ arn).1, (pk false _ arn).2] at A1
  rw [(pk true _ arn).1, (pk true _ arn).2] at A2
  have D1 := Lib.hid (fun x y w' (t : TypeId) => min_any (.slice (some ⟨w'.heap.size, 0, none⟩) 2 2) [x, y] (by simp) (w'.alloc (.cells #[.float .f64 x, .float .f64 y] t)) (two_sl w' x y t))
  have e21 : ∀ mx x y, mostR mx [x, y] = mostV mx [x, y] := fun mx x y => if_neg (by simp)
  have e22 : ∀ x y : Nat, mostE [x, y] = 0 := fun x y => if_neg (by simp)
  simp only [e21, e22] at D1
  have D2 := Lib.hid (fun x y w' (t : TypeId) => max_any (.slice (some ⟨w'.heap.size, 0, none⟩) 2 2) [x, y] (by simp) (w'.alloc (.cells #[.float .f64 x, .float .f64 y] t)) (two_sl w' x y t))
  simp only [e21, e22] at D2
  clear e21 e22
  have J1 := Lib.hid (most_join false l0 r0 hbd hrd)
  have J2 := Lib.hid (most_join true l0 r0 hbd hrd)
  have hsm : decide (l.length ≤ 300) = true := decide_eq_true hl
  have hsm2 : decide (r.length ≤ 300) = true := decide_eq_true hr
  have hne : ((l.length : Int) == 0) = false := beq_eq_false_iff_ne.2 (by omega)
  have hne2 : ((r.length : Int) == 0) = false := beq_eq_false_iff_ne.2 (by omega)
  clear hS hR hbd hrd pk ln rn arn l8 r8
  subst hv hu
  have hB1 : Hid (B ≤ w.heap.size) := Nat.le_of_eq hB.symm
  clear hB
  go_enter Try.func7, Try.ntmps7
  go_wp2_with (first
    | (go_at_call 11; refine (small2_any _ _ _ _).mono ?_; rintro e w' ⟨rfl, rfl⟩)
    | (at_builtin; go_must (refine wpList_appF rfl _ _ rfl B (.slice (some ⟨w.heap.size, 0, none⟩) 0 0) [] rfl (OwnF.empty (by exact heap_alloc_new w _) hB1.out) (.slice a l.length cap) l rfl (HL.out _ ((Below.refl _ _).alloc hB1.out _)) ?c1 ?c2 ?c3)))
  case c1 => have := L8.out; simp; omega
  case c2 => simp; have := hB1.out; omega
  intro v1 w1 ho1 hg1
  have B1 : Hid (Below B w w1) := OwnF.below (OwnF.empty (by exact heap_alloc_new w _) hB1.out) hg1 ((Below.refl _ _).alloc hB1.out _) (Nat.le_refl _) (by simp; have := hB1.out; omega)
  have HO1 := Lib.hid ho1
  clear ho1 hg1
  have hB2 : Hid (B ≤ w1.heap.size) := Nat.le_trans hB1.out B1.out.size
  go_wp2_with (at_builtin; go_must (refine wpList_appF rfl _ _ rfl B v1 _ rfl HO1.out (.slice a2 r.length cap2) r rfl (HR.out _ B1) ?d1 ?d2 ?d3))
  case d1 => have := R8.out; simp; omega
  case d2 => exact hB2.out
  intro v2 w2 ho2 hg2
  have B2 : Hid (Below B w w2) := OwnF.below HO1.out hg2 B1.out (Nat.le_refl _) hB2.out
  have HSA : Hid (∀ w', Below w2.heap.size w2 w' → Sl encF w' v2 (l ++ r)) := fun w' h => (OwnF.sl (xs := l ++ r) (by simpa using ho2) (by have := a8.out; omega)).below (Nat.le_refl _) h
  have hB3 : Hid (B ≤ w2.heap.size) := Nat.le_trans hB2.out hg2.size
  clear ho2 hg2
  go_wp2_with fail
  refine (A1.out v2 w2 (HSA.out w2 (Below.refl _ _))).mono ?_
  rintro e w3 ⟨rfl, rfl⟩
  go_wp2_with fail
  refine (C1.out w2 B2).mono ?_
  rintro e w3 ⟨rfl, rfl⟩
  go_wp2_with fail
  refine (C2.out w2 B2).mono ?_
  rintro e w3 ⟨rfl, rfl⟩
  go_wp2_with fail
  refine (D1.out (mostV false l) (mostV false r) w2 27).mono ?_
  rintro e w3 ⟨rfl, rfl⟩
  go_wp2_with fail
  refine (A2.out v2 _ (HSA.out _ ((Below.refl _ _).alloc (Nat.le_refl _) _))).mono ?_
  rintro e w3 ⟨rfl, rfl⟩
  go_wp2_with fail
  refine (C3.out _ (B2.out.alloc hB3.out _)).mono ?_
  rintro e w3 ⟨rfl, rfl⟩
  go_wp2_with fail
  refine (C4.out _ (B2.out.alloc hB3.out _)).mono ?_
  rintro e w3 ⟨rfl, rfl⟩
  go_wp2_with fail
  have D3 := D2.out (mostV true l) (mostV true r) (w2.alloc (.cells #[.float .f64 (mostV false l), .float .f64 (mostV false r)] 27)) 27
  rw [show (w2.alloc (.cells #[.float .f64 (mostV false l), .float .f64 (mostV false r)] 27)).heap.size = w2.heap.size + 1 by simp] at D3
  refine D3.mono ?_
  rintro e w3 ⟨rfl, rfl⟩
  go_wp2_with (first
    | (go_at_call 15; refine (same_any _ _ _).mono ?_; rintro e w' ⟨rfl, rfl⟩; first | rw [J1.out] | rw [J2.out])
    | (go_at_call 12; refine (awake2_any _).mono ?_; rintro e w' ⟨rfl, hbb⟩))
  go_ret
  exact ⟨rfl, B2.out.trans ((((Below.refl _ w2).alloc hB3.out _).alloc (by have := hB3.out; simp; omega) _).trans (hbb.mono (by have := hB3.out; simp; omega)))⟩

set_option maxHeartbeats 800000 in
set_option maxRecDepth 8000 in
theorem joins_big1 (a a2 : Option Addr) (n m cap cap2 : Nat) (hl : 300 < n) (w : World) :
    Calls Try.prog 7 #[.slice a n cap, .slice a2 m cap2] w fun e w' => e = .returned (.bool true) ∧ Below w.heap.size w w' := by
  have hsm : decide (n ≤ 300) = false := decide_eq_false (by omega)
  go_enter Try.func7, Try.ntmps7
  go_wp2_with (first | (go_at_call 11; refine (small2_any _ _ _ _).mono ?_; rintro e w' ⟨rfl, rfl⟩) | (go_at_call 12; refine (awake2_any _).mono ?_; rintro e w' ⟨rfl, hbb⟩))
  go_ret
  exact ⟨rfl, hbb⟩

set_option maxHeartbeats 800000 in
set_option maxRecDepth 8000 in
theorem joins_big2 (a a2 : Option Addr) (n m cap cap2 : Nat) (hl : n ≤ 300) (hm : 300 < m) (w : World) :
    Calls Try.prog 7 #[.slice a n cap, .slice a2 m cap2] w fun e w' => e = .returned (.bool true) ∧ Below w.heap.size w w' := by
  have hsm : decide (n ≤ 300) = true := decide_eq_true hl
  have hsm2 : decide (m ≤ 300) = false := decide_eq_false (by omega)
  go_enter Try.func7, Try.ntmps7
  go_wp2_with (first | (go_at_call 11; refine (small2_any _ _ _ _).mono ?_; rintro e w' ⟨rfl, rfl⟩) | (go_at_call 12; refine (awake2_any _).mono ?_; rintro e w' ⟨rfl, hbb⟩))
  go_ret
  exact ⟨rfl, hbb⟩

set_option maxHeartbeats 800000 in
set_option maxRecDepth 8000 in
theorem joins_none1 (a a2 : Option Addr) (n m cap cap2 : Nat) (hl : n ≤ 300) (hm : m ≤ 300) (h0 : n = 0) (w : World) :
    Calls Try.prog 7 #[.slice a n cap, .slice a2 m cap2] w fun e w' => e = .returned (.bool true) ∧ Below w.heap.size w w' := by
  subst h0
  have hsm2 : decide (m ≤ 300) = true := decide_eq_true hm
  go_enter Try.func7, Try.ntmps7
  go_wp2_with (first | (go_at_call 11; refine (small2_any _ _ _ _).mono ?_; rintro e w' ⟨rfl, rfl⟩) | (go_at_call 12; refine (awake2_any _).mono ?_; rintro e w' ⟨rfl, hbb⟩))
  go_ret
  exact ⟨rfl, hbb⟩

set_option maxHeartbeats 800000 in
set_option maxRecDepth 8000 in
theorem joins_none2 (a a2 : Option Addr) (n m cap cap2 : Nat) (hl : n ≤ 300) (h1 : 0 < n) (h0 : m = 0) (w : World) :
    Calls Try.prog 7 #[.slice a n cap, .slice a2 m cap2] w fun e w' => e = .returned (.bool true) ∧ Below w.heap.size w w' := by
  subst h0
  have hsm : decide (n ≤ 300) = true := decide_eq_true hl
  have hne : ((n : Int) == 0) = false := beq_eq_false_iff_ne.2 (by omega)
  go_enter Try.func7, Try.ntmps7
  go_wp2_with (first | (go_at_call 11; refine (small2_any _ _ _ _).mono ?_; rintro e w' ⟨rfl, rfl⟩) | (go_at_call 12; refine (awake2_any _).mono ?_; rintro e w' ⟨rfl, hbb⟩))
  go_ret
  exact ⟨rfl, hbb⟩

theorem walk_ForderJoins (w : World) (v : Value) (l : List Nat) (h : Sl encF w v l) (hb : ∀ x ∈ l, x < 2^64) (_ : l.length * 8 ≤ 140737488351232)
    (u : Value) (r : List Nat) (g : Sl encF w u r) (gb : ∀ x ∈ r, x < 2^64) (_ : r.length * 8 ≤ 140737488351232) :
    Calls Try.prog 7 #[v, u] w fun e w' => e = .returned (.bool true) ∧ Below w.heap.size w w' := by
  obtain ⟨a, cap, hv, _⟩ := id h
  obtain ⟨a2, cap2, hu, _⟩ := id g
  rcases Nat.lt_or_ge 300 l.length with hl | hl
  · subst hv hu; exact joins_big1 a a2 _ _ cap cap2 hl w
  · rcases Nat.lt_or_ge 300 r.length with hr | hr
    · subst hv hu; exact joins_big2 a a2 _ _ cap cap2 hl hr w
    · rcases Nat.eq_zero_or_pos l.length with l0 | l0
      · subst hv hu; exact joins_none1 a a2 _ _ cap cap2 hl hr l0 w
      · rcases Nat.eq_zero_or_pos r.length with r0 | r0
        · subst hv hu; exact joins_none2 a a2 _ _ cap cap2 hl l0 r0 w
        · exact joins_small v u a a2 cap cap2 l r hv hu l0 r0 hl hr hb gb w h g
end Go.Proofs.Yticpfopjffbgbaa
