/- One more zone that is worth nothing changes no place: plain. -/
import Derived.Test.YtkpnjehgbehhcaaSeg
namespace Fl
open Go Go.Proofs Go.Proofs.Ytkpnjehgbehhcaa

theorem pos_sg {x : Nat} (h : 0 < rv x) : sg x = false := by
  cases hs : sg x
  · rfl
  · exfalso
    unfold rv at h
    rw [hs] at h
    have := VR_nonneg (rung x)
    unfold sv at h
    simp only [if_true] at h
    grind
theorem key_pos {x : Nat} (hx : x < 2^64) (f : fin x) (h : 0 < rv x) : ckf x = rung x + 2^63 ∧ rv x = VR (rung x) := by
  have hs := pos_sg h
  constructor
  · unfold ckf
    rw [canon_of_not (fin_not_nan f), keyF_eq hx, hs, if_neg (by decide)]
    have := (sg_false hx).1 hs
    unfold rung
    omega
  · unfold rv
    rw [hs]
    unfold sv
    simp
theorem inf_fgt {x : Nat} (f : fin x) : fgt infW x = true := by
  obtain ⟨m, i, hr, _⟩ := rv_read f
  have hi : D.read infW = .infinity false := by decide
  unfold fgt Ieee.Format.order
  rw [hi, hr]; rfl
/-- the scores of two that stand one behind the other -/
theorem turn_of {l : List Zn} {now : Int} {a b : Nat} (ha : okB l now a = true) (hb : okB l now b = true) (hle : rkLe (scS l now) a b) (hne : a ≠ b) :
    fgt (scS l now a) (scS l now b) = true ∨ (fgt (scS l now a) (scS l now b) = false ∧ feq (scS l now a) (scS l now b) = true ∧ a < b) := by
  obtain ⟨_, _, _, _, x64, fx⟩ := okB_facts ha
  obtain ⟨_, _, _, _, y64, fy⟩ := okB_facts hb
  unfold rkLe at hle
  generalize scS l now a = X at *
  generalize scS l now b = Y at *
  have same : X = Y → isNaN X = false → fgt X Y = false ∧ feq X Y = true := fun e hn => by
    subst e
    refine ⟨?_, by rw [feq_self, hn]; rfl⟩
    unfold fgt
    rw [order_self, hn]; rfl
  have hni : isNaN infW = false := by decide
  rcases fx with ⟨_, rfl⟩ | ⟨_, f1, p1⟩
  · rcases fy with ⟨_, rfl⟩ | ⟨_, f2, p2⟩
    · exact .inr ⟨(same rfl hni).1, (same rfl hni).2, by omega⟩
    · exact .inl (inf_fgt f2)
  · rcases fy with ⟨_, rfl⟩ | ⟨_, f2, p2⟩
    · exfalso
      have := ckf_inf x64 f1
      omega
    · obtain ⟨k1, v1⟩ := key_pos x64 f1 p1
      obtain ⟨k2, v2⟩ := key_pos y64 f2 p2
      rcases hle with h | ⟨h, h2⟩
      · left
        have hlt : rung Y < rung X := by omega
        have := VR_lt hlt
        rw [← v1, ← v2] at this
        have h3 : D.order X Y = some .gt := by
          rw [order_fin f1 f2, if_neg (by grind), if_neg (by grind)]
        unfold fgt
        rw [h3]; rfl
      · have e : X = Y := by
          have hc := (ckf_canon x64 y64).1 h
          rwa [canon_of_not (fin_not_nan f1), canon_of_not (fin_not_nan f2)] at hc
        exact .inr ⟨(same e (fin_not_nan f1)).1, (same e (fin_not_nan f1)).2, by omega⟩

/-- one more zone at place k -/
def insZ (l : List Zn) (k : Nat) : List Zn := l.take k ++ [(3, 3, 0)] ++ l.drop k
def shK (k i : Nat) : Nat := if i < k then i else i + 1
theorem insZ_len {l : List Zn} {k : Nat} (hk : k ≤ l.length) : (insZ l k).length = l.length + 1 := by
  unfold insZ
  rw [List.length_append, List.length_append, List.length_take, List.length_drop, List.length_singleton]; omega
theorem insZ_get {l : List Zn} {k : Nat} (hk : k ≤ l.length) (i : Nat) : (insZ l k).getD i (0, 0, 0) = if i < k then l.getD i (0, 0, 0) else if i = k then (3, 3, 0) else l.getD (i - 1) (0, 0, 0) := by
  have hl : (l.take k).length = k := by rw [List.length_take]; omega
  unfold insZ
  rw [List.getD_eq_getElem?_getD]
  by_cases h1 : i < k
  · rw [if_pos h1, List.append_assoc, List.getElem?_append_left (by omega), List.getElem?_take, if_pos h1, List.getD_eq_getElem?_getD]
  · rw [if_neg h1, List.append_assoc, List.getElem?_append_right (by omega), hl]
    by_cases e : i = k
    · subst e; simp
    · rw [if_neg e]
      obtain ⟨d, rfl⟩ : ∃ d, i = k + (d + 1) := ⟨i - k - 1, by omega⟩
      rw [show k + (d + 1) - k = d + 1 by omega, List.singleton_append, List.getElem?_cons_succ, List.getElem?_drop, show k + (d + 1) - 1 = k + d by omega, List.getD_eq_getElem?_getD]
theorem insZ_sh {l : List Zn} {k : Nat} (hk : k ≤ l.length) (i : Nat) : (insZ l k).getD (shK k i) (0, 0, 0) = l.getD i (0, 0, 0) := by
  rw [insZ_get hk]
  unfold shK
  by_cases h : i < k
  · rw [if_pos h, if_pos h]
  · rw [if_neg h, if_neg (by omega), if_neg (by omega)]; rfl
theorem full_no (now : Int) : okZ now (3, 3, 0) = false := by
  cases h : okZ now (3, 3, 0)
  · rfl
  · have := (ok_facts h).2.2.1
    omega
theorem ok_sh {l : List Zn} {k : Nat} (hk : k ≤ l.length) (now : Int) (i : Nat) : okB (insZ l k) now (shK k i) = okB l now i := by unfold okB; rw [insZ_sh hk]
theorem sc_sh {l : List Zn} {k : Nat} (hk : k ≤ l.length) (now : Int) (i : Nat) : scS (insZ l k) now (shK k i) = scS l now i := by unfold scS; rw [ok_sh hk, insZ_sh hk]
theorem ok_new {l : List Zn} {k : Nat} (hk : k ≤ l.length) (now : Int) : okB (insZ l k) now k = false := by
  unfold okB; rw [insZ_get hk, if_neg (Nat.lt_irrefl _), if_pos rfl]; exact full_no now
theorem shK_inj {k i j : Nat} (h : shK k i = shK k j) : i = j := by unfold shK at h; split at h <;> split at h <;> omega
theorem shK_mono {k i j : Nat} (h : i ≤ j) : shK k i ≤ shK k j := by unfold shK; split <;> split <;> omega
theorem rank_ins {l : List Zn} {now : Int} {r : List Nat} {k : Nat} (hk : k ≤ l.length) (h : IsRank (scS l now) (okB l now) l.length r) : IsRank (scS (insZ l k) now) (okB (insZ l k) now) (l.length + 1) (r.map (shK k)) := by
  constructor
  · have hnd1 : (r.map (shK k)).Nodup := by
      have hn := h.nodup
      unfold List.Nodup at hn ⊢
      rw [List.pairwise_map]
      exact hn.imp (fun hne e => hne (shK_inj e))
    have hnd2 : ((List.range (l.length + 1)).filter (okB (insZ l k) now)).Nodup := List.nodup_range.filter _
    rw [List.perm_ext_iff_of_nodup hnd1 hnd2]
    intro x
    rw [List.mem_map, List.mem_filter, List.mem_range]
    constructor
    · rintro ⟨i, hi, rfl⟩
      have hm := List.mem_filter.1 (h.1.mem_iff.1 hi)
      have hi2 : i < l.length := by simpa using hm.1
      exact ⟨by unfold shK; split <;> omega, by rw [ok_sh hk]; exact hm.2⟩
    · rintro ⟨hx, hok⟩
      have hxk : x ≠ k := fun e => by
        rw [e, ok_new hk] at hok
        cases hok
      obtain ⟨i, rfl⟩ : ∃ i, x = shK k i := by
        by_cases hlt : x < k
        · exact ⟨x, by unfold shK; rw [if_pos hlt]⟩
        · exact ⟨x - 1, by unfold shK; rw [if_neg (by omega)]; omega⟩
      rw [ok_sh hk] at hok
      refine ⟨i, h.1.mem_iff.2 (List.mem_filter.2 ⟨List.mem_range.2 ?_, hok⟩), rfl⟩
      unfold shK at hx
      split at hx <;> omega
  · rw [List.pairwise_map]
    refine h.2.imp ?_
    intro a b hab
    unfold rkLe at hab ⊢
    rw [sc_sh hk, sc_sh hk]
    have := @shK_mono k a b
    omega
end Fl
