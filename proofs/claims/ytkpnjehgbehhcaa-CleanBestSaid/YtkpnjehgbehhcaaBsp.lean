/- No full zone is worth more than the one that Next names. Plain. -/
import Derived.Test.YtkpnjehgbehhcaaCep
import Derived.Test.YtkpnjehgbehhcaaStp
namespace Fl
open Go Go.Proofs Go.Proofs.Ytkpnjehgbehhcaa

theorem fin_inf {x : Nat} (f : fin x) : fgt x infW = false ∧ feq x infW = false := by
  obtain ⟨m, i, hr, _⟩ := rv_read f
  have hi : D.read infW = .infinity false := by decide
  unfold fgt feq Ieee.Format.order
  rw [hi, hr]
  exact ⟨rfl, rfl⟩
theorem fin_less {x y : Nat} (f : fin x) (g : fin y) (h : rv x < rv y) : fgt x y = false ∧ feq x y = false := by
  unfold fgt feq
  rw [order_fin f g, if_pos h]
  exact ⟨rfl, rfl⟩
theorem nan_less {x : Nat} (y : Nat) (h : isNaN x = true) : fgt x y = false ∧ feq x y = false := by
  have := nan_order_l y h
  unfold fgt feq
  rw [this]
  exact ⟨rfl, rfl⟩
/-- a score that is not worth it -/
theorem no_facts {l s t now : Int} (he : scoreE l s t now = 0) (h : okZ now (l, s, t) = false) : isNaN (scoreV l s t now) = true ∨ (fin (scoreV l s t now) ∧ rv (scoreV l s t now) = 0) := by
  have hn : nowB l s t now = true := by
    unfold scoreE at he
    cases hb : nowB l s t now
    · rw [hb] at he; exact absurd he (by decide)
    · rfl
  have hv : scoreV l s t now = rscoreF l s t now := by rw [score_same]; unfold rscoreV; rw [hn]; rfl
  unfold okZ at h
  unfold nowB at hn
  rw [Bool.and_eq_true] at hn
  obtain ⟨m1, m2, m3, m4, m5⟩ := may_bounds hn.1
  have hnow := of_decide_eq_true hn.2
  simp only at h
  rw [he, hv] at h
  rw [hv]
  unfold rscoreF at h ⊢
  by_cases hs : s = 0
  · rw [if_pos hs]; exact .inl cN_nan
  · rw [if_neg hs] at h ⊢
    by_cases hl : l = 0
    · rw [if_pos hl] at h
      exact absurd h (by decide)
    · rw [if_neg hl] at h ⊢
      obtain ⟨u1, u2, u3⟩ := use_bounds (l := l) m1 m2 (by omega) m3
      obtain ⟨_, _, _, w1, w2, w3⟩ := worth_parts u1 u2 u3 (a := now - t) (by omega) (by omega)
      rw [feq_zero w1, fin_not_nan w1] at h
      right
      refine ⟨w1, ?_⟩
      by_cases hz : rv (worthF (useF l s) (now - t)) = 0
      · exact hz
      · rw [decide_eq_false hz] at h
        exact absurd h (by decide)
theorem pos_gt {x : Nat} (h : x = infW ∨ (fin x ∧ 0 < rv x)) : fgt x 0 = true := by
  rcases h with rfl | ⟨f, h⟩
  · decide
  · have h3 : D.order x 0 = some .gt := by
      rw [order_fin f zero_fin.1, zero_fin.2, if_neg (by grind), if_neg (by grind)]
    unfold fgt
    rw [h3]; rfl
/-- one that stands behind another is not worth more -/
theorem rank_less {l : List Zn} {now : Int} {a b : Nat} (ha : okB l now a = true) (hb : okB l now b = true) (hle : rkLe (scS l now) a b) : fgt (scS l now b) (scS l now a) = false ∧ (feq (scS l now b) (scS l now a) = false ∨ a ≤ b) := by
  obtain ⟨_, _, _, _, x64, fx⟩ := okB_facts ha
  obtain ⟨_, _, _, _, y64, fy⟩ := okB_facts hb
  unfold rkLe at hle
  generalize scS l now a = X at *
  generalize scS l now b = Y at *
  have same : X = Y → isNaN X = false → fgt Y X = false := fun e hn => by
    subst e
    unfold fgt
    rw [order_self, hn]; rfl
  have hni : isNaN infW = false := by decide
  rcases fx with ⟨_, rfl⟩ | ⟨_, f1, p1⟩
  · rcases fy with ⟨_, rfl⟩ | ⟨_, f2, p2⟩
    · exact ⟨same rfl hni, .inr (by omega)⟩
    · exact ⟨(fin_inf f2).1, .inl (fin_inf f2).2⟩
  · rcases fy with ⟨_, rfl⟩ | ⟨_, f2, p2⟩
    · exfalso
      have := ckf_inf x64 f1
      omega
    · obtain ⟨k1, v1⟩ := key_pos x64 f1 p1
      obtain ⟨k2, v2⟩ := key_pos y64 f2 p2
      rcases hle with h | ⟨h, h2⟩
      · have hlt : rung Y < rung X := by omega
        have := VR_lt hlt
        rw [← v1, ← v2] at this
        exact ⟨(fin_less f2 f1 this).1, .inl (fin_less f2 f1 this).2⟩
      · have e : X = Y := by
          have hc := (ckf_canon x64 y64).1 h
          rwa [canon_of_not (fin_not_nan f1), canon_of_not (fin_not_nan f2)] at hc
        exact ⟨same e (fin_not_nan f1), .inr h2⟩
end Fl
namespace Go.Proofs.Ytkpnjehgbehhcaa
open Go.RowKit Fl

def zsc (V : Int → List Int) (size hz now : Int) (r : List Cp) : Nat := scoreV (zoneOf V size hz r).1 (zoneOf V size hz r).2.1 (zoneOf V size hz r).2.2 now
def zse (V : Int → List Int) (size hz now : Int) (r : List Cp) : Int := scoreE (zoneOf V size hz r).1 (zoneOf V size hz r).2.1 (zoneOf V size hz r).2.2 now
theorem next_best {V : Int → List Int} {L : List (List Cp)} {size hz now : Int} (ok : NextOk V L size hz now) :
    zse V size hz now (L.getD (nextZ V L size hz now) []) = 0 ∧ fgt (zsc V size hz now (L.getD (nextZ V L size hz now) [])) 0 = true ∧
      ∀ i, i < L.length → ((L.getD i []).length : Int) = size → zse V size hz now (L.getD i []) = 0 →
        fgt (zsc V size hz now (L.getD i [])) (zsc V size hz now (L.getD (nextZ V L size hz now) [])) = false ∧
          (feq (zsc V size hz now (L.getD i [])) (zsc V size hz now (L.getD (nextZ V L size hz now) [])) = false ∨ nextZ V L size hz now ≤ i) := by
  have hr := nextR_is V L size hz now
  have hp := nextK_place ok.rank
  have hlp : 0 < (nextR V L size hz now).length := List.length_pos_iff.2 ok.rank
  have hok := hr.mem hlp
  have hck : (nextR V L size hz now).getD 0 0 = chK (nextR V L size hz now) := by
    unfold chK
    cases nextR V L size hz now <;> rfl
  rw [hck] at hok
  have hz0 : (fullZ V size hz L L.length).getD (chK (nextR V L size hz now)) (0, 0, 0) = zoneOf V size hz (L.getD (nextZ V L size hz now) []) := by rw [fullZ_get hp, ← ok.zone]
  have hsc : scS (fullZ V size hz L L.length) now (chK (nextR V L size hz now)) = zsc V size hz now (L.getD (nextZ V L size hz now) []) := by rw [scS_ok hok.2, hz0]; rfl
  have hf := (okB_facts hok.2).2.2.2.2.2
  have hoz : okZ now (zoneOf V size hz (L.getD (nextZ V L size hz now) [])) = true := by rw [← hz0]; exact hok.2
  have hse : zse V size hz now (L.getD (nextZ V L size hz now) []) = 0 := by
    unfold okZ at hoz
    simp only [Bool.and_eq_true, beq_iff_eq] at hoz
    exact hoz.1.1
  rw [hsc] at hf
  have hpos : zsc V size hz now (L.getD (nextZ V L size hz now) []) = infW ∨ (fin (zsc V size hz now (L.getD (nextZ V L size hz now) [])) ∧ 0 < rv (zsc V size hz now (L.getD (nextZ V L size hz now) []))) := by
    rcases hf with ⟨_, h⟩ | ⟨_, h1, h2⟩
    · exact .inl h
    · exact .inr ⟨h1, h2⟩
  refine ⟨hse, pos_gt hpos, fun i hi hl he => ?_⟩
  cases hoi : okZ now (zoneOf V size hz (L.getD i [])) with
  | false =>
    have hx := no_facts he (by rw [← hoi])
    change isNaN (zsc V size hz now (L.getD i [])) = true ∨ (fin (zsc V size hz now (L.getD i [])) ∧ rv (zsc V size hz now (L.getD i [])) = 0) at hx
    rcases hx with h | ⟨h, h0⟩
    · exact ⟨(nan_less _ h).1, .inl (nan_less _ h).2⟩
    · rcases hpos with e | ⟨f, p⟩
      · rw [e]
        exact ⟨(fin_inf h).1, .inl (fin_inf h).2⟩
      · have := fin_less h f (by rw [h0]; exact p)
        exact ⟨this.1, .inl this.2⟩
  | true =>
    have hm : i ∈ fullN L size L.length := List.mem_filter.2 ⟨List.mem_range.2 hi, by rw [decide_eq_false (by omega)]; rfl⟩
    obtain ⟨j, hj, hji⟩ := List.getElem_of_mem hm
    have hjd : (fullN L size L.length).getD j 0 = i := by rw [List.getD_eq_getElem?_getD, List.getElem?_eq_getElem hj]; exact hji
    have hzj : (fullZ V size hz L L.length).getD j (0, 0, 0) = zoneOf V size hz (L.getD i []) := by rw [fullZ_get hj, hjd]
    have hokj : okB (fullZ V size hz L L.length) now j = true := by unfold okB; rw [hzj]; exact hoi
    have hscj : scS (fullZ V size hz L L.length) now j = zsc V size hz now (L.getD i []) := by rw [scS_ok hokj, hzj]; rfl
    have hle : rkLe (scS (fullZ V size hz L L.length) now) (chK (nextR V L size hz now)) j := by
      have hjm : j ∈ nextR V L size hz now := hr.1.mem_iff.2 (List.mem_filter.2 ⟨List.mem_range.2 (by rw [fullZ_len]; exact hj), hokj⟩)
      obtain ⟨q, hq, hqj⟩ := List.getElem_of_mem hjm
      have hqd : (nextR V L size hz now).getD q 0 = j := by rw [List.getD_eq_getElem?_getD, List.getElem?_eq_getElem hq]; exact hqj
      rcases Nat.eq_zero_or_pos q with e | e
      · rw [e, hck] at hqd
        rw [hqd]
        unfold rkLe
        omega
      · have := hr.le e hq
        rw [hck, hqd] at this
        exact this
    have hrl := rank_less hok.2 hokj hle
    rw [hsc, hscj] at hrl
    refine ⟨hrl.1, ?_⟩
    rcases hrl.2 with h | h
    · exact .inl h
    · right
      have hsorted : (fullN L size L.length).Pairwise (· < ·) := List.pairwise_lt_range.filter _
      rw [ok.zone]
      rcases Nat.eq_or_lt_of_le h with e | e
      · rw [e, hjd]; exact Nat.le_refl _
      · have := (List.pairwise_iff_getElem.1 hsorted) _ j hp hj e
        rw [hji] at this
        rw [List.getD_eq_getElem?_getD, List.getElem?_eq_getElem hp]
        exact Nat.le_of_lt this
end Go.Proofs.Ytkpnjehgbehhcaa
