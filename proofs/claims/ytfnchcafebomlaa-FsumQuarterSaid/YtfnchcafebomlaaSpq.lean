/- FsumMiddle: the spread of whole numbers is not below 0, and is 0 just where all are one. -/
import Derived.Test.YtfnchcafebomlaaSpp
namespace Fl
open Go

theorem sq_nonneg (d : Rat) : 0 ≤ d * d := by
  rcases lt_or_le d 0 with h | h
  · have := Rat.mul_nonneg (a := -d) (b := -d) (by grind) (by grind); grind
  · exact Rat.mul_nonneg h h
theorem sq_le {d b : Rat} (h1 : -b ≤ d) (h2 : d ≤ b) : d * d ≤ b * b := by
  have := Rat.mul_nonneg (a := b - d) (b := b + d) (by grind) (by grind); grind
theorem sq_ge {d : Rat} (h : d ≤ -(1/2) ∨ 1/2 ≤ d) : 1 / 4 ≤ d * d := by
  rcases h with h | h
  · have := Rat.mul_nonneg (a := -d - 1/2) (b := -d - 1/2) (by grind) (by grind); grind
  · have := Rat.mul_nonneg (a := d - 1/2) (b := d - 1/2) (by grind) (by grind); grind

theorem rat_nat (n : Nat) : ((n : Int) : Rat) = (n : Rat) := Rat.intCast_natCast n

def e955 : Nat := 955
theorem big_bound : (4000000000000 : Rat) ≤ bigB := by
  have h : ((2 ^ 42 : Nat) : Rat) ≤ bigB := by
    rw [natPow]; unfold bigB
    have h1 := zpow_add' ((42 : Nat) : Int) ((e955 : Nat) : Int)
    rw [show ((42 : Nat) : Int) + ((e955 : Nat) : Int) = 997 from by decide] at h1
    rw [h1]
    have h2 : (1 : Rat) ≤ 2 ^ ((e955 : Nat) : Int) := by
      rw [← natPow, show (1 : Rat) = ((1 : Nat) : Rat) from rfl]
      exact Rat.natCast_le_natCast.2 (Nat.one_le_two_pow)
    have := Rat.mul_le_mul_of_nonneg_left h2 (c := (2 : Rat) ^ ((42 : Nat) : Int)) (by have := zpow_pos' ((42 : Nat) : Int); grind)
    grind
  have : (4000000000000 : Rat) ≤ ((2 ^ 42 : Nat) : Rat) := by
    rw [show (4000000000000 : Rat) = ((4000000000000 : Nat) : Rat) from rfl]
    exact Rat.natCast_le_natCast.2 (by decide)
  grind

/-- one square -/
theorem sq_facts {m : Nat} (v : Int) (hm : fin m) (h1 : -1000000 ≤ rv m) (h2 : rv m ≤ 1000000) (h3 : -1000000 ≤ v) (h4 : v ≤ 1000000) :
    Lim 1 (fmul (fsub (ofInt v) m) (fsub (ofInt v) m)) ∧ 0 ≤ rv (fmul (fsub (ofInt v) m) (fsub (ofInt v) m)) ∧
    (rv m = v → Nought (fmul (fsub (ofInt v) m) (fsub (ofInt v) m))) ∧
    ((v : Rat) - rv m ≤ -(1/2) ∨ 1/2 ≤ (v : Rat) - rv m → 1 / 4 ≤ rv (fmul (fsub (ofInt v) m) (fsub (ofInt v) m))) := by
  obtain ⟨o1, o2⟩ := ofInt_fin v (by omega)
  have q3 : (-1000000 : Rat) ≤ v := by
    have := Rat.intCast_le_intCast.2 h3; rwa [show ((-1000000 : Int) : Rat) = -1000000 from rfl] at this
  have q4 : (v : Rat) ≤ 1000000 := by
    have := Rat.intCast_le_intCast.2 h4; rwa [show ((1000000 : Int) : Rat) = 1000000 from rfl] at this
  have hr := fsub_rn o1 hm
  rw [o2] at hr
  have r2 : Rep 2000000 := by have := rep_nat 2000000 (by decide); rwa [show ((2000000 : Nat) : Rat) = 2000000 from rfl] at this
  have r4 : Rep 4000000000000 := by have := rep_nat 4000000000000 (by decide); rwa [show ((4000000000000 : Nat) : Rat) = 4000000000000 from rfl] at this
  obtain ⟨d1, d2, d3⟩ := hr.between r2.neg r2 (by grind) (by grind)
  have hq := fmul_rn d1 d1
  have n0 := sq_nonneg (rv (fsub (ofInt v) m))
  have n1 := sq_le d2 d3
  obtain ⟨e1, e2, e3⟩ := hq.between Rep.zero r4 n0 (by grind)
  have hB := big_bound
  refine ⟨⟨e1, ?_⟩, e2, fun he => ?_, fun he => ?_⟩
  · rw [ab_nonneg_eq e2, show ((1 : Nat) : Rat) = 1 from rfl, Rat.one_mul]; grind
  · rw [he, show (v : Rat) - v = 0 by grind] at hr
    obtain ⟨z1, z2⟩ := hr.exact Rep.zero
    rw [z2, show (0 : Rat) * 0 = 0 by grind] at hq
    exact hq.exact Rep.zero
  · have hd : rv (fsub (ofInt v) m) ≤ -(1/2) ∨ 1/2 ≤ rv (fsub (ofInt v) m) := by
      rcases he with he | he
      · exact .inl (hr.between r2.neg rep_half.neg (by grind) he).2.2
      · exact .inr (hr.between rep_half r2 he (by grind)).2.1
    exact (hq.between rep_quarter r4 (sq_ge hd) (by grind)).2.1

theorem spread_whole (l : List Int) (low high : Int) (h0 : l ≠ []) (hl : l.length ≤ 200) (hb : ∀ x ∈ l, low ≤ x ∧ x ≤ high) (hlow : low ∈ l) (hhigh : high ∈ l) (h1 : -1000000 ≤ low) (h2 : high ≤ 1000000) :
    fge (spreadV (l.map ofInt)) 0 = true ∧ feq (spreadV (l.map ofInt)) 0 = (low == high) := by
  obtain ⟨m1, m2, m3⟩ := mean_between l low high h0 (by omega) hb h1 h2
  have hpos : 0 < l.length := List.length_pos_iff.2 h0
  have hlh := hb low hlow
  have g1 : (-1000000 : Rat) ≤ low := by
    have := Rat.intCast_le_intCast.2 h1; rwa [show ((-1000000 : Int) : Rat) = -1000000 from rfl] at this
  have g2 : (high : Rat) ≤ 1000000 := by
    have := Rat.intCast_le_intCast.2 h2; rwa [show ((1000000 : Int) : Rat) = 1000000 from rfl] at this
  have hmne : l.map ofInt ≠ [] := by simpa using h0
  have hsp : spreadV (l.map ofInt) = fdiv (sumF (sqs (meanF (l.map ofInt)) (l.map ofInt))) (ofInt l.length) := by
    unfold spreadV; rw [if_neg hmne]; show fdiv _ (ofInt (sqs _ _).length) = _; rw [sqs_len, List.length_map]
  rw [hsp]
  generalize meanF (l.map ofInt) = m at *
  have hqs : ∀ q ∈ sqs m (l.map ofInt), ∃ v ∈ l, q = fmul (fsub (ofInt v) m) (fsub (ofInt v) m) := fun q hq => by
    unfold sqs at hq
    rw [List.map_map] at hq
    obtain ⟨v, hv, rfl⟩ := List.mem_map.1 hq
    exact ⟨v, hv, rfl⟩
  have hqm : ∀ v ∈ l, fmul (fsub (ofInt v) m) (fsub (ofInt v) m) ∈ sqs m (l.map ofInt) := fun v hv => by
    unfold sqs
    rw [List.map_map]
    exact List.mem_map.2 ⟨v, hv, rfl⟩
  have hlen : (sqs m (l.map ofInt)).length = l.length := by rw [sqs_len, List.length_map]
  have F := fun v (hv : v ∈ l) => sq_facts v m1 (by grind) (by grind) (by have := hb v hv; omega) (by have := hb v hv; omega)
  obtain ⟨n1, n2, n3⟩ := ofInt_pos (n := (l.length : Int)) (by omega) (by omega)
  have hn : (0 : Rat) < ((l.length : Int) : Rat) := Rat.intCast_pos.2 (by omega)
  by_cases he : low = high
  · subst he
    have hN := sum_noughts (sqs m (l.map ofInt)) (fun q hq => by
      obtain ⟨v, hv, rfl⟩ := hqs q hq
      have hvl : v = low := by have := hb v hv; omega
      exact (F v hv).2.2.1 (by rw [hvl]; grind))
    have hd := fdiv_rn hN.1 n1 n3
    rw [hN.2, show (0 : Rat) / rv (ofInt l.length) = 0 from by rw [Rat.div_def, Rat.zero_mul]] at hd
    obtain ⟨z1, z2⟩ := hd.exact Rep.zero
    refine ⟨?_, ?_⟩
    · rw [fge_eq, fle_fin zero_fin.1 z1, zero_fin.2, z2]; simp
    · rw [feq_zero z1, z2]; simp
  · have hlt : low < high := by omega
    have hfar : ∃ v ∈ l, (v : Rat) - rv m ≤ -(1/2) ∨ 1/2 ≤ (v : Rat) - rv m := by
      have h1 : (low : Rat) + 1 ≤ high := by
        have := Rat.intCast_le_intCast.2 (show low + 1 ≤ high by omega)
        rwa [Rat.intCast_add, show ((1 : Int) : Rat) = 1 from rfl] at this
      rcases lt_or_le (rv m) ((low : Rat) + 1/2) with h | h
      · exact ⟨high, hhigh, .inr (by grind)⟩
      · exact ⟨low, hlow, .inl (by grind)⟩
    obtain ⟨v, hv, hvf⟩ := hfar
    obtain ⟨K, hK, s1, s2⟩ := sum_pos (sqs m (l.map ofInt)) (by rw [hlen]; omega) (fun q hq => by
      obtain ⟨u, hu, rfl⟩ := hqs q hq
      exact ⟨(F u hu).1, (F u hu).2.1⟩) ⟨_, hqm v hv, (F v hv).2.2.2 hvf⟩
    have hd := fdiv_rn s1.1 n1 n3
    rw [n2] at hd
    have t2 := tiny_pos
    obtain ⟨u1, u2⟩ := ab_between s1.2
    have hnb : ((l.length : Int) : Rat) ≤ 2048 := by
      rw [show (2048 : Rat) = ((2048 : Int) : Rat) from rfl]; exact Rat.intCast_le_intCast.2 (by omega)
    have hn1 : (1 : Rat) ≤ ((l.length : Int) : Rat) := by
      rw [show (1 : Rat) = ((1 : Int) : Rat) from rfl]; exact Rat.intCast_le_intCast.2 (by omega)
    obtain ⟨z1, z2, _⟩ := hd.between rep_tiny (rep_big K (by omega)) (by
        refine le_div hn ?_
        have := Rat.mul_le_mul_of_nonneg_left hnb (c := tiny) (by grind)
        grind) (by
        refine div_le hn ?_
        have h3 : (0 : Rat) ≤ (K : Rat) * bigB := by grind
        have := Rat.mul_le_mul_of_nonneg_left hn1 h3
        grind)
    refine ⟨?_, ?_⟩
    · rw [fge_eq, fle_fin zero_fin.1 z1, zero_fin.2]; simp; grind
    · rw [feq_zero z1, show (low == high) = false by simpa using he, decide_eq_false_iff_not]; grind
end Fl
