/- scarpalike's Sum, Puts, Txs; small. -/
import Derived.Test.YtkpnjehgbehhcaaCpy
import Derived.Test.YtkpnjehgbehhcaaProg
import Derived.Deep.QuietTactic
import Derived.BigQuiet
namespace Go.Proofs.Ytkpnjehgbehhcaa
open Go.RowKit

def s1 (n x : Int) : Int := if x > 1099511627776 - n then 1099511627776 else n + x
theorem s1_range {n x : Int} (hn : 0 ≤ n ∧ n ≤ 1099511627776) (hx : 0 ≤ x) : 0 ≤ s1 n x ∧ s1 n x ≤ 1099511627776 := by
  unfold s1; split <;> omega
def sumC (n : Int) : List Int → Int
  | [] => n
  | x :: r => if 1099511627776 - n < x then 1099511627776 else sumC (n + x) r
theorem sumC_one {n x : Int} : sumC n [x] = s1 n x := by
  simp only [sumC, s1]

theorem sumC_two {n x : Int} : sumC n [x, 1] = if 1099511627776 - n < x then 1099511627776 else s1 (n + x) 1 := by
  simp only [sumC, s1]

set_option maxHeartbeats 1600000 in
set_option maxRecDepth 8000 in
theorem sum_any (n : Int) (l : List Int) (hl : l.length ≤ 1000000) (hn : 0 ≤ n ∧ n ≤ 1099511627776) (hx : ∀ x ∈ l, 0 ≤ x) (b : Nat) (w : World) (hc : ∀ i (h : i < l.length), w.cell? ⟨b, i, none⟩ = some (.int .i64 l[i])) :
    Calls Try.prog 23 #[.int .i64 n, .slice (some ⟨b, 0, none⟩) l.length l.length] w fun e w' => e = .returned (.int .i64 (sumC n l)) ∧ w' = w := by
  have HC := Lib.hid hc
  have HX := Lib.hid hx
  clear hc hx
  go_enter Try.func23, Try.ntmps23
  go_wp2
  go_loop [5, 0] (fun i m => ∃ (k : Nat) (q : Int), k ≤ l.length ∧ i = .int .i64 k ∧ m = .int .i64 q ∧ 0 ≤ q ∧ q ≤ 1099511627776 ∧ Hid (sumC q (l.drop k) = sumC n l)) (fun i _ => l.length - (intOf i).toNat)
  case atStart => exact ⟨0, n, Nat.zero_le _, rfl, rfl, hn.1, hn.2, rfl⟩
  case round =>
    obtain ⟨k, q, hk, rfl, rfl, h0, hM, hS⟩ := hrel
    by_cases hlt : k < l.length
    · have hcell := HC.out k hlt
      have hx0 := HX.out l[k] (List.getElem_mem hlt)
      have hS' : Hid (sumC n l = if 1099511627776 - q < l[k] then 1099511627776 else sumC (q + l[k]) (l.drop (k + 1))) := by
        have := hS.out
        rw [List.drop_eq_getElem_cons hlt] at this
        exact this.symm
      clear HC HX hS
      generalize l[k] = x at *
      have h1 : decide (1099511627776 < q) = false := decide_eq_false (by omega)
      have hs : IntKind.i64.wrap (1099511627776 - q) = 1099511627776 - q := IntWalk.i64_in _ (by omega)
      by_cases h : 1099511627776 - q < x
      · have hd : decide (1099511627776 - q < x) = true := decide_eq_true h
        go_wp2
        go_ret
        have := hS'.out
        rw [if_pos h] at this
        exact ⟨by rw [this]; rfl, rfl⟩
      · have hd : decide (1099511627776 - q < x) = false := decide_eq_false h
        have ha : IntKind.i64.wrap (q + x) = q + x := IntWalk.i64_in _ (by omega)
        go_wp2
        refine ⟨⟨k + 1, q + x, by omega, by go_num, rfl, by omega, by omega, ?_⟩, by simp [intOf]; omega⟩
        have := hS'.out
        rw [if_neg h] at this
        exact this.symm
    · have hS' : Hid (sumC n l = q) := by
        have := hS.out
        rw [List.drop_eq_nil_of_le (by omega)] at this
        exact this.symm
      clear HC HX hS
      go_wp2
      go_ret
      exact ⟨by rw [hS'.out]; rfl, rfl⟩

theorem SlG.at {w : World} {k : Nat} {v : Value} {n : Nat} {p : Nat → Nat → Value → Prop} {a : Option Addr} {m cap : Nat} (h : SlG w k v n p) (hv : v = .slice a m cap) {i : Nat} (hi : i < n) :
    ∃ b o, a = some ⟨b, o, none⟩ ∧ b < w.heap.size ∧ ∀ j, j < k → ∃ u, w.cell? ⟨b, o + i * k + j, none⟩ = some u ∧ p i j u := by
  obtain ⟨a', cap', rfl, _, _, _, h⟩ := h
  simp only [Value.slice.injEq] at hv
  obtain ⟨rfl, _, _⟩ := hv
  exact h i hi
theorem SlG.form {w : World} {k : Nat} {v : Value} {n : Nat} {p : Nat → Nat → Value → Prop} (h : SlG w k v n p) : ∃ a cap, v = .slice a n cap ∧ (a = none → cap = 0) ∧ n ≤ cap ∧ cap ≤ 9223372036854775807 := by
  obtain ⟨a, cap, h1, h2, h3, h4, _⟩ := h
  exact ⟨a, cap, h1, h2, h3, h4⟩
theorem SlP.at {w : World} {v : Value} {l : List Pt} {a : Option Addr} {m cap : Nat} (h : SlP w v l) (hv : v = .slice a m cap) {i : Nat} (hi : i < l.length) :
    ∃ b o u, a = some ⟨b, o, none⟩ ∧ b < w.heap.size ∧ w.cell? ⟨b, o + i * 2, none⟩ = some (.int .i64 (l.getD i (0, 0)).1) ∧ w.cell? ⟨b, o + i * 2 + 1, none⟩ = some u ∧ SlB w u (l.getD i (0, 0)).2 := by
  obtain ⟨b, o, h1, h2, h3⟩ := SlG.at h hv hi
  obtain ⟨u0, c0, p0⟩ := h3 0 (by decide)
  obtain ⟨u1, c1, p1⟩ := h3 1 (by decide)
  rcases p0 with ⟨_, rfl⟩ | ⟨h, _⟩
  · rcases p1 with ⟨h, _⟩ | ⟨_, p1⟩
    · exact absurd h (by decide)
    · exact ⟨b, o, u1, h1, h2, c0, c1, p1⟩
  · exact absurd h (by decide)
theorem SlT.at {w : World} {v : Value} {l : List Tx} {a : Option Addr} {m cap : Nat} (h : SlT w v l) (hv : v = .slice a m cap) {i : Nat} (hi : i < l.length) :
    ∃ b o u, a = some ⟨b, o, none⟩ ∧ b < w.heap.size ∧ w.cell? ⟨b, o + i * 2, none⟩ = some (.int .i64 (l.getD i (0, [])).1) ∧ w.cell? ⟨b, o + i * 2 + 1, none⟩ = some u ∧ SlP w u (l.getD i (0, [])).2 := by
  obtain ⟨b, o, h1, h2, h3⟩ := SlG.at h hv hi
  obtain ⟨u0, c0, p0⟩ := h3 0 (by decide)
  obtain ⟨u1, c1, p1⟩ := h3 1 (by decide)
  rcases p0 with ⟨_, rfl⟩ | ⟨h, _⟩
  · rcases p1 with ⟨h, _⟩ | ⟨_, p1⟩
    · exact absurd h (by decide)
    · exact ⟨b, o, u1, h1, h2, c0, c1, p1⟩
  · exact absurd h (by decide)
theorem SlC.at {w : World} {v : Value} {l : List Cp} {a : Option Addr} {m cap : Nat} (h : SlC w v l) (hv : v = .slice a m cap) {i : Nat} (hi : i < l.length) :
    ∃ b o, a = some ⟨b, o, none⟩ ∧ b < w.heap.size ∧ w.cell? ⟨b, o + i * 2, none⟩ = some (.int .i64 (l.getD i (0, 0)).1) ∧ w.cell? ⟨b, o + i * 2 + 1, none⟩ = some (.int .i64 (l.getD i (0, 0)).2) := by
  obtain ⟨b, o, h1, h2, h3⟩ := SlG.at h hv hi
  obtain ⟨u0, c0, p0⟩ := h3 0 (by decide)
  obtain ⟨u1, c1, p1⟩ := h3 1 (by decide)
  rcases p0 with ⟨_, rfl⟩ | ⟨h, _⟩
  · rcases p1 with ⟨h, _⟩ | ⟨_, rfl⟩
    · exact absurd h (by decide)
    · exact ⟨b, o, h1, h2, c0, c1⟩
  · exact absurd h (by decide)
theorem SlR.at {w : World} {v : Value} {L : List (List Cp)} {a : Option Addr} {m cap : Nat} (h : SlR w v L) (hv : v = .slice a m cap) {i : Nat} (hi : i < L.length) :
    ∃ b o u, a = some ⟨b, o, none⟩ ∧ b < w.heap.size ∧ w.cell? ⟨b, o + i, none⟩ = some u ∧ SlC w u (L.getD i []) := by
  obtain ⟨b, o, h1, h2, h3⟩ := SlG.at h hv hi
  obtain ⟨u0, c0, p0⟩ := h3 0 (by decide)
  rw [Nat.mul_one] at c0
  exact ⟨b, o, u0, h1, h2, c0, p0⟩

theorem sum_one (n x : Int) (hn : 0 ≤ n ∧ n ≤ 1099511627776) (hx : 0 ≤ x) (b : Nat) (w : World) (hc : w.cell? ⟨b, 0, none⟩ = some (.int .i64 x)) :
    Calls Try.prog 23 #[.int .i64 n, .slice (some ⟨b, 0, none⟩) 1 1] w fun e w' => e = .returned (.int .i64 (s1 n x)) ∧ w' = w := by
  have := sum_any n [x] (by simp) hn (by simpa using hx) b w (fun i hi => by
    have : i = 0 := by simpa using hi
    subst this; exact hc)
  rw [sumC_one] at this
  exact this

set_option maxHeartbeats 1600000 in
set_option maxRecDepth 8000 in
theorem puts_any (v : Value) (l : List Pt) (top : Int) (w : World) (h : SlP w v l) :
    Calls Try.prog 42 #[v, .int .i64 top] w fun e w' => (∃ r, e = .returned (.int .i64 r) ∧ 0 ≤ r ∧ r ≤ 1099511627776) ∧ Below w.heap.size w w' := by
  obtain ⟨a, cap, rfl, ha, hle, hcap⟩ := h.form
  have HP := Lib.hid h
  clear h
  generalize hB : w.heap.size = B
  have hB0 : Hid (B ≤ w.heap.size) := Nat.le_of_eq hB.symm
  have HC : Hid (∀ i, i < l.length → ∃ b o u x c, a = some ⟨b, o, none⟩ ∧ (∀ w', Hid (Below B w w') → w'.cell? ⟨b, o + i * 2 + 1, none⟩ = some u) ∧ u = .slice x (l.getD i (0, 0)).2 c ∧ (l.getD i (0, 0)).2 ≤ 9223372036854775807) := fun i hi => by
    obtain ⟨b, o, u, h1, h2, _, h4, h5⟩ := HP.out.at rfl hi
    obtain ⟨x, c, h6, _, h7, h8⟩ := h5.form
    exact ⟨b, o, u, x, c, h1, fun w' hb => by rw [hb.out.cell (p := ⟨b, o + i * 2 + 1, none⟩) (by rw [← hB]; exact h2)]; exact h4, h6, by omega⟩
  clear HP hB
  have hr0 := s1_range (n := 0) (x := (l.length : Int)) (by omega) (by omega)
  go_enter Try.func42, Try.ntmps42
  go_wp2_with (go_at_call 23; refine (sum_one 0 (l.length : Int) (by omega) (by omega) _ _ (World.cell?_alloc_at _ _ _ 0 rfl)).mono ?_; rintro e w1 ⟨rfl, rfl⟩)
  have hbs : Hid (Below B w (w.alloc (.cells #[.int .i64 (l.length : Int)] 3))) := (Below.refl B w).alloc hB0.out _
  generalize s1 0 (l.length : Int) = r0 at *
  generalize w.alloc (.cells #[.int .i64 (l.length : Int)] 3) = w0 at *
  go_loopw [5, 6] (fun n i wr => ∃ (k : Nat) (q : Int), k ≤ l.length ∧ i = .int .i64 k ∧ n = .int .i64 q ∧ 0 ≤ q ∧ q ≤ 1099511627776 ∧ Hid (Below B w wr)) (fun _ i _ => l.length - (intOf i).toNat)
  case atStart => exact ⟨0, r0, Nat.zero_le _, rfl, rfl, hr0.1, hr0.2, hbs⟩
  case round =>
    obtain ⟨k, q, hk, rfl, rfl, h0, hM, hb⟩ := hrel
    by_cases hlt : k < l.length
    · by_cases hq : q ≤ top
      · obtain ⟨b, o, u, x, c, rfl, hcell, rfl, hn⟩ := HC.out k hlt
        have hc1 := hcell wr hb
        have hS : Hid (B ≤ wr.heap.size) := Nat.le_trans hB0.out hb.out.size
        generalize (l.getD k (0, 0)).2 = m at *
        have hs := s1_range (n := q) (x := (m : Int)) ⟨h0, hM⟩ (by omega)
        clear HC hcell
        go_wp2_with (go_at_call 23; refine (sum_one q (m : Int) ⟨h0, hM⟩ (by omega) _ _ (World.cell?_alloc_at _ _ _ 0 rfl)).mono ?_; rintro e w1 ⟨rfl, rfl⟩)
        exact ⟨⟨k + 1, _, by omega, by go_num, rfl, hs.1, hs.2, hb.out.alloc hS.out _⟩, by simp [intOf]; omega⟩
      · clear HC
        have hd : decide (q ≤ top) = false := decide_eq_false hq
        go_wp2
        go_ret
        exact ⟨⟨q, rfl, h0, hM⟩, hb.out⟩
    · clear HC
      go_wp2
      go_ret
      exact ⟨⟨q, rfl, h0, hM⟩, hb.out⟩

set_option maxHeartbeats 1600000 in
set_option maxRecDepth 8000 in
theorem txs_any (v : Value) (l : List Tx) (top : Int) (w : World) (h : SlT w v l) :
    Calls Try.prog 24 #[v, .int .i64 top] w fun e w' => (∃ r, e = .returned (.int .i64 r) ∧ 0 ≤ r ∧ r ≤ 1099511627776) ∧ Below w.heap.size w w' := by
  obtain ⟨a, cap, rfl, ha, hle, hcap⟩ := h.form
  have HP := Lib.hid h
  clear h
  generalize hB : w.heap.size = B
  have hB0 : Hid (B ≤ w.heap.size) := Nat.le_of_eq hB.symm
  have HC : Hid (∀ i, i < l.length → ∃ b o u, a = some ⟨b, o, none⟩ ∧ (∀ w', Hid (Below B w w') → w'.cell? ⟨b, o + i * 2 + 1, none⟩ = some u ∧ SlP w' u (l.getD i (0, [])).2)) := fun i hi => by
    obtain ⟨b, o, u, h1, h2, _, h4, h5⟩ := HP.out.at rfl hi
    exact ⟨b, o, u, h1, fun w' hb => ⟨by rw [hb.out.cell (p := ⟨b, o + i * 2 + 1, none⟩) (by rw [← hB]; exact h2)]; exact h4, h5.below (by rw [hB]; exact hb.out)⟩⟩
  clear HP hB
  have hr0 := s1_range (n := 0) (x := (l.length : Int)) (by omega) (by omega)
  go_enter Try.func24, Try.ntmps24
  go_wp2_with (go_at_call 23; refine (sum_one 0 (l.length : Int) (by omega) (by omega) _ _ (World.cell?_alloc_at _ _ _ 0 rfl)).mono ?_; rintro e w1 ⟨rfl, rfl⟩)
  have hbs : Hid (Below B w (w.alloc (.cells #[.int .i64 (l.length : Int)] 3))) := (Below.refl B w).alloc hB0.out _
  generalize s1 0 (l.length : Int) = r0 at *
  generalize w.alloc (.cells #[.int .i64 (l.length : Int)] 3) = w0 at *
  go_loopw [5, 6] (fun n i wr => ∃ (k : Nat) (q : Int), k ≤ l.length ∧ i = .int .i64 k ∧ n = .int .i64 q ∧ 0 ≤ q ∧ q ≤ 1099511627776 ∧ Hid (Below B w wr)) (fun _ i _ => l.length - (intOf i).toNat)
  case atStart => exact ⟨0, r0, Nat.zero_le _, rfl, rfl, hr0.1, hr0.2, hbs⟩
  case round =>
    obtain ⟨k, q, hk, rfl, rfl, h0, hM, hb⟩ := hrel
    by_cases hlt : k < l.length
    · by_cases hq : q ≤ top
      · obtain ⟨b, o, u, rfl, hcell⟩ := HC.out k hlt
        obtain ⟨hc1, hP⟩ := hcell wr hb
        have HPu := Lib.hid hP
        have hS : Hid (B ≤ wr.heap.size) := Nat.le_trans hB0.out hb.out.size
        generalize (l.getD k (0, [])).2 = m at *
        clear HC hcell hP
        go_wp2_with (go_at_call 42; refine (puts_any _ m top _ HPu.out).mono ?_; rintro e w1 ⟨⟨r, rfl, hr1, hr2⟩, hb1⟩)
        have hs := s1_range (n := q) (x := r) ⟨h0, hM⟩ hr1
        have hb2 : Hid (Below B w w1) := hb.out.trans (hb1.mono hS.out)
        have hS2 : Hid (B ≤ w1.heap.size) := Nat.le_trans hB0.out hb2.out.size
        clear hb1
        go_wp2_with (go_at_call 23; refine (sum_one q r ⟨h0, hM⟩ hr1 _ _ (World.cell?_alloc_at _ _ _ 0 rfl)).mono ?_; rintro e w2 ⟨rfl, rfl⟩)
        exact ⟨⟨k + 1, _, by omega, by go_num, rfl, hs.1, hs.2, hb2.out.alloc hS2.out _⟩, by simp [intOf]; omega⟩
      · clear HC
        have hd : decide (q ≤ top) = false := decide_eq_false hq
        go_wp2
        go_ret
        exact ⟨⟨q, rfl, h0, hM⟩, hb.out⟩
    · clear HC
      go_wp2
      go_ret
      exact ⟨⟨q, rfl, h0, hM⟩, hb.out⟩

def tot (L : List (List Cp)) : Nat := (L.map fun r => r.length + 1).sum
theorem tot_take {L : List (List Cp)} {k : Nat} (h : k < L.length) : tot (L.take (k + 1)) = tot (L.take k) + ((L.getD k []).length + 1) := by
  unfold tot
  rw [List.take_add_one, List.map_append, List.sum_append, List.getElem?_eq_getElem h, List.getD_eq_getElem?_getD, List.getElem?_eq_getElem h]
  simp

set_option maxHeartbeats 1600000 in
set_option maxRecDepth 8000 in
theorem sum_two (n x : Int) (hn : 0 ≤ n ∧ n ≤ 1099511627776) (hx : 0 ≤ x) (b : Nat) (w : World) (h0 : w.cell? ⟨b, 0, none⟩ = some (.int .i64 x)) (h1 : w.cell? ⟨b, 1, none⟩ = some (.int .i64 1)) :
    Calls Try.prog 23 #[.int .i64 n, .slice (some ⟨b, 0, none⟩) 2 2] w fun e w' => (∃ r, e = .returned (.int .i64 r) ∧ 0 ≤ r ∧ r ≤ 1099511627776 ∧ (r ≤ 400 → r = n + x + 1)) ∧ w' = w := by
  refine (sum_any n [x, 1] (by simp) hn (by simpa using hx) b w (fun i hi => ?_)).mono ?_
  · match i, hi with
    | 0, _ => exact h0
    | 1, _ => exact h1
  · rintro e w' ⟨rfl, rfl⟩
    refine ⟨⟨_, rfl, ?_⟩, rfl⟩
    rw [sumC_two]
    unfold s1
    split
    · omega
    · split <;> omega

/-- what small returns -/
def SmR (l : List Tx) (L : List (List Cp)) (e : Ending) : Prop := ∃ r, e = .returned (.bool r) ∧ (r = true → tot L ≤ 400 ∧ l.length ≤ 60)
set_option maxHeartbeats 1600000 in
set_option maxRecDepth 8000 in
theorem small_any (v u : Value) (l : List Tx) (L : List (List Cp)) (w : World) (h : SlT w v l) (g : SlR w u L) :
    Calls Try.prog 8 #[v, u] w fun e w' => SmR l L e ∧ Below w.heap.size w w' := by
  obtain ⟨a, cap, rfl, ha, hle, hcap⟩ := h.form
  obtain ⟨a2, cap2, rfl, ha2, hle2, hcap2⟩ := g.form
  have HT : Hid (∀ w', Hid (Below w.heap.size w w') → SlT w' (.slice a l.length cap) l) := fun w' hb => h.below hb.out
  have HP := Lib.hid g
  clear h g
  generalize hB : w.heap.size = B at *
  have hB0 : Hid (B ≤ w.heap.size) := Nat.le_of_eq hB.symm
  have HC : Hid (∀ i, i < L.length → ∃ b o x c, a2 = some ⟨b, o, none⟩ ∧ (∀ w', Hid (Below B w w') → w'.cell? ⟨b, o + i, none⟩ = some (.slice x (L.getD i []).length c))) := fun i hi => by
    obtain ⟨b, o, u, h1, h2, h4, h5⟩ := HP.out.at rfl hi
    obtain ⟨x, c, rfl, _, _, _⟩ := SlG.form h5
    exact ⟨b, o, x, c, h1, fun w' hb => by rw [hb.out.cell (p := ⟨b, o + i, none⟩) (by rw [← hB]; exact h2)]; exact h4⟩
  have HTK : Hid (∀ k, k < L.length → tot (L.take (k + 1)) = tot (L.take k) + ((L.getD k []).length + 1)) := fun k hk => tot_take hk
  have HTA : Hid (L.take L.length = L) := List.take_length
  clear HP hB
  have hb00 : Hid (Below B w w) := Below.refl B w
  go_enter Try.func8, Try.ntmps8
  go_wp2
  go_loopw [5, 6] (fun n i wr => ∃ (k : Nat) (q : Int), k ≤ L.length ∧ i = .int .i64 k ∧ n = .int .i64 q ∧ 0 ≤ q ∧ q ≤ 1099511627776 ∧ Hid (q ≤ 400 → (tot (L.take k) : Int) = q) ∧ Hid (Below B w wr)) (fun _ i _ => L.length - (intOf i).toNat)
  case atStart => exact ⟨0, 0, Nat.zero_le _, rfl, rfl, by decide, by decide, fun _ => rfl, hb00⟩
  case round =>
    obtain ⟨k, q, hk, rfl, rfl, h0, hM, hq, hb⟩ := hrel
    by_cases hlt : k < L.length
    · obtain ⟨b, o, x, c, rfl, hcell⟩ := HC.out k hlt
      have hc1 := hcell wr hb
      have hTK := Lib.hid (HTK.out k hlt)
      have hS : Hid (B ≤ wr.heap.size) := Nat.le_trans hB0.out hb.out.size
      generalize (L.getD k []).length = m at *
      clear HC hcell HT HTA HTK
      go_wp2_with (go_at_call 23; refine (sum_two q (m : Int) ⟨h0, hM⟩ (by omega) _ _ (World.cell?_alloc_at _ _ _ 0 rfl) (World.cell?_alloc_at _ _ _ 1 rfl)).mono ?_; rintro e w1 ⟨⟨r, rfl, hr0, hr1, hr2⟩, rfl⟩)
      refine ⟨⟨k + 1, r, by omega, by go_num, rfl, hr0, hr1, fun hr => ?_, hb.out.alloc hS.out _⟩, by simp [intOf]; omega⟩
      have e1 := hr2 hr
      have e2 := hq.out (by omega)
      have e3 := hTK.out
      omega
    · have hkk : k = L.length := by omega
      subst hkk
      clear HC
      by_cases hd : q ≤ 400
      · have HTw := Lib.hid (HT.out wr hb)
        have hS : Hid (B ≤ wr.heap.size) := Nat.le_trans hB0.out hb.out.size
        clear HT
        go_wp2_with (go_at_call 24; refine (txs_any _ l 10000 _ HTw.out).mono ?_; rintro e w1 ⟨⟨r, rfl, hr1, hr2⟩, hb1⟩)
        all_goals have hb2 : Hid (Below B w w1) := hb.out.trans (hb1.mono hS.out)
        all_goals clear hb1
        · go_wp2
          go_ret
          refine ⟨⟨_, rfl, fun h5 => ?_⟩, hb2.out⟩
          have e2 := hq.out hd
          rw [HTA.out] at e2
          simp at h5
          omega
        · go_ret
          exact ⟨⟨false, rfl, fun h5 => by simp at h5⟩, hb2.out⟩
      · have h4 : decide (q ≤ 400) = false := decide_eq_false hd
        clear HT
        go_wp2
        go_ret
        exact ⟨⟨false, rfl, fun h5 => by simp at h5⟩, hb.out⟩
end Go.Proofs.Ytkpnjehgbehhcaa
