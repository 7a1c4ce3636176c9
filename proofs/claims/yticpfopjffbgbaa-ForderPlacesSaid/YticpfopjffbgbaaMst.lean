/- The walks of most, Min and Max: the number that comes last in a direction. -/
import Derived.Test.YticpfopjffbgbaaWLine
namespace Go.Proofs.Yticpfopjffbgbaa
open Go.RowKit Fl

def better (mx : Bool) (x o : Nat) : Bool := if mx then decide (ck o < ck x) else decide (ck x < ck o)
def mstep (mx : Bool) (o x : Nat) : Nat := if better mx x o then x else o
def mostV (mx : Bool) (l : List Nat) : Nat := if l.any isNaN then cN else l.foldl (mstep mx) (l.headD 0)
def mostR (mx : Bool) (l : List Nat) : Nat := if l = [] then 0 else mostV mx l
def mostE (l : List Nat) : Int := if l = [] then 14 else 0
def wayI (mx : Bool) : Int := if mx then 1 else -1

theorem fold_succ (mx : Bool) {l : List Nat} {k : Nat} (h : k < l.length) (z : Nat) : (l.take (k + 1)).foldl (mstep mx) z = mstep mx ((l.take k).foldl (mstep mx) z) l[k] := by
  rw [List.take_succ_eq_append_getElem h, List.foldl_append]; rfl
theorem nonan_succ {l : List Nat} {k : Nat} (h : k < l.length) (hn : (l.take k).any isNaN = false) (hx : isNaN l[k] = false) : (l.take (k + 1)).any isNaN = false := by
  rw [List.take_succ_eq_append_getElem h, List.any_append, hn]; simp [hx]

set_option maxHeartbeats 3200000 in
set_option maxRecDepth 8000 in
theorem most_some (mx : Bool) (a : Option Addr) (cap : Nat) (l : List Nat) (h0 : 0 < l.length) (hl : l.length * 8 ≤ 140737488351232) (w : World)
    (hA : Hid (l = [] ∨ ∃ b o, a = some ⟨b, o, none⟩ ∧ b < w.heap.size ∧ ∀ i (h : i < l.length), w.cell? ⟨b, o + i, none⟩ = some (encF l[i]))) :
    Calls Try.prog 34 #[.slice a l.length cap, .int .i64 (wayI mx)] w fun e w' => e = .returned (.tuple #[.float .f64 (mostV mx l), .int .i64 0]) ∧ w = w' := by
  have hne : ((l.length : Int) == 0) = false := beq_eq_false_iff_ne.2 (by omega)
  have hcell0 : ∃ b o, a = some ⟨b, o, none⟩ ∧ (∀ i (h : i < l.length), w.cell? ⟨b, o + i, none⟩ = some (encF l[i])) := by
    obtain h | ⟨b, o, rfl, hb, hc⟩ := hA.out
    · exfalso; rw [h] at h0; simp at h0
    · exact ⟨b, o, rfl, hc⟩
  clear hA
  obtain ⟨b, o, rfl, hc⟩ := hcell0
  have HC := Lib.hid hc
  have hc0 : w.cell? ⟨b, o, none⟩ = some (.float .f64 l[0]) := hc 0 h0
  clear hc
  have hhd : l.headD 0 = l[0] := by cases l with
    | nil => simp at h0
    | cons x l => rfl
  have HV : Hid (∀ o, l.any isNaN = false → o = l.foldl (mstep mx) l[0] → mostV mx l = o) := fun o h1 h2 => by
    unfold mostV; rw [h1, hhd, h2]; rfl
  have HW : Hid (∀ k (hk : k < l.length), isNaN l[k] = true → mostV mx l = cN) := fun k hk h => by
    unfold mostV; rw [if_pos]; exact List.any_eq_true.2 ⟨_, List.getElem_mem hk, h⟩
  clear hhd
  generalize l[0] = z0 at *
  obtain ⟨way, hway⟩ : ∃ way, wayI mx = way := ⟨_, rfl⟩
  rw [hway]
  have HWY := Lib.hid hway
  clear hway
  go_enter Try.func34, Try.ntmps34
  go_wp2
  go_loop [6, 8, 17] (fun ov _ i => ∃ (k o' : Nat), k ≤ l.length ∧ i = .int .i64 k ∧ ov = .float .f64 o' ∧ Hid (o' = (l.take k).foldl (mstep mx) z0) ∧ Hid ((l.take k).any isNaN = false)) (fun _ _ i => l.length - (intOf i).toNat)
  case atStart => exact ⟨0, z0, Nat.zero_le _, rfl, rfl, rfl, rfl⟩
  case round =>
    obtain ⟨k, o', hk, rfl, rfl, ho, hn⟩ := hrel
    by_cases hlt : k < l.length
    · have hcell : w.cell? ⟨b, o + k, none⟩ = some (.float .f64 l[k]) := HC.out k hlt
      cases hnan : isNaN l[k]
      · have HF : Hid (mstep mx o' l[k] = (l.take (k + 1)).foldl (mstep mx) z0) := by show _ = _; rw [fold_succ mx hlt, ← ho.out]
        have HN2 := Lib.hid (nonan_succ hlt hn.out hnan)
        clear hn ho
        by_cases hb : better mx l[k] o' = true
        · have HM : Hid (mstep mx o' l[k] = l[k]) := by show _ = _; unfold mstep; rw [hb]; rfl
          have HP : Hid (cmpF l[k] o' = way) := by
            show _ = _
            rw [← HWY.out]
            cases mx
            · exact (cmpF_lt (by simpa [better] using hb)).1
            · exact (cmpF_lt (by simpa [better] using hb)).2
          clear hb
          have hw2 : way = 1 ∨ way = -1 := by rw [← HWY.out]; cases mx <;> simp [wayI]
          rcases hw2 with rfl | rfl
          all_goals
            go_wp2_with (go_at_call 14; refine (compare_any _ _ _).mono ?_; rintro e w' ⟨rfl, rfl⟩; rw [HP.out])
            go_round
            case rel => exact ⟨k + 1, _, by omega, by go_num, rfl, by rw [← HF.out]; exact HM.out.symm, HN2⟩
            case measure => simp [intOf]; omega
        · have HM : Hid (mstep mx o' l[k] = o') := by show _ = _; unfold mstep; rw [if_neg hb]
          have HP : Hid (cmpF l[k] o' = -way ∨ cmpF l[k] o' = 0) := by
            show _ ∨ _
            rw [← HWY.out]
            rcases Nat.lt_trichotomy (ck l[k]) (ck o') with h | h | h
            · cases mx
              · exact absurd (by simpa [better] using h) hb
              · left; exact (cmpF_lt h).1
            · right; exact cmpF_eq h
            · cases mx
              · left; exact (cmpF_lt h).2
              · exact absurd (by simpa [better] using h) hb
          clear hb
          have hw2 : (way = 1 ∧ -way = -1) ∨ (way = -1 ∧ -way = 1) := by rw [← HWY.out]; cases mx <;> simp [wayI]
          obtain HP1 | HP1 := HP.out
          · clear HP
            rcases hw2 with ⟨h1, h2⟩ | ⟨h1, h2⟩
            all_goals
              rw [h2] at HP1
              clear h2
              subst h1
              have HP := Lib.hid HP1
              clear HP1
              go_wp2_with (go_at_call 14; refine (compare_any _ _ _).mono ?_; rintro e w' ⟨rfl, rfl⟩; rw [HP.out])
              go_round
              case rel => exact ⟨k + 1, _, by omega, by go_num, rfl, by rw [← HF.out]; exact HM.out.symm, HN2⟩
              case measure => simp [intOf]; omega
          · clear HP
            have HP := Lib.hid HP1
            clear HP1
            rcases hw2 with ⟨h1, _⟩ | ⟨h1, _⟩
            all_goals
              subst h1
              go_wp2_with (go_at_call 14; refine (compare_any _ _ _).mono ?_; rintro e w' ⟨rfl, rfl⟩; rw [HP.out])
              go_round
              case rel => exact ⟨k + 1, _, by omega, by go_num, rfl, by rw [← HF.out]; exact HM.out.symm, HN2⟩
              case measure => simp [intOf]; omega
      · have HM : Hid (mostV mx l = cN) := HW.out k hlt hnan
        have HCC : Hid (canon (canon l[k]) = cN) := by show _ = _; rw [canon_canon, canon_of_nan hnan]
        clear ho hn
        go_wp2_with (first
          | (go_at_call 29; refine (bits_any _ _).mono ?_; rintro e w' ⟨rfl, rfl⟩)
          | (go_at_call 28; refine (from_any _ _).mono ?_; rintro e w' ⟨rfl, rfl⟩; rw [HCC.out]))
        go_ret2
        exact ⟨by rw [HM.out]; rfl, rfl⟩
    · have hkl : l.take k = l := List.take_of_length_le (by omega)
      rw [hkl] at ho hn
      have HM : Hid (mostV mx l = o') := HV.out o' hn.out ho.out
      clear ho hn
      go_wp2
      go_ret2
      exact ⟨by rw [HM.out]; rfl, rfl⟩
end Go.Proofs.Yticpfopjffbgbaa
