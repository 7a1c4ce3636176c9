/- scarpalike's Data: forty bytes. -/
import Derived.Test.YtkpnjehgbehhcaaMga
import Derived.Test.YtkpnjehgbehhcaaAppF
import Derived.Test.YtkpnjehgbehhcaaMgc
namespace Go.Proofs.Ytkpnjehgbehhcaa
open Go.RowKit

theorem made40 : madeCells #[.int .u8 0] 40 = (List.replicate 40 (Value.int .u8 0)).toArray := by kernel_rfl

set_option maxHeartbeats 1600000 in
set_option maxRecDepth 8000 in
theorem block40_any (k : Int) (hk : 0 ≤ k ∧ k ≤ 1000) (w : World) :
    Calls Try.prog 43 #[.int .i64 40, .int .i64 k] w fun e w' => (∃ v, e = .returned v ∧ Dat w' w.heap.size v) ∧ Below w.heap.size w w' := by
  have hmk := make40
  have hO : Hid ((w.alloc (.cells (madeCells #[.int .u8 0] 40) 5)).ownsRow w.heap.size 5 1 (.slice (some ⟨w.heap.size, 0, none⟩) 40 40) 40 (List.replicate 40 (Value.int .u8 0))) := by
    refine ⟨by simp, .inr ⟨w.heap.size, 40, madeCells #[.int .u8 0] 40, rfl, Nat.le_refl _, heap_alloc_new w _, Nat.le_refl _, by decide, by rw [made40]; simp, by rw [made40]; simp⟩⟩
  have hBl : Hid (Below w.heap.size w (w.alloc (.cells (madeCells #[.int .u8 0] 40) 5))) := (Below.refl _ _).alloc (Nat.le_refl _) _
  have hw2 : IntKind.i64.wrap (k * 7) = k * 7 := IntWalk.i64_in _ (by omega)
  generalize madeCells #[.int .u8 0] 40 = mc at *
  go_enter Try.func43, Try.ntmps43
  go_wp2
  generalize w.alloc (.cells mc 5) = W at *
  generalize hB : w.heap.size = B at *
  clear hmk
  go_loopw [6] (fun iv wr => ∃ (i : Nat), i ≤ 40 ∧ iv = .int .i64 i ∧ Hid (∃ xs, wr.ownsRow B 5 1 (.slice (some ⟨B, 0, none⟩) 40 40) 40 xs ∧ ∀ x ∈ xs, ∃ q, x = .int .u8 q) ∧ Hid (Below B w wr)) (fun iv _ => 40 - (intOf iv).toNat)
  case atStart => exact ⟨0, Nat.zero_le _, rfl, ⟨_, hO.out, fun x hx => ⟨0, (List.mem_replicate.1 hx).2⟩⟩, hBl⟩
  case round =>
    obtain ⟨i, hi, rfl, hx, hb⟩ := hrel
    by_cases hlt : i < 40
    · obtain ⟨xs, ho, hxs⟩ := hx.out
      have hlt2 : (i : Int) < 40 := by omega
      obtain ⟨q, hq⟩ : ∃ q : Int, (i : Int) * (i : Int) = q := ⟨_, rfl⟩
      have hq0 : 0 ≤ q ∧ q ≤ 1600 := by
        rw [← hq]
        have h1 : i * i ≤ 40 * 40 := Nat.mul_le_mul (by omega) (by omega)
        have h2 : ((i * i : Nat) : Int) = (i : Int) * (i : Int) := Int.natCast_mul i i
        omega
      have hw1 : IntKind.i64.wrap ((i : Int) * (i : Int)) = q := by rw [hq]; exact IntWalk.i64_in _ (by omega)
      have hw3 : IntKind.i64.wrap (q + k * 7) = q + k * 7 := IntWalk.i64_in _ (by omega)
      have hw4 : IntKind.i64.wrap (q + k * 7 + 1) = q + k * 7 + 1 := IntWalk.i64_in _ (by omega)
      have HR := Lib.hid (round_any (q + k * 7 + 1) 251 (by omega) (by omega) (by omega))
      have hfz := World.ownsRow.frozenAt ho i
      have hcl := World.ownsRow.cellAt ho i (by omega)
      have hlx := ho.1
      rw [List.getElem?_eq_getElem (by omega)] at hcl
      obtain ⟨q0, hq1⟩ := hxs _ (List.getElem_mem (show i < xs.length by omega))
      rw [hq1] at hcl
      have HO := Lib.hid ho
      have HX := Lib.hid hxs
      clear ho hxs hx hO hBl hlx hq1 hq
      go_wp2_with (first
        | (go_at_call 55; refine (HR.out _).mono ?_; rintro e w' ⟨rfl, rfl⟩)
        | fail)
      refine ⟨⟨i + 1, by omega, by go_num, ⟨xs.set i (.int .u8 ((q + k * 7 + 1) % 251)), (World.ownsRow.stored HO.out i _).1, fun x hx => ?_⟩, hb.out.setCell (Nat.le_refl B) _⟩, by simp [intOf]; omega⟩
      rcases List.mem_or_eq_of_mem_set hx with h | h
      · exact HX.out x h
      · exact ⟨_, h⟩
    · clear hO hBl hw2
      go_wp2
      go_ret
      exact ⟨⟨_, rfl, by rw [hB]; exact hx.out⟩, by rw [hB]; exact hb.out⟩
theorem data_any (k : Int) (hk : 0 ≤ k ∧ k ≤ 1000) (w : World) :
    Calls Try.prog 25 #[.int .i64 k] w fun e w' => (∃ v, e = .returned v ∧ Dat w' w.heap.size v) ∧ Below w.heap.size w w' := by
  go_enter Try.func25, Try.ntmps25
  go_wp2_with fail
  refine (block40_any k hk w).mono ?_
  rintro e w' ⟨⟨v, rfl, hd⟩, hb⟩
  obtain ⟨g, c, rfl, _, _⟩ := hd.form
  have HD := Lib.hid hd
  have HB := Lib.hid hb
  clear hd hb
  go_wp2
  go_ret
  exact ⟨⟨_, rfl, HD.out⟩, HB.out⟩
end Go.Proofs.Ytkpnjehgbehhcaa
