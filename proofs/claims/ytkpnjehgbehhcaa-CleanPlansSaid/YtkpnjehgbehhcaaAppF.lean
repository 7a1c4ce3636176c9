/- Appending float64s to what the call owns, in this program's types; the walk of Round. -/
import Derived.Test.YtkpnjehgbehhcaaSl
import Derived.Test.YtkpnjehgbehhcaaProg
import Derived.Lib.Hide
namespace Go.Proofs.Ytkpnjehgbehhcaa
open Go.RowKit

theorem infoF : (Try.prog.info? 49).map (fun i => (i.zero, i.size, i.bytes)) = some (some (.float .f64 0), 1, 8) := by kernel_rfl

/-- the slice value v is nil, or the call's own row that holds just these float64s -/
def OwnF (w : World) (base : Nat) (v : Value) (xs : List Nat) : Prop := w.ownsRow base 49 1 v xs.length (xs.map encF)

theorem OwnF.nil (w : World) (base : Nat) : OwnF w base (.slice none 0 0) [] := World.ownsRow_nil w base _ 1
theorem OwnF.alloc {w : World} {base : Nat} {v : Value} {xs : List Nat} (h : OwnF w base v xs) (o : Obj) : OwnF (w.alloc o) base v xs := World.ownsRow.alloc h o
theorem OwnF.drewN {w : World} {base : Nat} {v : Value} {xs : List Nat} (h : OwnF w base v xs) (n : Nat) : OwnF (w.drewN n) base v xs := h
theorem OwnF.sl {w : World} {base : Nat} {v : Value} {xs : List Nat} (h : OwnF w base v xs) (hn : xs.length ≤ 140737488355328) : Sl encF w v xs := (Sl.of_own h hn).1

/-- an empty row of the call's own, built just now -/
theorem OwnF.empty {w : World} {base g : Nat} (hg : w.heap[g]? = some (.cells #[] 49 (0, 0))) (hb : base ≤ g) : OwnF w base (.slice (some ⟨g, 0, none⟩) 0 0) [] :=
  ⟨rfl, .inr ⟨g, 0, #[], rfl, hb, hg, Nat.le_refl _, Nat.zero_le _, rfl, rfl⟩⟩
/-- its capacity -/
theorem OwnF.cap {w : World} {base : Nat} {a : Option Addr} {n cap : Nat} {xs : List Nat} (h : OwnF w base (.slice a n cap) xs) : n ≤ cap ∧ n = xs.length := by
  obtain ⟨_, h | ⟨g, c, cur, h, _, _, hle, _⟩⟩ := h
  · obtain ⟨h, h0⟩ := h
    simp only [Value.slice.injEq] at h
    obtain ⟨_, rfl, rfl⟩ := h
    exact ⟨Nat.le_refl _, h0.symm⟩
  · simp only [Value.slice.injEq] at h
    obtain ⟨_, rfl, rfl⟩ := h
    exact ⟨hle, rfl⟩

/-- a one-element slice that was built just now -/
theorem Sl.one {α : Type} (enc : α → Value) (w : World) (x : α) (t : TypeId) : Sl enc (w.alloc (.cells #[enc x] t)) (.slice (some ⟨w.heap.size, 0, none⟩) 1 1) [x] := by
  refine ⟨some ⟨w.heap.size, 0, none⟩, 1, rfl, (fun h => by cases h), by simp, .inr ⟨_, 0, rfl, by simp, fun i hi => ?_⟩⟩
  have : i = 0 := by simpa using hi
  subst this
  exact World.cell?_alloc_at _ _ _ 0 rfl

theorem wpList_appF {w : World} {ops : Array Oper} {rest : List Oper} {o : Oper} {a : Act} {Q : Exit → Act → World → Prop} (hgd : o.guard = none) (s x : Operand)
    (ho : o.op = .call { callee := .builtin .append, args := #[s, x], argTypes := #[110, 110] })
    (base : Nat) (v : Value) (xs : List Nat) (hs : a.eval s = v) (hown : OwnF w base v xs) (src : Value) (l : List Nat) (hx : a.eval x = src) (hsl : Sl encF w src l)
    (hb : (xs.length + l.length) * 8 ≤ 140737488355328) (hbase : base ≤ w.heap.size)
    (h : ∀ v' w', OwnF w' base v' (xs ++ l) → w.grownBy w' v.ownBlock → wpList Try.prog ops Q rest (a.put o.dst v') w') : wpList Try.prog ops Q (o :: rest) a w := by
  obtain ⟨i0, hi, hz0, hz1, hz2⟩ := info_parts infoF
  refine wpList_append_sl hgd s x _ ho base 49 i0 (.float .f64 0) 8 Try.underlying110 hi hz0 hz1 hz2 rfl v xs.length (xs.map encF) hs hown src l hx hsl (fun _ => rfl) (by unfold maxLen; omega) hb hbase ?_
  intro v' w' h1 h2
  refine h v' w' ?_ h2
  unfold OwnF
  rw [List.length_append, List.map_append]; exact h1

theorem step_appF {w : World} {ops : Array Oper} {o : Oper} {a : Act} {K : Act → World → Prop} {Q : Exit → Act → World → Prop} {E : Prop} (hgd : o.guard = none) (s x : Operand)
    (ho : o.op = .call { callee := .builtin .append, args := #[s, x], argTypes := #[110, 110] })
    (base : Nat) (v : Value) (xs : List Nat) (hs : a.eval s = v) (hown : OwnF w base v xs) (src : Value) (l : List Nat) (hx : a.eval x = src) (hsl : Sl encF w src l)
    (hb : (xs.length + l.length) * 8 ≤ 140737488355328) (hbase : base ≤ w.heap.size)
    (h : ∀ v' w', OwnF w' base v' (xs ++ l) → w.grownBy w' v.ownBlock → K (a.put o.dst v') w') :
    if Region.wanted o (yielded ops a.tmps) = true then Oper.wp Try.prog o a w K Q else E := by
  obtain ⟨i0, hi, hz0, hz1, hz2⟩ := info_parts infoF
  refine step_append_sl hgd s x _ ho base 49 i0 (.float .f64 0) 8 Try.underlying110 hi hz0 hz1 hz2 rfl v xs.length (xs.map encF) hs hown src l hx hsl (fun _ => rfl) (by unfold maxLen; omega) hb hbase ?_
  intro v' w' h1 h2
  refine h v' w' ?_ h2
  unfold OwnF
  rw [List.length_append, List.map_append]; exact h1

/-- what was there stays, behind an append to what the call owns -/
theorem OwnF.below {w w' : World} {base : Nat} {v : Value} {xs : List Nat} (h : OwnF w base v xs) (hg : w.grownBy w' v.ownBlock) {B : Nat} {w0 : World} (hb : Below B w0 w) (hB : B ≤ base) (hs : base ≤ w.heap.size) : Below B w0 w' :=
  hb.grown hg (by omega) fun k hk => by
    have := (World.ownsRow.lt h k hk).1
    omega

theorem round_val {k n : Int} (hn : 0 < n) : k % n = if k.tmod n < 0 then k.tmod n + n else k.tmod n := by
  have h := Int.tmod_eq_emod (a := k) (b := n)
  have h1 := Int.emod_nonneg k (by omega : n ≠ 0)
  have h2 := Int.emod_lt_of_pos k hn
  split at h
  · split <;> omega
  · rename_i hc
    simp only [not_or] at hc
    have h3 : k % n ≠ 0 := fun h0 => hc.2 (Int.dvd_of_emod_eq_zero h0)
    have h4 : (n.natAbs : Int) = n := by omega
    split <;> omega

set_option maxHeartbeats 400000 in
theorem round_any (k n : Int) (hk : -9223372036854775808 ≤ k ∧ k ≤ 9223372036854775807) (hn : 0 < n) (hn2 : n ≤ 1000000) (w : World) :
    Calls Try.prog 55 #[.int .i64 k, .int .i64 n] w fun e w' => e = .returned (.int .i64 (k % n)) ∧ w = w' := by
  have hv := round_val (k := k) hn
  by_cases h0 : 0 ≤ k
  · have h1 := Int.emod_nonneg k (by omega : n ≠ 0)
    have h2 := Int.emod_lt_of_pos k hn
    obtain ⟨hk1, hk2⟩ := hk
    clear hv
    go_enter Try.func55, Try.ntmps55
    go_wp2
    go_ret
    exact ⟨rfl, rfl⟩
  · have t1 : -n < k.tmod n := by have := Int.lt_tmod_of_pos k hn; omega
    have t2 : k.tmod n < n := Int.tmod_lt_of_pos k hn
    have h0' : k < 0 := by omega
    obtain ⟨hk1, hk2⟩ := hk
    rw [hv]
    by_cases h : k.tmod n < 0
    · rw [if_pos h]
      clear hv h0
      go_enter Try.func55, Try.ntmps55
      go_wp2
      go_ret
      exact ⟨rfl, rfl⟩
    · rw [if_neg h]
      clear hv h0
      go_enter Try.func55, Try.ntmps55
      go_wp2
      go_ret
      exact ⟨rfl, rfl⟩
end Go.Proofs.Ytkpnjehgbehhcaa
