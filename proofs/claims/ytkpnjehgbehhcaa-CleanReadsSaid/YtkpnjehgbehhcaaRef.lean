/- The reference's map: NewMap. -/
import Derived.Test.YtkpnjehgbehhcaaAp5
namespace Go.Proofs.Ytkpnjehgbehhcaa
open Go.RowKit

/-- NewMap of the reference -/
theorem newmap_any (w : World) : Calls Try.prog 27 #[.int .i64 30] w fun e w' => e = .returned (.tuple #[.pointer (some ⟨w.heap.size, 0, none⟩), .int .i64 0]) ∧ w' = w.alloc (.cells #[.int .i64 30, .slice none 0 0, .int .i64 0] 97) := by
  go_enter Try.func27, Try.ntmps27
  go_wp2
  go_ret2
  exact ⟨rfl, rfl⟩
end Go.Proofs.Ytkpnjehgbehhcaa
