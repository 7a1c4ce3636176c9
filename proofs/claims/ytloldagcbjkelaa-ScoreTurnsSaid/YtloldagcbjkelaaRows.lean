/-
  No cell of these rows narrows 'for every input' (looked for: loops, veiled, ifaces, maps, wideKeys, modest, calm, conditions, laid).
  DERIVED. THE GIVEN ROWS OF THIS SEAT. 6 by the template 'for every input the law returns true; each argument reads behind the call as it read before'; 0 by the template 'total and deterministic' (their statements: YtloldagcbjkelaaTotals.lean).
  GIVEN WITH THE SEED: the statements are not yours to turn. If you find one false, say at which input.
  Laid BY PROGRAM, IN A SANDBOX (cutbox-rows.mjs): the forced cells as the released guide's own fill.sh prints them over the translation a934d00d3f6ea8c2… (all of the seat's roots in one cut). By AI agents, Wed Nov 11 2026. No macro, syntax, notation, axiom, sorry.
-/
import Derived.Test.YtloldagcbjkelaaChecked
import GoSem.Claim
import GoSem.ClaimJoined
import GoSem.ClaimMapViews
import Derived.JoinedTies
import Derived.KernelRfl
namespace Go.Proofs.Ytloldagcbjkelaa
/- THE CELL 'sum', in the pinned program and in every row, IS THE sha256 OF THE DUMP (.gsa) THAT YtloldagcbjkelaaProg.lean LOADS. Nothing in Lean hashes anything: it is a label: what it is worth is what the hold of that sum in a sandbox is worth. -/
noncomputable def Try.pinned : Pinned := { name := "ytloldagcbjkelaa", sum := "a934d00d3f6ea8c29eea1446a763b283926b8378078322a038bf9dbf93ac6495", checked := Try.checked }
namespace Rows
def none {H : Type} : Left H := { results := [], args := [] }

/-- 'scarplaw5.ScoreAsks': WHATEVER THE INPUT: true; the input reads as it did. -/
def scoreAsksSpec : ChangeSpec := { name := "scoreAsks", fn := fun _ => fun
  | [d1, d2] => { results := [.lit (.bool true)], args := [d1, d2] }
  | _ => none }
def scoreAsksRow : OpenClaim := { program := "ytloldagcbjkelaa", sum := "a934d00d3f6ea8c29eea1446a763b283926b8378078322a038bf9dbf93ac6495", func := "scarp/scarplaw5.ScoreAsks", spec := "scoreAsks", inPlace := ["math.Float64bits", "math.Float64frombits"], apart := false }
def ScoreAsksSaid : Prop := scoreAsksRow.holds Try.pinned (OpenSpec.ofChange scoreAsksSpec)

/-- ITS FALSE NEIGHBOUR: 'it returns false'. Refute it at one input. -/
def scoreAsksWrong : ChangeSpec := { name := "scoreAsks", fn := fun _ => fun
  | [d1, d2] => { results := [.lit (.bool false)], args := [d1, d2] }
  | _ => none }
def ScoreAsksWrongFalsely : Prop := scoreAsksRow.holds Try.pinned (OpenSpec.ofChange scoreAsksWrong)

/-- 'scarplaw5.ScoreFewer': WHATEVER THE INPUT: true; the input reads as it did. -/
def scoreFewerSpec : ChangeSpec := { name := "scoreFewer", fn := fun _ => fun
  | [d1, d2, d3, d4, d5, d6] => { results := [.lit (.bool true)], args := [d1, d2, d3, d4, d5, d6] }
  | _ => none }
def scoreFewerRow : OpenClaim := { program := "ytloldagcbjkelaa", sum := "a934d00d3f6ea8c29eea1446a763b283926b8378078322a038bf9dbf93ac6495", func := "scarp/scarplaw5.ScoreFewer", spec := "scoreFewer", inPlace := ["math.Float64bits", "math.Float64frombits"], apart := false }
def ScoreFewerSaid : Prop := scoreFewerRow.holds Try.pinned (OpenSpec.ofChange scoreFewerSpec)

/-- ITS FALSE NEIGHBOUR: 'it returns false'. Refute it at one input. -/
def scoreFewerWrong : ChangeSpec := { name := "scoreFewer", fn := fun _ => fun
  | [d1, d2, d3, d4, d5, d6] => { results := [.lit (.bool false)], args := [d1, d2, d3, d4, d5, d6] }
  | _ => none }
def ScoreFewerWrongFalsely : Prop := scoreFewerRow.holds Try.pinned (OpenSpec.ofChange scoreFewerWrong)

/-- 'scarplaw5.ScoreUse': WHATEVER THE INPUT: true; the input reads as it did. -/
def scoreUseSpec : ChangeSpec := { name := "scoreUse", fn := fun _ => fun
  | [d1, d2, d3] => { results := [.lit (.bool true)], args := [d1, d2, d3] }
  | _ => none }
def scoreUseRow : OpenClaim := { program := "ytloldagcbjkelaa", sum := "a934d00d3f6ea8c29eea1446a763b283926b8378078322a038bf9dbf93ac6495", func := "scarp/scarplaw5.ScoreUse", spec := "scoreUse", inPlace := ["math.Float64bits", "math.Float64frombits"], apart := false }
def ScoreUseSaid : Prop := scoreUseRow.holds Try.pinned (OpenSpec.ofChange scoreUseSpec)

/-- ITS FALSE NEIGHBOUR: 'it returns false'. Refute it at one input. -/
def scoreUseWrong : ChangeSpec := { name := "scoreUse", fn := fun _ => fun
  | [d1, d2, d3] => { results := [.lit (.bool false)], args := [d1, d2, d3] }
  | _ => none }
def ScoreUseWrongFalsely : Prop := scoreUseRow.holds Try.pinned (OpenSpec.ofChange scoreUseWrong)

/-- 'scarplaw5.ScoreEdges': WHATEVER THE INPUT: true; the input reads as it did. -/
def scoreEdgesSpec : ChangeSpec := { name := "scoreEdges", fn := fun _ => fun
  | [d1, d2] => { results := [.lit (.bool true)], args := [d1, d2] }
  | _ => none }
def scoreEdgesRow : OpenClaim := { program := "ytloldagcbjkelaa", sum := "a934d00d3f6ea8c29eea1446a763b283926b8378078322a038bf9dbf93ac6495", func := "scarp/scarplaw5.ScoreEdges", spec := "scoreEdges", inPlace := ["math.Float64bits", "math.Float64frombits"], unfollowed := true, recurses := true, apart := false }
def ScoreEdgesSaid : Prop := scoreEdgesRow.holds Try.pinned (OpenSpec.ofChange scoreEdgesSpec)

/-- ITS FALSE NEIGHBOUR: 'it returns false'. Refute it at one input. -/
def scoreEdgesWrong : ChangeSpec := { name := "scoreEdges", fn := fun _ => fun
  | [d1, d2] => { results := [.lit (.bool false)], args := [d1, d2] }
  | _ => none }
def ScoreEdgesWrongFalsely : Prop := scoreEdgesRow.holds Try.pinned (OpenSpec.ofChange scoreEdgesWrong)

/-- 'scarplaw5.ScoreTurns': WHATEVER THE INPUT: true; the input reads as it did. -/
def scoreTurnsSpec : ChangeSpec := { name := "scoreTurns", fn := fun _ => fun
  | [d1, d2, d3] => { results := [.lit (.bool true)], args := [d1, d2, d3] }
  | _ => none }
def scoreTurnsRow : OpenClaim := { program := "ytloldagcbjkelaa", sum := "a934d00d3f6ea8c29eea1446a763b283926b8378078322a038bf9dbf93ac6495", func := "scarp/scarplaw5.ScoreTurns", spec := "scoreTurns", inPlace := ["math.Float64bits", "math.Float64frombits"], unfollowed := true, recurses := true, apart := false }
def ScoreTurnsSaid : Prop := scoreTurnsRow.holds Try.pinned (OpenSpec.ofChange scoreTurnsSpec)

/-- ITS FALSE NEIGHBOUR: 'it returns false'. Refute it at one input. -/
def scoreTurnsWrong : ChangeSpec := { name := "scoreTurns", fn := fun _ => fun
  | [d1, d2, d3] => { results := [.lit (.bool false)], args := [d1, d2, d3] }
  | _ => none }
def ScoreTurnsWrongFalsely : Prop := scoreTurnsRow.holds Try.pinned (OpenSpec.ofChange scoreTurnsWrong)

/-- 'scarplaw5.ScoreRanks': WHATEVER THE INPUT: true; the input reads as it did. -/
def scoreRanksSpec : ChangeSpec := { name := "scoreRanks", fn := fun _ => fun
  | [d1, d2] => { results := [.lit (.bool true)], args := [d1, d2] }
  | _ => none }
def scoreRanksRow : OpenClaim := { program := "ytloldagcbjkelaa", sum := "a934d00d3f6ea8c29eea1446a763b283926b8378078322a038bf9dbf93ac6495", func := "scarp/scarplaw5.ScoreRanks", spec := "scoreRanks", inPlace := ["math.Float64bits", "math.Float64frombits"], unfollowed := true, recurses := true, apart := false }
def ScoreRanksSaid : Prop := scoreRanksRow.holds Try.pinned (OpenSpec.ofChange scoreRanksSpec)

/-- ITS FALSE NEIGHBOUR: 'it returns false'. Refute it at one input. -/
def scoreRanksWrong : ChangeSpec := { name := "scoreRanks", fn := fun _ => fun
  | [d1, d2] => { results := [.lit (.bool false)], args := [d1, d2] }
  | _ => none }
def ScoreRanksWrongFalsely : Prop := scoreRanksRow.holds Try.pinned (OpenSpec.ofChange scoreRanksWrong)

/- THE SECOND FORM. 'bulk': how many values and letters a reading holds, each counted each time it is reached (what is shared counts as often as it is met; a slice's spare places count too). A statement '..UptoSaid' is the law's where the arguments, and the package variables that the reading takes, are together of bulk at most 1048576: NARROWER than '..Said'. Prove '..Said' where nothing that the law and all that it calls make is longer than what came in: it says more and counts as full. Else prove '..UptoSaid'. A law counts once. -/
mutual
def uptoBulk {H : Type} : DataW H → Nat
  | .lit (.string bytes) => bytes.length + 1
  | .lit _ => 1
  | .nil => 1
  | .ptr d => uptoBulk d + 1
  | .slice elems spare => uptoBulkAll elems + uptoBulkAll spare + 1
  | .agg parts => uptoBulkAll parts + 1
  | .iface _ d => uptoBulk d + 1
  | .map entries => uptoBulkEntries entries + 1
  | .held _ => 1
def uptoBulkAll {H : Type} : List (DataW H) → Nat
  | [] => 0
  | d :: r => uptoBulk d + uptoBulkAll r
def uptoBulkEntries {H : Type} : List (Lit × DataW H) → Nat
  | [] => 0
  | x :: r => uptoBulkEntry x + uptoBulkEntries r
def uptoBulkEntry {H : Type} : Lit × DataW H → Nat
  | (.string bytes, d) => bytes.length + uptoBulk d + 1
  | (_, d) => uptoBulk d + 1
 end
def uptoSmall : (H : Type) → List (DataW H) → Bool := fun _ ds => decide (uptoBulkAll ds ≤ 1048576)
def OpenSpec.upto (s : _root_.Go.ChangeSpec) : _root_.Go.OpenSpec := { _root_.Go.OpenSpec.ofChange s with cond := some uptoSmall }

/-- 'scarplaw5.ScoreAsks', WHERE WHAT IT READS IS OF BULK AT MOST 1048576: true; the input reads as it did. -/
def scoreAsksUptoRow : OpenClaim := { program := "ytloldagcbjkelaa", sum := "a934d00d3f6ea8c29eea1446a763b283926b8378078322a038bf9dbf93ac6495", func := "scarp/scarplaw5.ScoreAsks", spec := "scoreAsks", inPlace := ["math.Float64bits", "math.Float64frombits"], apart := false, narrowed := true }
def ScoreAsksUptoSaid : Prop := scoreAsksUptoRow.holds Try.pinned (OpenSpec.upto scoreAsksSpec)

/-- 'scarplaw5.ScoreFewer', WHERE WHAT IT READS IS OF BULK AT MOST 1048576: true; the input reads as it did. -/
def scoreFewerUptoRow : OpenClaim := { program := "ytloldagcbjkelaa", sum := "a934d00d3f6ea8c29eea1446a763b283926b8378078322a038bf9dbf93ac6495", func := "scarp/scarplaw5.ScoreFewer", spec := "scoreFewer", inPlace := ["math.Float64bits", "math.Float64frombits"], apart := false, narrowed := true }
def ScoreFewerUptoSaid : Prop := scoreFewerUptoRow.holds Try.pinned (OpenSpec.upto scoreFewerSpec)

/-- 'scarplaw5.ScoreUse', WHERE WHAT IT READS IS OF BULK AT MOST 1048576: true; the input reads as it did. -/
def scoreUseUptoRow : OpenClaim := { program := "ytloldagcbjkelaa", sum := "a934d00d3f6ea8c29eea1446a763b283926b8378078322a038bf9dbf93ac6495", func := "scarp/scarplaw5.ScoreUse", spec := "scoreUse", inPlace := ["math.Float64bits", "math.Float64frombits"], apart := false, narrowed := true }
def ScoreUseUptoSaid : Prop := scoreUseUptoRow.holds Try.pinned (OpenSpec.upto scoreUseSpec)

/-- 'scarplaw5.ScoreEdges', WHERE WHAT IT READS IS OF BULK AT MOST 1048576: true; the input reads as it did. -/
def scoreEdgesUptoRow : OpenClaim := { program := "ytloldagcbjkelaa", sum := "a934d00d3f6ea8c29eea1446a763b283926b8378078322a038bf9dbf93ac6495", func := "scarp/scarplaw5.ScoreEdges", spec := "scoreEdges", inPlace := ["math.Float64bits", "math.Float64frombits"], unfollowed := true, recurses := true, apart := false, narrowed := true }
def ScoreEdgesUptoSaid : Prop := scoreEdgesUptoRow.holds Try.pinned (OpenSpec.upto scoreEdgesSpec)

/-- 'scarplaw5.ScoreTurns', WHERE WHAT IT READS IS OF BULK AT MOST 1048576: true; the input reads as it did. -/
def scoreTurnsUptoRow : OpenClaim := { program := "ytloldagcbjkelaa", sum := "a934d00d3f6ea8c29eea1446a763b283926b8378078322a038bf9dbf93ac6495", func := "scarp/scarplaw5.ScoreTurns", spec := "scoreTurns", inPlace := ["math.Float64bits", "math.Float64frombits"], unfollowed := true, recurses := true, apart := false, narrowed := true }
def ScoreTurnsUptoSaid : Prop := scoreTurnsUptoRow.holds Try.pinned (OpenSpec.upto scoreTurnsSpec)

/-- 'scarplaw5.ScoreRanks', WHERE WHAT IT READS IS OF BULK AT MOST 1048576: true; the input reads as it did. -/
def scoreRanksUptoRow : OpenClaim := { program := "ytloldagcbjkelaa", sum := "a934d00d3f6ea8c29eea1446a763b283926b8378078322a038bf9dbf93ac6495", func := "scarp/scarplaw5.ScoreRanks", spec := "scoreRanks", inPlace := ["math.Float64bits", "math.Float64frombits"], unfollowed := true, recurses := true, apart := false, narrowed := true }
def ScoreRanksUptoSaid : Prop := scoreRanksUptoRow.holds Try.pinned (OpenSpec.upto scoreRanksSpec)

end Rows
end Go.Proofs.Ytloldagcbjkelaa
