/-
  No cell of these rows narrows 'for every input' (looked for: loops, veiled, ifaces, maps, wideKeys, modest, calm, conditions, laid).
  DERIVED. THE GIVEN ROWS OF THIS SEAT. 12 by the template 'for every input the law returns true; each argument reads behind the call as it read before'; 0 by the template 'total and deterministic' (their statements: YtamadhdnblmfhaaTotals.lean).
  GIVEN WITH THE SEED: the statements are not yours to turn. If you find one false, say at which input.
  Laid BY PROGRAM, IN A SANDBOX (cutbox-rows.mjs): the forced cells as the released guide's own fill.sh prints them over the translation 4c233d78b9839ea3… (all of the seat's roots in one cut). By AI agents, Wed Nov 11 2026. No macro, syntax, notation, axiom, sorry.
-/
import Derived.Test.YtamadhdnblmfhaaChecked
import GoSem.Claim
import GoSem.ClaimJoined
import GoSem.ClaimMapViews
import Derived.JoinedTies
import Derived.KernelRfl
namespace Go.Proofs.Ytamadhdnblmfhaa
/- THE CELL 'sum', in the pinned program and in every row, IS THE sha256 OF THE DUMP (.gsa) THAT YtamadhdnblmfhaaProg.lean LOADS. Nothing in Lean hashes anything: it is a label: what it is worth is what the hold of that sum in a sandbox is worth. -/
noncomputable def Try.pinned : Pinned := { name := "ytamadhdnblmfhaa", sum := "4c233d78b9839ea3bf8e1cd51be28c5d3135019c013d80149f3c43378b109c2d", checked := Try.checked }
namespace Rows
def none {H : Type} : Left H := { results := [], args := [] }

/-- 'laws.FnFlows': WHATEVER THE INPUT: true; the input reads as it did. -/
def fnFlowsSpec : ChangeSpec := { name := "fnFlows", fn := fun _ => fun
  | [d] => { results := [.lit (.bool true)], args := [d] }
  | _ => none }
def fnFlowsRow : OpenClaim := { program := "ytamadhdnblmfhaa", sum := "4c233d78b9839ea3bf8e1cd51be28c5d3135019c013d80149f3c43378b109c2d", func := "loop.example/g03307/laws.FnFlows", spec := "fnFlows", apart := false }
def FnFlowsSaid : Prop := fnFlowsRow.holds Try.pinned (OpenSpec.ofChange fnFlowsSpec)

/-- ITS FALSE NEIGHBOUR: 'it returns false'. Refute it at one input. -/
def fnFlowsWrong : ChangeSpec := { name := "fnFlows", fn := fun _ => fun
  | [d] => { results := [.lit (.bool false)], args := [d] }
  | _ => none }
def FnFlowsWrongFalsely : Prop := fnFlowsRow.holds Try.pinned (OpenSpec.ofChange fnFlowsWrong)

/-- 'laws.FnExactIsUsed': WHATEVER THE INPUT: true; the input reads as it did. -/
def fnExactIsUsedSpec : ChangeSpec := { name := "fnExactIsUsed", fn := fun _ => fun
  | [d1, d2, d3] => { results := [.lit (.bool true)], args := [d1, d2, d3] }
  | _ => none }
def fnExactIsUsedRow : OpenClaim := { program := "ytamadhdnblmfhaa", sum := "4c233d78b9839ea3bf8e1cd51be28c5d3135019c013d80149f3c43378b109c2d", func := "loop.example/g03307/laws.FnExactIsUsed", spec := "fnExactIsUsed", apart := false }
def FnExactIsUsedSaid : Prop := fnExactIsUsedRow.holds Try.pinned (OpenSpec.ofChange fnExactIsUsedSpec)

/-- ITS FALSE NEIGHBOUR: 'it returns false'. Refute it at one input. -/
def fnExactIsUsedWrong : ChangeSpec := { name := "fnExactIsUsed", fn := fun _ => fun
  | [d1, d2, d3] => { results := [.lit (.bool false)], args := [d1, d2, d3] }
  | _ => none }
def FnExactIsUsedWrongFalsely : Prop := fnExactIsUsedRow.holds Try.pinned (OpenSpec.ofChange fnExactIsUsedWrong)

/-- 'laws.FnExactCutWidth': WHATEVER THE INPUT: true; the input reads as it did. -/
def fnExactCutWidthSpec : ChangeSpec := { name := "fnExactCutWidth", fn := fun _ => fun
  | [d1, d2] => { results := [.lit (.bool true)], args := [d1, d2] }
  | _ => none }
def fnExactCutWidthRow : OpenClaim := { program := "ytamadhdnblmfhaa", sum := "4c233d78b9839ea3bf8e1cd51be28c5d3135019c013d80149f3c43378b109c2d", func := "loop.example/g03307/laws.FnExactCutWidth", spec := "fnExactCutWidth", apart := false }
def FnExactCutWidthSaid : Prop := fnExactCutWidthRow.holds Try.pinned (OpenSpec.ofChange fnExactCutWidthSpec)

/-- ITS FALSE NEIGHBOUR: 'it returns false'. Refute it at one input. -/
def fnExactCutWidthWrong : ChangeSpec := { name := "fnExactCutWidth", fn := fun _ => fun
  | [d1, d2] => { results := [.lit (.bool false)], args := [d1, d2] }
  | _ => none }
def FnExactCutWidthWrongFalsely : Prop := fnExactCutWidthRow.holds Try.pinned (OpenSpec.ofChange fnExactCutWidthWrong)

/-- 'laws.FnExactIsCut': WHATEVER THE INPUT: true; the input reads as it did. -/
def fnExactIsCutSpec : ChangeSpec := { name := "fnExactIsCut", fn := fun _ => fun
  | [d1, d2, d3, d4] => { results := [.lit (.bool true)], args := [d1, d2, d3, d4] }
  | _ => none }
def fnExactIsCutRow : OpenClaim := { program := "ytamadhdnblmfhaa", sum := "4c233d78b9839ea3bf8e1cd51be28c5d3135019c013d80149f3c43378b109c2d", func := "loop.example/g03307/laws.FnExactIsCut", spec := "fnExactIsCut", apart := false }
def FnExactIsCutSaid : Prop := fnExactIsCutRow.holds Try.pinned (OpenSpec.ofChange fnExactIsCutSpec)

/-- ITS FALSE NEIGHBOUR: 'it returns false'. Refute it at one input. -/
def fnExactIsCutWrong : ChangeSpec := { name := "fnExactIsCut", fn := fun _ => fun
  | [d1, d2, d3, d4] => { results := [.lit (.bool false)], args := [d1, d2, d3, d4] }
  | _ => none }
def FnExactIsCutWrongFalsely : Prop := fnExactIsCutRow.holds Try.pinned (OpenSpec.ofChange fnExactIsCutWrong)

/-- 'laws.FnExactWidestWay': WHATEVER THE INPUT: true; the input reads as it did. -/
def fnExactWidestWaySpec : ChangeSpec := { name := "fnExactWidestWay", fn := fun _ => fun
  | [d1, d2, d3] => { results := [.lit (.bool true)], args := [d1, d2, d3] }
  | _ => none }
def fnExactWidestWayRow : OpenClaim := { program := "ytamadhdnblmfhaa", sum := "4c233d78b9839ea3bf8e1cd51be28c5d3135019c013d80149f3c43378b109c2d", func := "loop.example/g03307/laws.FnExactWidestWay", spec := "fnExactWidestWay", apart := false }
def FnExactWidestWaySaid : Prop := fnExactWidestWayRow.holds Try.pinned (OpenSpec.ofChange fnExactWidestWaySpec)

/-- ITS FALSE NEIGHBOUR: 'it returns false'. Refute it at one input. -/
def fnExactWidestWayWrong : ChangeSpec := { name := "fnExactWidestWay", fn := fun _ => fun
  | [d1, d2, d3] => { results := [.lit (.bool false)], args := [d1, d2, d3] }
  | _ => none }
def FnExactWidestWayWrongFalsely : Prop := fnExactWidestWayRow.holds Try.pinned (OpenSpec.ofChange fnExactWidestWayWrong)

/-- 'laws.FnExactWithoutPipe': WHATEVER THE INPUT: true; the input reads as it did. -/
def fnExactWithoutPipeSpec : ChangeSpec := { name := "fnExactWithoutPipe", fn := fun _ => fun
  | [d1, d2] => { results := [.lit (.bool true)], args := [d1, d2] }
  | _ => none }
def fnExactWithoutPipeRow : OpenClaim := { program := "ytamadhdnblmfhaa", sum := "4c233d78b9839ea3bf8e1cd51be28c5d3135019c013d80149f3c43378b109c2d", func := "loop.example/g03307/laws.FnExactWithoutPipe", spec := "fnExactWithoutPipe", apart := false }
def FnExactWithoutPipeSaid : Prop := fnExactWithoutPipeRow.holds Try.pinned (OpenSpec.ofChange fnExactWithoutPipeSpec)

/-- ITS FALSE NEIGHBOUR: 'it returns false'. Refute it at one input. -/
def fnExactWithoutPipeWrong : ChangeSpec := { name := "fnExactWithoutPipe", fn := fun _ => fun
  | [d1, d2] => { results := [.lit (.bool false)], args := [d1, d2] }
  | _ => none }
def FnExactWithoutPipeWrongFalsely : Prop := fnExactWithoutPipeRow.holds Try.pinned (OpenSpec.ofChange fnExactWithoutPipeWrong)

/-- 'laws.FnExactNarrowestCut': WHATEVER THE INPUT: true; the input reads as it did. -/
def fnExactNarrowestCutSpec : ChangeSpec := { name := "fnExactNarrowestCut", fn := fun _ => fun
  | [d1, d2, d3] => { results := [.lit (.bool true)], args := [d1, d2, d3] }
  | _ => none }
def fnExactNarrowestCutRow : OpenClaim := { program := "ytamadhdnblmfhaa", sum := "4c233d78b9839ea3bf8e1cd51be28c5d3135019c013d80149f3c43378b109c2d", func := "loop.example/g03307/laws.FnExactNarrowestCut", spec := "fnExactNarrowestCut", apart := false }
def FnExactNarrowestCutSaid : Prop := fnExactNarrowestCutRow.holds Try.pinned (OpenSpec.ofChange fnExactNarrowestCutSpec)

/-- ITS FALSE NEIGHBOUR: 'it returns false'. Refute it at one input. -/
def fnExactNarrowestCutWrong : ChangeSpec := { name := "fnExactNarrowestCut", fn := fun _ => fun
  | [d1, d2, d3] => { results := [.lit (.bool false)], args := [d1, d2, d3] }
  | _ => none }
def FnExactNarrowestCutWrongFalsely : Prop := fnExactNarrowestCutRow.holds Try.pinned (OpenSpec.ofChange fnExactNarrowestCutWrong)

/-- 'laws.FnExactTurnNet': WHATEVER THE INPUT: true; the input reads as it did. -/
def fnExactTurnNetSpec : ChangeSpec := { name := "fnExactTurnNet", fn := fun _ => fun
  | [d] => { results := [.lit (.bool true)], args := [d] }
  | _ => none }
def fnExactTurnNetRow : OpenClaim := { program := "ytamadhdnblmfhaa", sum := "4c233d78b9839ea3bf8e1cd51be28c5d3135019c013d80149f3c43378b109c2d", func := "loop.example/g03307/laws.FnExactTurnNet", spec := "fnExactTurnNet", apart := false }
def FnExactTurnNetSaid : Prop := fnExactTurnNetRow.holds Try.pinned (OpenSpec.ofChange fnExactTurnNetSpec)

/-- ITS FALSE NEIGHBOUR: 'it returns false'. Refute it at one input. -/
def fnExactTurnNetWrong : ChangeSpec := { name := "fnExactTurnNet", fn := fun _ => fun
  | [d] => { results := [.lit (.bool false)], args := [d] }
  | _ => none }
def FnExactTurnNetWrongFalsely : Prop := fnExactTurnNetRow.holds Try.pinned (OpenSpec.ofChange fnExactTurnNetWrong)

/-- 'laws.FnExactFlowOk': WHATEVER THE INPUT: true; the input reads as it did. -/
def fnExactFlowOkSpec : ChangeSpec := { name := "fnExactFlowOk", fn := fun _ => fun
  | [d1, d2, d3, d4] => { results := [.lit (.bool true)], args := [d1, d2, d3, d4] }
  | _ => none }
def fnExactFlowOkRow : OpenClaim := { program := "ytamadhdnblmfhaa", sum := "4c233d78b9839ea3bf8e1cd51be28c5d3135019c013d80149f3c43378b109c2d", func := "loop.example/g03307/laws.FnExactFlowOk", spec := "fnExactFlowOk", apart := false }
def FnExactFlowOkSaid : Prop := fnExactFlowOkRow.holds Try.pinned (OpenSpec.ofChange fnExactFlowOkSpec)

/-- ITS FALSE NEIGHBOUR: 'it returns false'. Refute it at one input. -/
def fnExactFlowOkWrong : ChangeSpec := { name := "fnExactFlowOk", fn := fun _ => fun
  | [d1, d2, d3, d4] => { results := [.lit (.bool false)], args := [d1, d2, d3, d4] }
  | _ => none }
def FnExactFlowOkWrongFalsely : Prop := fnExactFlowOkRow.holds Try.pinned (OpenSpec.ofChange fnExactFlowOkWrong)

/-- 'laws.FnExactFlowSize': WHATEVER THE INPUT: true; the input reads as it did. -/
def fnExactFlowSizeSpec : ChangeSpec := { name := "fnExactFlowSize", fn := fun _ => fun
  | [d1, d2, d3, d4] => { results := [.lit (.bool true)], args := [d1, d2, d3, d4] }
  | _ => none }
def fnExactFlowSizeRow : OpenClaim := { program := "ytamadhdnblmfhaa", sum := "4c233d78b9839ea3bf8e1cd51be28c5d3135019c013d80149f3c43378b109c2d", func := "loop.example/g03307/laws.FnExactFlowSize", spec := "fnExactFlowSize", apart := false }
def FnExactFlowSizeSaid : Prop := fnExactFlowSizeRow.holds Try.pinned (OpenSpec.ofChange fnExactFlowSizeSpec)

/-- ITS FALSE NEIGHBOUR: 'it returns false'. Refute it at one input. -/
def fnExactFlowSizeWrong : ChangeSpec := { name := "fnExactFlowSize", fn := fun _ => fun
  | [d1, d2, d3, d4] => { results := [.lit (.bool false)], args := [d1, d2, d3, d4] }
  | _ => none }
def FnExactFlowSizeWrongFalsely : Prop := fnExactFlowSizeRow.holds Try.pinned (OpenSpec.ofChange fnExactFlowSizeWrong)

/-- 'laws.FnExactReachedBy': WHATEVER THE INPUT: true; the input reads as it did. -/
def fnExactReachedBySpec : ChangeSpec := { name := "fnExactReachedBy", fn := fun _ => fun
  | [d1, d2] => { results := [.lit (.bool true)], args := [d1, d2] }
  | _ => none }
def fnExactReachedByRow : OpenClaim := { program := "ytamadhdnblmfhaa", sum := "4c233d78b9839ea3bf8e1cd51be28c5d3135019c013d80149f3c43378b109c2d", func := "loop.example/g03307/laws.FnExactReachedBy", spec := "fnExactReachedBy", apart := false }
def FnExactReachedBySaid : Prop := fnExactReachedByRow.holds Try.pinned (OpenSpec.ofChange fnExactReachedBySpec)

/-- ITS FALSE NEIGHBOUR: 'it returns false'. Refute it at one input. -/
def fnExactReachedByWrong : ChangeSpec := { name := "fnExactReachedBy", fn := fun _ => fun
  | [d1, d2] => { results := [.lit (.bool false)], args := [d1, d2] }
  | _ => none }
def FnExactReachedByWrongFalsely : Prop := fnExactReachedByRow.holds Try.pinned (OpenSpec.ofChange fnExactReachedByWrong)

/-- 'laws.FnExactProvesGreatest': WHATEVER THE INPUT: true; the input reads as it did. -/
def fnExactProvesGreatestSpec : ChangeSpec := { name := "fnExactProvesGreatest", fn := fun _ => fun
  | [d1, d2, d3, d4, d5] => { results := [.lit (.bool true)], args := [d1, d2, d3, d4, d5] }
  | _ => none }
def fnExactProvesGreatestRow : OpenClaim := { program := "ytamadhdnblmfhaa", sum := "4c233d78b9839ea3bf8e1cd51be28c5d3135019c013d80149f3c43378b109c2d", func := "loop.example/g03307/laws.FnExactProvesGreatest", spec := "fnExactProvesGreatest", apart := false }
def FnExactProvesGreatestSaid : Prop := fnExactProvesGreatestRow.holds Try.pinned (OpenSpec.ofChange fnExactProvesGreatestSpec)

/-- ITS FALSE NEIGHBOUR: 'it returns false'. Refute it at one input. -/
def fnExactProvesGreatestWrong : ChangeSpec := { name := "fnExactProvesGreatest", fn := fun _ => fun
  | [d1, d2, d3, d4, d5] => { results := [.lit (.bool false)], args := [d1, d2, d3, d4, d5] }
  | _ => none }
def FnExactProvesGreatestWrongFalsely : Prop := fnExactProvesGreatestRow.holds Try.pinned (OpenSpec.ofChange fnExactProvesGreatestWrong)

/- THE SECOND FORM. 'bulk': how many values and letters a reading holds, each counted each time it is reached (what is shared counts as often as it is met; a slice's spare places count too). A statement '..UptoSaid' is the law's where the arguments, and the package variables that the reading takes, are together of bulk at most 1048576: NARROWER than '..Said'. Prove '..Said' where nothing that the law and all that it calls make is longer than what came in: it says more and counts as full. Else prove '..UptoSaid'. A law counts once. -/
mutual
def uptoBulk {H : Type} : DataW H → Nat
  | .lit (.string bytes) => bytes.length + 1
  | .lit _ => 1
  | .nil => 1
  | .ptr d => uptoBulk d + 1
  | .slice elems spare => uptoBulkAll elems + uptoBulkAll spare + 1
  | .agg parts => uptoBulkAll parts + 1
  | .iface _ d => uptoBulk d + 1
  | .map entries => uptoBulkEntries entries + 1
  | .held _ => 1
def uptoBulkAll {H : Type} : List (DataW H) → Nat
  | [] => 0
  | d :: r => uptoBulk d + uptoBulkAll r
def uptoBulkEntries {H : Type} : List (Lit × DataW H) → Nat
  | [] => 0
  | x :: r => uptoBulkEntry x + uptoBulkEntries r
def uptoBulkEntry {H : Type} : Lit × DataW H → Nat
  | (.string bytes, d) => bytes.length + uptoBulk d + 1
  | (_, d) => uptoBulk d + 1
 end
def uptoSmall : (H : Type) → List (DataW H) → Bool := fun _ ds => decide (uptoBulkAll ds ≤ 1048576)
def OpenSpec.upto (s : _root_.Go.ChangeSpec) : _root_.Go.OpenSpec := { _root_.Go.OpenSpec.ofChange s with cond := some uptoSmall }

/-- 'laws.FnFlows', WHERE WHAT IT READS IS OF BULK AT MOST 1048576: true; the input reads as it did. -/
def fnFlowsUptoRow : OpenClaim := { program := "ytamadhdnblmfhaa", sum := "4c233d78b9839ea3bf8e1cd51be28c5d3135019c013d80149f3c43378b109c2d", func := "loop.example/g03307/laws.FnFlows", spec := "fnFlows", apart := false, narrowed := true }
def FnFlowsUptoSaid : Prop := fnFlowsUptoRow.holds Try.pinned (OpenSpec.upto fnFlowsSpec)

/-- 'laws.FnExactIsUsed', WHERE WHAT IT READS IS OF BULK AT MOST 1048576: true; the input reads as it did. -/
def fnExactIsUsedUptoRow : OpenClaim := { program := "ytamadhdnblmfhaa", sum := "4c233d78b9839ea3bf8e1cd51be28c5d3135019c013d80149f3c43378b109c2d", func := "loop.example/g03307/laws.FnExactIsUsed", spec := "fnExactIsUsed", apart := false, narrowed := true }
def FnExactIsUsedUptoSaid : Prop := fnExactIsUsedUptoRow.holds Try.pinned (OpenSpec.upto fnExactIsUsedSpec)

/-- 'laws.FnExactCutWidth', WHERE WHAT IT READS IS OF BULK AT MOST 1048576: true; the input reads as it did. -/
def fnExactCutWidthUptoRow : OpenClaim := { program := "ytamadhdnblmfhaa", sum := "4c233d78b9839ea3bf8e1cd51be28c5d3135019c013d80149f3c43378b109c2d", func := "loop.example/g03307/laws.FnExactCutWidth", spec := "fnExactCutWidth", apart := false, narrowed := true }
def FnExactCutWidthUptoSaid : Prop := fnExactCutWidthUptoRow.holds Try.pinned (OpenSpec.upto fnExactCutWidthSpec)

/-- 'laws.FnExactIsCut', WHERE WHAT IT READS IS OF BULK AT MOST 1048576: true; the input reads as it did. -/
def fnExactIsCutUptoRow : OpenClaim := { program := "ytamadhdnblmfhaa", sum := "4c233d78b9839ea3bf8e1cd51be28c5d3135019c013d80149f3c43378b109c2d", func := "loop.example/g03307/laws.FnExactIsCut", spec := "fnExactIsCut", apart := false, narrowed := true }
def FnExactIsCutUptoSaid : Prop := fnExactIsCutUptoRow.holds Try.pinned (OpenSpec.upto fnExactIsCutSpec)

/-- 'laws.FnExactWidestWay', WHERE WHAT IT READS IS OF BULK AT MOST 1048576: true; the input reads as it did. -/
def fnExactWidestWayUptoRow : OpenClaim := { program := "ytamadhdnblmfhaa", sum := "4c233d78b9839ea3bf8e1cd51be28c5d3135019c013d80149f3c43378b109c2d", func := "loop.example/g03307/laws.FnExactWidestWay", spec := "fnExactWidestWay", apart := false, narrowed := true }
def FnExactWidestWayUptoSaid : Prop := fnExactWidestWayUptoRow.holds Try.pinned (OpenSpec.upto fnExactWidestWaySpec)

/-- 'laws.FnExactWithoutPipe', WHERE WHAT IT READS IS OF BULK AT MOST 1048576: true; the input reads as it did. -/
def fnExactWithoutPipeUptoRow : OpenClaim := { program := "ytamadhdnblmfhaa", sum := "4c233d78b9839ea3bf8e1cd51be28c5d3135019c013d80149f3c43378b109c2d", func := "loop.example/g03307/laws.FnExactWithoutPipe", spec := "fnExactWithoutPipe", apart := false, narrowed := true }
def FnExactWithoutPipeUptoSaid : Prop := fnExactWithoutPipeUptoRow.holds Try.pinned (OpenSpec.upto fnExactWithoutPipeSpec)

/-- 'laws.FnExactNarrowestCut', WHERE WHAT IT READS IS OF BULK AT MOST 1048576: true; the input reads as it did. -/
def fnExactNarrowestCutUptoRow : OpenClaim := { program := "ytamadhdnblmfhaa", sum := "4c233d78b9839ea3bf8e1cd51be28c5d3135019c013d80149f3c43378b109c2d", func := "loop.example/g03307/laws.FnExactNarrowestCut", spec := "fnExactNarrowestCut", apart := false, narrowed := true }
def FnExactNarrowestCutUptoSaid : Prop := fnExactNarrowestCutUptoRow.holds Try.pinned (OpenSpec.upto fnExactNarrowestCutSpec)

/-- 'laws.FnExactTurnNet', WHERE WHAT IT READS IS OF BULK AT MOST 1048576: true; the input reads as it did. -/
def fnExactTurnNetUptoRow : OpenClaim := { program := "ytamadhdnblmfhaa", sum := "4c233d78b9839ea3bf8e1cd51be28c5d3135019c013d80149f3c43378b109c2d", func := "loop.example/g03307/laws.FnExactTurnNet", spec := "fnExactTurnNet", apart := false, narrowed := true }
def FnExactTurnNetUptoSaid : Prop := fnExactTurnNetUptoRow.holds Try.pinned (OpenSpec.upto fnExactTurnNetSpec)

/-- 'laws.FnExactFlowOk', WHERE WHAT IT READS IS OF BULK AT MOST 1048576: true; the input reads as it did. -/
def fnExactFlowOkUptoRow : OpenClaim := { program := "ytamadhdnblmfhaa", sum := "4c233d78b9839ea3bf8e1cd51be28c5d3135019c013d80149f3c43378b109c2d", func := "loop.example/g03307/laws.FnExactFlowOk", spec := "fnExactFlowOk", apart := false, narrowed := true }
def FnExactFlowOkUptoSaid : Prop := fnExactFlowOkUptoRow.holds Try.pinned (OpenSpec.upto fnExactFlowOkSpec)

/-- 'laws.FnExactFlowSize', WHERE WHAT IT READS IS OF BULK AT MOST 1048576: true; the input reads as it did. -/
def fnExactFlowSizeUptoRow : OpenClaim := { program := "ytamadhdnblmfhaa", sum := "4c233d78b9839ea3bf8e1cd51be28c5d3135019c013d80149f3c43378b109c2d", func := "loop.example/g03307/laws.FnExactFlowSize", spec := "fnExactFlowSize", apart := false, narrowed := true }
def FnExactFlowSizeUptoSaid : Prop := fnExactFlowSizeUptoRow.holds Try.pinned (OpenSpec.upto fnExactFlowSizeSpec)

/-- 'laws.FnExactReachedBy', WHERE WHAT IT READS IS OF BULK AT MOST 1048576: true; the input reads as it did. -/
def fnExactReachedByUptoRow : OpenClaim := { program := "ytamadhdnblmfhaa", sum := "4c233d78b9839ea3bf8e1cd51be28c5d3135019c013d80149f3c43378b109c2d", func := "loop.example/g03307/laws.FnExactReachedBy", spec := "fnExactReachedBy", apart := false, narrowed := true }
def FnExactReachedByUptoSaid : Prop := fnExactReachedByUptoRow.holds Try.pinned (OpenSpec.upto fnExactReachedBySpec)

/-- 'laws.FnExactProvesGreatest', WHERE WHAT IT READS IS OF BULK AT MOST 1048576: true; the input reads as it did. -/
def fnExactProvesGreatestUptoRow : OpenClaim := { program := "ytamadhdnblmfhaa", sum := "4c233d78b9839ea3bf8e1cd51be28c5d3135019c013d80149f3c43378b109c2d", func := "loop.example/g03307/laws.FnExactProvesGreatest", spec := "fnExactProvesGreatest", apart := false, narrowed := true }
def FnExactProvesGreatestUptoSaid : Prop := fnExactProvesGreatestUptoRow.holds Try.pinned (OpenSpec.upto fnExactProvesGreatestSpec)

end Rows
end Go.Proofs.Ytamadhdnblmfhaa
