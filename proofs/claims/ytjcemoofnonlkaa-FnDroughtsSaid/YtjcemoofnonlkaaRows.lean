/-
  No cell of these rows narrows 'for every input' (looked for: loops, veiled, ifaces, maps, wideKeys, modest, calm, conditions, laid).
  DERIVED. THE GIVEN ROWS OF THIS SEAT. 12 by the template 'for every input the law returns true; each argument reads behind the call as it read before'; 0 by the template 'total and deterministic' (their statements: YtjcemoofnonlkaaTotals.lean).
  GIVEN WITH THE SEED: the statements are not yours to turn. If you find one false, say at which input.
  Laid BY PROGRAM, IN A SANDBOX (cutbox-rows.mjs): the forced cells as the released guide's own fill.sh prints them over the translation 5c6bacb52a171e89… (all of the seat's roots in one cut). By AI agents, Wed Nov 11 2026. No macro, syntax, notation, axiom, sorry.
-/
import Derived.Test.YtjcemoofnonlkaaChecked
import GoSem.Claim
import GoSem.ClaimJoined
import GoSem.ClaimMapViews
import Derived.JoinedTies
import Derived.KernelRfl
namespace Go.Proofs.Ytjcemoofnonlkaa
/- THE CELL 'sum', in the pinned program and in every row, IS THE sha256 OF THE DUMP (.gsa) THAT YtjcemoofnonlkaaProg.lean LOADS. Nothing in Lean hashes anything: it is a label: what it is worth is what the hold of that sum in a sandbox is worth. -/
noncomputable def Try.pinned : Pinned := { name := "ytjcemoofnonlkaa", sum := "5c6bacb52a171e8976e767cd547681197bcd71ea18a45a5ea26240756d1a010b", checked := Try.checked }
namespace Rows
def none {H : Type} : Left H := { results := [], args := [] }

/-- 'laws.FnExactContestOfTwo': WHATEVER THE INPUT: true; the input reads as it did. -/
def fnExactContestOfTwoSpec : ChangeSpec := { name := "fnExactContestOfTwo", fn := fun _ => fun
  | [d1, d2, d3] => { results := [.lit (.bool true)], args := [d1, d2, d3] }
  | _ => none }
def fnExactContestOfTwoRow : OpenClaim := { program := "ytjcemoofnonlkaa", sum := "5c6bacb52a171e8976e767cd547681197bcd71ea18a45a5ea26240756d1a010b", func := "loop.example/g03307/laws.FnExactContestOfTwo", spec := "fnExactContestOfTwo", apart := false }
def FnExactContestOfTwoSaid : Prop := fnExactContestOfTwoRow.holds Try.pinned (OpenSpec.ofChange fnExactContestOfTwoSpec)

/-- ITS FALSE NEIGHBOUR: 'it returns false'. Refute it at one input. -/
def fnExactContestOfTwoWrong : ChangeSpec := { name := "fnExactContestOfTwo", fn := fun _ => fun
  | [d1, d2, d3] => { results := [.lit (.bool false)], args := [d1, d2, d3] }
  | _ => none }
def FnExactContestOfTwoWrongFalsely : Prop := fnExactContestOfTwoRow.holds Try.pinned (OpenSpec.ofChange fnExactContestOfTwoWrong)

/-- 'laws.FnExactClaimsOk': WHATEVER THE INPUT: true; the input reads as it did. -/
def fnExactClaimsOkSpec : ChangeSpec := { name := "fnExactClaimsOk", fn := fun _ => fun
  | [d] => { results := [.lit (.bool true)], args := [d] }
  | _ => none }
def fnExactClaimsOkRow : OpenClaim := { program := "ytjcemoofnonlkaa", sum := "5c6bacb52a171e8976e767cd547681197bcd71ea18a45a5ea26240756d1a010b", func := "loop.example/g03307/laws.FnExactClaimsOk", spec := "fnExactClaimsOk", apart := false }
def FnExactClaimsOkSaid : Prop := fnExactClaimsOkRow.holds Try.pinned (OpenSpec.ofChange fnExactClaimsOkSpec)

/-- ITS FALSE NEIGHBOUR: 'it returns false'. Refute it at one input. -/
def fnExactClaimsOkWrong : ChangeSpec := { name := "fnExactClaimsOk", fn := fun _ => fun
  | [d] => { results := [.lit (.bool false)], args := [d] }
  | _ => none }
def FnExactClaimsOkWrongFalsely : Prop := fnExactClaimsOkRow.holds Try.pinned (OpenSpec.ofChange fnExactClaimsOkWrong)

/-- 'laws.FnExactGladFrom': WHATEVER THE INPUT: true; the input reads as it did. -/
def fnExactGladFromSpec : ChangeSpec := { name := "fnExactGladFrom", fn := fun _ => fun
  | [d1, d2] => { results := [.lit (.bool true)], args := [d1, d2] }
  | _ => none }
def fnExactGladFromRow : OpenClaim := { program := "ytjcemoofnonlkaa", sum := "5c6bacb52a171e8976e767cd547681197bcd71ea18a45a5ea26240756d1a010b", func := "loop.example/g03307/laws.FnExactGladFrom", spec := "fnExactGladFrom", apart := false }
def FnExactGladFromSaid : Prop := fnExactGladFromRow.holds Try.pinned (OpenSpec.ofChange fnExactGladFromSpec)

/-- ITS FALSE NEIGHBOUR: 'it returns false'. Refute it at one input. -/
def fnExactGladFromWrong : ChangeSpec := { name := "fnExactGladFrom", fn := fun _ => fun
  | [d1, d2] => { results := [.lit (.bool false)], args := [d1, d2] }
  | _ => none }
def FnExactGladFromWrongFalsely : Prop := fnExactGladFromRow.holds Try.pinned (OpenSpec.ofChange fnExactGladFromWrong)

/-- 'laws.FnExactMissingWater': WHATEVER THE INPUT: true; the input reads as it did. -/
def fnExactMissingWaterSpec : ChangeSpec := { name := "fnExactMissingWater", fn := fun _ => fun
  | [d1, d2] => { results := [.lit (.bool true)], args := [d1, d2] }
  | _ => none }
def fnExactMissingWaterRow : OpenClaim := { program := "ytjcemoofnonlkaa", sum := "5c6bacb52a171e8976e767cd547681197bcd71ea18a45a5ea26240756d1a010b", func := "loop.example/g03307/laws.FnExactMissingWater", spec := "fnExactMissingWater", apart := false }
def FnExactMissingWaterSaid : Prop := fnExactMissingWaterRow.holds Try.pinned (OpenSpec.ofChange fnExactMissingWaterSpec)

/-- ITS FALSE NEIGHBOUR: 'it returns false'. Refute it at one input. -/
def fnExactMissingWaterWrong : ChangeSpec := { name := "fnExactMissingWater", fn := fun _ => fun
  | [d1, d2] => { results := [.lit (.bool false)], args := [d1, d2] }
  | _ => none }
def FnExactMissingWaterWrongFalsely : Prop := fnExactMissingWaterRow.holds Try.pinned (OpenSpec.ofChange fnExactMissingWaterWrong)

/-- 'laws.FnExactFirstCome': WHATEVER THE INPUT: true; the input reads as it did. -/
def fnExactFirstComeSpec : ChangeSpec := { name := "fnExactFirstCome", fn := fun _ => fun
  | [d1, d2] => { results := [.lit (.bool true)], args := [d1, d2] }
  | _ => none }
def fnExactFirstComeRow : OpenClaim := { program := "ytjcemoofnonlkaa", sum := "5c6bacb52a171e8976e767cd547681197bcd71ea18a45a5ea26240756d1a010b", func := "loop.example/g03307/laws.FnExactFirstCome", spec := "fnExactFirstCome", apart := false }
def FnExactFirstComeSaid : Prop := fnExactFirstComeRow.holds Try.pinned (OpenSpec.ofChange fnExactFirstComeSpec)

/-- ITS FALSE NEIGHBOUR: 'it returns false'. Refute it at one input. -/
def fnExactFirstComeWrong : ChangeSpec := { name := "fnExactFirstCome", fn := fun _ => fun
  | [d1, d2] => { results := [.lit (.bool false)], args := [d1, d2] }
  | _ => none }
def FnExactFirstComeWrongFalsely : Prop := fnExactFirstComeRow.holds Try.pinned (OpenSpec.ofChange fnExactFirstComeWrong)

/-- 'laws.FnExactIsPairwise': WHATEVER THE INPUT: true; the input reads as it did. -/
def fnExactIsPairwiseSpec : ChangeSpec := { name := "fnExactIsPairwise", fn := fun _ => fun
  | [d1, d2] => { results := [.lit (.bool true)], args := [d1, d2] }
  | _ => none }
def fnExactIsPairwiseRow : OpenClaim := { program := "ytjcemoofnonlkaa", sum := "5c6bacb52a171e8976e767cd547681197bcd71ea18a45a5ea26240756d1a010b", func := "loop.example/g03307/laws.FnExactIsPairwise", spec := "fnExactIsPairwise", apart := false }
def FnExactIsPairwiseSaid : Prop := fnExactIsPairwiseRow.holds Try.pinned (OpenSpec.ofChange fnExactIsPairwiseSpec)

/-- ITS FALSE NEIGHBOUR: 'it returns false'. Refute it at one input. -/
def fnExactIsPairwiseWrong : ChangeSpec := { name := "fnExactIsPairwise", fn := fun _ => fun
  | [d1, d2] => { results := [.lit (.bool false)], args := [d1, d2] }
  | _ => none }
def FnExactIsPairwiseWrongFalsely : Prop := fnExactIsPairwiseRow.holds Try.pinned (OpenSpec.ofChange fnExactIsPairwiseWrong)

/-- 'laws.FnExactEqualParts': WHATEVER THE INPUT: true; the input reads as it did. -/
def fnExactEqualPartsSpec : ChangeSpec := { name := "fnExactEqualParts", fn := fun _ => fun
  | [d1, d2] => { results := [.lit (.bool true)], args := [d1, d2] }
  | _ => none }
def fnExactEqualPartsRow : OpenClaim := { program := "ytjcemoofnonlkaa", sum := "5c6bacb52a171e8976e767cd547681197bcd71ea18a45a5ea26240756d1a010b", func := "loop.example/g03307/laws.FnExactEqualParts", spec := "fnExactEqualParts", unfollowed := true, recurses := true, apart := false }
def FnExactEqualPartsSaid : Prop := fnExactEqualPartsRow.holds Try.pinned (OpenSpec.ofChange fnExactEqualPartsSpec)

/-- ITS FALSE NEIGHBOUR: 'it returns false'. Refute it at one input. -/
def fnExactEqualPartsWrong : ChangeSpec := { name := "fnExactEqualParts", fn := fun _ => fun
  | [d1, d2] => { results := [.lit (.bool false)], args := [d1, d2] }
  | _ => none }
def FnExactEqualPartsWrongFalsely : Prop := fnExactEqualPartsRow.holds Try.pinned (OpenSpec.ofChange fnExactEqualPartsWrong)

/-- 'laws.FnExactHalfRule': WHATEVER THE INPUT: true; the input reads as it did. -/
def fnExactHalfRuleSpec : ChangeSpec := { name := "fnExactHalfRule", fn := fun _ => fun
  | [d1, d2] => { results := [.lit (.bool true)], args := [d1, d2] }
  | _ => none }
def fnExactHalfRuleRow : OpenClaim := { program := "ytjcemoofnonlkaa", sum := "5c6bacb52a171e8976e767cd547681197bcd71ea18a45a5ea26240756d1a010b", func := "loop.example/g03307/laws.FnExactHalfRule", spec := "fnExactHalfRule", unfollowed := true, recurses := true, apart := false }
def FnExactHalfRuleSaid : Prop := fnExactHalfRuleRow.holds Try.pinned (OpenSpec.ofChange fnExactHalfRuleSpec)

/-- ITS FALSE NEIGHBOUR: 'it returns false'. Refute it at one input. -/
def fnExactHalfRuleWrong : ChangeSpec := { name := "fnExactHalfRule", fn := fun _ => fun
  | [d1, d2] => { results := [.lit (.bool false)], args := [d1, d2] }
  | _ => none }
def FnExactHalfRuleWrongFalsely : Prop := fnExactHalfRuleRow.holds Try.pinned (OpenSpec.ofChange fnExactHalfRuleWrong)

/-- 'laws.FnExactEqualLosses': WHATEVER THE INPUT: true; the input reads as it did. -/
def fnExactEqualLossesSpec : ChangeSpec := { name := "fnExactEqualLosses", fn := fun _ => fun
  | [d1, d2] => { results := [.lit (.bool true)], args := [d1, d2] }
  | _ => none }
def fnExactEqualLossesRow : OpenClaim := { program := "ytjcemoofnonlkaa", sum := "5c6bacb52a171e8976e767cd547681197bcd71ea18a45a5ea26240756d1a010b", func := "loop.example/g03307/laws.FnExactEqualLosses", spec := "fnExactEqualLosses", unfollowed := true, recurses := true, apart := false }
def FnExactEqualLossesSaid : Prop := fnExactEqualLossesRow.holds Try.pinned (OpenSpec.ofChange fnExactEqualLossesSpec)

/-- ITS FALSE NEIGHBOUR: 'it returns false'. Refute it at one input. -/
def fnExactEqualLossesWrong : ChangeSpec := { name := "fnExactEqualLosses", fn := fun _ => fun
  | [d1, d2] => { results := [.lit (.bool false)], args := [d1, d2] }
  | _ => none }
def FnExactEqualLossesWrongFalsely : Prop := fnExactEqualLossesRow.holds Try.pinned (OpenSpec.ofChange fnExactEqualLossesWrong)

/-- 'laws.FnExactProportional': WHATEVER THE INPUT: true; the input reads as it did. -/
def fnExactProportionalSpec : ChangeSpec := { name := "fnExactProportional", fn := fun _ => fun
  | [d1, d2] => { results := [.lit (.bool true)], args := [d1, d2] }
  | _ => none }
def fnExactProportionalRow : OpenClaim := { program := "ytjcemoofnonlkaa", sum := "5c6bacb52a171e8976e767cd547681197bcd71ea18a45a5ea26240756d1a010b", func := "loop.example/g03307/laws.FnExactProportional", spec := "fnExactProportional", unfollowed := true, recurses := true, apart := false }
def FnExactProportionalSaid : Prop := fnExactProportionalRow.holds Try.pinned (OpenSpec.ofChange fnExactProportionalSpec)

/-- ITS FALSE NEIGHBOUR: 'it returns false'. Refute it at one input. -/
def fnExactProportionalWrong : ChangeSpec := { name := "fnExactProportional", fn := fun _ => fun
  | [d1, d2] => { results := [.lit (.bool false)], args := [d1, d2] }
  | _ => none }
def FnExactProportionalWrongFalsely : Prop := fnExactProportionalRow.holds Try.pinned (OpenSpec.ofChange fnExactProportionalWrong)

/-- 'laws.FnDroughts': WHATEVER THE INPUT: true; the input reads as it did. -/
def fnDroughtsSpec : ChangeSpec := { name := "fnDroughts", fn := fun _ => fun
  | [d] => { results := [.lit (.bool true)], args := [d] }
  | _ => none }
def fnDroughtsRow : OpenClaim := { program := "ytjcemoofnonlkaa", sum := "5c6bacb52a171e8976e767cd547681197bcd71ea18a45a5ea26240756d1a010b", func := "loop.example/g03307/laws.FnDroughts", spec := "fnDroughts", unfollowed := true, recurses := true, apart := false }
def FnDroughtsSaid : Prop := fnDroughtsRow.holds Try.pinned (OpenSpec.ofChange fnDroughtsSpec)

/-- ITS FALSE NEIGHBOUR: 'it returns false'. Refute it at one input. -/
def fnDroughtsWrong : ChangeSpec := { name := "fnDroughts", fn := fun _ => fun
  | [d] => { results := [.lit (.bool false)], args := [d] }
  | _ => none }
def FnDroughtsWrongFalsely : Prop := fnDroughtsRow.holds Try.pinned (OpenSpec.ofChange fnDroughtsWrong)

/-- 'laws.FnHalves': WHATEVER THE INPUT: true; the input reads as it did. -/
def fnHalvesSpec : ChangeSpec := { name := "fnHalves", fn := fun _ => fun
  | [d] => { results := [.lit (.bool true)], args := [d] }
  | _ => none }
def fnHalvesRow : OpenClaim := { program := "ytjcemoofnonlkaa", sum := "5c6bacb52a171e8976e767cd547681197bcd71ea18a45a5ea26240756d1a010b", func := "loop.example/g03307/laws.FnHalves", spec := "fnHalves", unfollowed := true, recurses := true, apart := false }
def FnHalvesSaid : Prop := fnHalvesRow.holds Try.pinned (OpenSpec.ofChange fnHalvesSpec)

/-- ITS FALSE NEIGHBOUR: 'it returns false'. Refute it at one input. -/
def fnHalvesWrong : ChangeSpec := { name := "fnHalves", fn := fun _ => fun
  | [d] => { results := [.lit (.bool false)], args := [d] }
  | _ => none }
def FnHalvesWrongFalsely : Prop := fnHalvesRow.holds Try.pinned (OpenSpec.ofChange fnHalvesWrong)

/- THE SECOND FORM. 'bulk': how many values and letters a reading holds, each counted each time it is reached (what is shared counts as often as it is met; a slice's spare places count too). A statement '..UptoSaid' is the law's where the arguments, and the package variables that the reading takes, are together of bulk at most 1048576: NARROWER than '..Said'. Prove '..Said' where nothing that the law and all that it calls make is longer than what came in: it says more and counts as full. Else prove '..UptoSaid'. A law counts once. -/
mutual
def uptoBulk {H : Type} : DataW H → Nat
  | .lit (.string bytes) => bytes.length + 1
  | .lit _ => 1
  | .nil => 1
  | .ptr d => uptoBulk d + 1
  | .slice elems spare => uptoBulkAll elems + uptoBulkAll spare + 1
  | .agg parts => uptoBulkAll parts + 1
  | .iface _ d => uptoBulk d + 1
  | .map entries => uptoBulkEntries entries + 1
  | .held _ => 1
def uptoBulkAll {H : Type} : List (DataW H) → Nat
  | [] => 0
  | d :: r => uptoBulk d + uptoBulkAll r
def uptoBulkEntries {H : Type} : List (Lit × DataW H) → Nat
  | [] => 0
  | x :: r => uptoBulkEntry x + uptoBulkEntries r
def uptoBulkEntry {H : Type} : Lit × DataW H → Nat
  | (.string bytes, d) => bytes.length + uptoBulk d + 1
  | (_, d) => uptoBulk d + 1
 end
def uptoSmall : (H : Type) → List (DataW H) → Bool := fun _ ds => decide (uptoBulkAll ds ≤ 1048576)
def OpenSpec.upto (s : _root_.Go.ChangeSpec) : _root_.Go.OpenSpec := { _root_.Go.OpenSpec.ofChange s with cond := some uptoSmall }

/-- 'laws.FnExactContestOfTwo', WHERE WHAT IT READS IS OF BULK AT MOST 1048576: true; the input reads as it did. -/
def fnExactContestOfTwoUptoRow : OpenClaim := { program := "ytjcemoofnonlkaa", sum := "5c6bacb52a171e8976e767cd547681197bcd71ea18a45a5ea26240756d1a010b", func := "loop.example/g03307/laws.FnExactContestOfTwo", spec := "fnExactContestOfTwo", apart := false, narrowed := true }
def FnExactContestOfTwoUptoSaid : Prop := fnExactContestOfTwoUptoRow.holds Try.pinned (OpenSpec.upto fnExactContestOfTwoSpec)

/-- 'laws.FnExactClaimsOk', WHERE WHAT IT READS IS OF BULK AT MOST 1048576: true; the input reads as it did. -/
def fnExactClaimsOkUptoRow : OpenClaim := { program := "ytjcemoofnonlkaa", sum := "5c6bacb52a171e8976e767cd547681197bcd71ea18a45a5ea26240756d1a010b", func := "loop.example/g03307/laws.FnExactClaimsOk", spec := "fnExactClaimsOk", apart := false, narrowed := true }
def FnExactClaimsOkUptoSaid : Prop := fnExactClaimsOkUptoRow.holds Try.pinned (OpenSpec.upto fnExactClaimsOkSpec)

/-- 'laws.FnExactGladFrom', WHERE WHAT IT READS IS OF BULK AT MOST 1048576: true; the input reads as it did. -/
def fnExactGladFromUptoRow : OpenClaim := { program := "ytjcemoofnonlkaa", sum := "5c6bacb52a171e8976e767cd547681197bcd71ea18a45a5ea26240756d1a010b", func := "loop.example/g03307/laws.FnExactGladFrom", spec := "fnExactGladFrom", apart := false, narrowed := true }
def FnExactGladFromUptoSaid : Prop := fnExactGladFromUptoRow.holds Try.pinned (OpenSpec.upto fnExactGladFromSpec)

/-- 'laws.FnExactMissingWater', WHERE WHAT IT READS IS OF BULK AT MOST 1048576: true; the input reads as it did. -/
def fnExactMissingWaterUptoRow : OpenClaim := { program := "ytjcemoofnonlkaa", sum := "5c6bacb52a171e8976e767cd547681197bcd71ea18a45a5ea26240756d1a010b", func := "loop.example/g03307/laws.FnExactMissingWater", spec := "fnExactMissingWater", apart := false, narrowed := true }
def FnExactMissingWaterUptoSaid : Prop := fnExactMissingWaterUptoRow.holds Try.pinned (OpenSpec.upto fnExactMissingWaterSpec)

/-- 'laws.FnExactFirstCome', WHERE WHAT IT READS IS OF BULK AT MOST 1048576: true; the input reads as it did. -/
def fnExactFirstComeUptoRow : OpenClaim := { program := "ytjcemoofnonlkaa", sum := "5c6bacb52a171e8976e767cd547681197bcd71ea18a45a5ea26240756d1a010b", func := "loop.example/g03307/laws.FnExactFirstCome", spec := "fnExactFirstCome", apart := false, narrowed := true }
def FnExactFirstComeUptoSaid : Prop := fnExactFirstComeUptoRow.holds Try.pinned (OpenSpec.upto fnExactFirstComeSpec)

/-- 'laws.FnExactIsPairwise', WHERE WHAT IT READS IS OF BULK AT MOST 1048576: true; the input reads as it did. -/
def fnExactIsPairwiseUptoRow : OpenClaim := { program := "ytjcemoofnonlkaa", sum := "5c6bacb52a171e8976e767cd547681197bcd71ea18a45a5ea26240756d1a010b", func := "loop.example/g03307/laws.FnExactIsPairwise", spec := "fnExactIsPairwise", apart := false, narrowed := true }
def FnExactIsPairwiseUptoSaid : Prop := fnExactIsPairwiseUptoRow.holds Try.pinned (OpenSpec.upto fnExactIsPairwiseSpec)

/-- 'laws.FnExactEqualParts', WHERE WHAT IT READS IS OF BULK AT MOST 1048576: true; the input reads as it did. -/
def fnExactEqualPartsUptoRow : OpenClaim := { program := "ytjcemoofnonlkaa", sum := "5c6bacb52a171e8976e767cd547681197bcd71ea18a45a5ea26240756d1a010b", func := "loop.example/g03307/laws.FnExactEqualParts", spec := "fnExactEqualParts", unfollowed := true, recurses := true, apart := false, narrowed := true }
def FnExactEqualPartsUptoSaid : Prop := fnExactEqualPartsUptoRow.holds Try.pinned (OpenSpec.upto fnExactEqualPartsSpec)

/-- 'laws.FnExactHalfRule', WHERE WHAT IT READS IS OF BULK AT MOST 1048576: true; the input reads as it did. -/
def fnExactHalfRuleUptoRow : OpenClaim := { program := "ytjcemoofnonlkaa", sum := "5c6bacb52a171e8976e767cd547681197bcd71ea18a45a5ea26240756d1a010b", func := "loop.example/g03307/laws.FnExactHalfRule", spec := "fnExactHalfRule", unfollowed := true, recurses := true, apart := false, narrowed := true }
def FnExactHalfRuleUptoSaid : Prop := fnExactHalfRuleUptoRow.holds Try.pinned (OpenSpec.upto fnExactHalfRuleSpec)

/-- 'laws.FnExactEqualLosses', WHERE WHAT IT READS IS OF BULK AT MOST 1048576: true; the input reads as it did. -/
def fnExactEqualLossesUptoRow : OpenClaim := { program := "ytjcemoofnonlkaa", sum := "5c6bacb52a171e8976e767cd547681197bcd71ea18a45a5ea26240756d1a010b", func := "loop.example/g03307/laws.FnExactEqualLosses", spec := "fnExactEqualLosses", unfollowed := true, recurses := true, apart := false, narrowed := true }
def FnExactEqualLossesUptoSaid : Prop := fnExactEqualLossesUptoRow.holds Try.pinned (OpenSpec.upto fnExactEqualLossesSpec)

/-- 'laws.FnExactProportional', WHERE WHAT IT READS IS OF BULK AT MOST 1048576: true; the input reads as it did. -/
def fnExactProportionalUptoRow : OpenClaim := { program := "ytjcemoofnonlkaa", sum := "5c6bacb52a171e8976e767cd547681197bcd71ea18a45a5ea26240756d1a010b", func := "loop.example/g03307/laws.FnExactProportional", spec := "fnExactProportional", unfollowed := true, recurses := true, apart := false, narrowed := true }
def FnExactProportionalUptoSaid : Prop := fnExactProportionalUptoRow.holds Try.pinned (OpenSpec.upto fnExactProportionalSpec)

/-- 'laws.FnDroughts', WHERE WHAT IT READS IS OF BULK AT MOST 1048576: true; the input reads as it did. -/
def fnDroughtsUptoRow : OpenClaim := { program := "ytjcemoofnonlkaa", sum := "5c6bacb52a171e8976e767cd547681197bcd71ea18a45a5ea26240756d1a010b", func := "loop.example/g03307/laws.FnDroughts", spec := "fnDroughts", unfollowed := true, recurses := true, apart := false, narrowed := true }
def FnDroughtsUptoSaid : Prop := fnDroughtsUptoRow.holds Try.pinned (OpenSpec.upto fnDroughtsSpec)

/-- 'laws.FnHalves', WHERE WHAT IT READS IS OF BULK AT MOST 1048576: true; the input reads as it did. -/
def fnHalvesUptoRow : OpenClaim := { program := "ytjcemoofnonlkaa", sum := "5c6bacb52a171e8976e767cd547681197bcd71ea18a45a5ea26240756d1a010b", func := "loop.example/g03307/laws.FnHalves", spec := "fnHalves", unfollowed := true, recurses := true, apart := false, narrowed := true }
def FnHalvesUptoSaid : Prop := fnHalvesUptoRow.holds Try.pinned (OpenSpec.upto fnHalvesSpec)

end Rows
end Go.Proofs.Ytjcemoofnonlkaa
