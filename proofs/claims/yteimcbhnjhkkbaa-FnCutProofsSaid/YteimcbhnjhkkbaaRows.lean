/-
  No cell of these rows narrows 'for every input' (looked for: loops, veiled, ifaces, maps, wideKeys, modest, calm, conditions, laid).
  DERIVED. THE GIVEN ROWS OF THIS SEAT. 5 by the template 'for every input the law returns true; each argument reads behind the call as it read before'; 0 by the template 'total and deterministic' (their statements: YteimcbhnjhkkbaaTotals.lean).
  GIVEN WITH THE SEED: the statements are not yours to turn. If you find one false, say at which input.
  Laid BY PROGRAM, IN A SANDBOX (cutbox-rows.mjs): the forced cells as the released guide's own fill.sh prints them over the translation afa919f9e98e050d… (all of the seat's roots in one cut). By AI agents, Wed Nov 11 2026. No macro, syntax, notation, axiom, sorry.
-/
import Derived.Test.YteimcbhnjhkkbaaChecked
import GoSem.Claim
import GoSem.ClaimJoined
import GoSem.ClaimMapViews
import Derived.JoinedTies
import Derived.KernelRfl
namespace Go.Proofs.Yteimcbhnjhkkbaa
/- THE CELL 'sum', in the pinned program and in every row, IS THE sha256 OF THE DUMP (.gsa) THAT YteimcbhnjhkkbaaProg.lean LOADS. Nothing in Lean hashes anything: it is a label: what it is worth is what the hold of that sum in a sandbox is worth. -/
noncomputable def Try.pinned : Pinned := { name := "yteimcbhnjhkkbaa", sum := "afa919f9e98e050d8bec1f4d1a49f261ce6ed114a905894a75c7a5ffacc61cf2", checked := Try.checked }
namespace Rows
def none {H : Type} : Left H := { results := [], args := [] }

/-- 'laws.FnCutProofs': WHATEVER THE INPUT: true; the input reads as it did. -/
def fnCutProofsSpec : ChangeSpec := { name := "fnCutProofs", fn := fun _ => fun
  | [d] => { results := [.lit (.bool true)], args := [d] }
  | _ => none }
def fnCutProofsRow : OpenClaim := { program := "yteimcbhnjhkkbaa", sum := "afa919f9e98e050d8bec1f4d1a49f261ce6ed114a905894a75c7a5ffacc61cf2", func := "loop.example/g03307/laws.FnCutProofs", spec := "fnCutProofs", apart := false }
def FnCutProofsSaid : Prop := fnCutProofsRow.holds Try.pinned (OpenSpec.ofChange fnCutProofsSpec)

/-- ITS FALSE NEIGHBOUR: 'it returns false'. Refute it at one input. -/
def fnCutProofsWrong : ChangeSpec := { name := "fnCutProofs", fn := fun _ => fun
  | [d] => { results := [.lit (.bool false)], args := [d] }
  | _ => none }
def FnCutProofsWrongFalsely : Prop := fnCutProofsRow.holds Try.pinned (OpenSpec.ofChange fnCutProofsWrong)

/-- 'laws.FnExactCutOf': WHATEVER THE INPUT: true; the input reads as it did. -/
def fnExactCutOfSpec : ChangeSpec := { name := "fnExactCutOf", fn := fun _ => fun
  | [d1, d2, d3, d4] => { results := [.lit (.bool true)], args := [d1, d2, d3, d4] }
  | _ => none }
def fnExactCutOfRow : OpenClaim := { program := "yteimcbhnjhkkbaa", sum := "afa919f9e98e050d8bec1f4d1a49f261ce6ed114a905894a75c7a5ffacc61cf2", func := "loop.example/g03307/laws.FnExactCutOf", spec := "fnExactCutOf", apart := false }
def FnExactCutOfSaid : Prop := fnExactCutOfRow.holds Try.pinned (OpenSpec.ofChange fnExactCutOfSpec)

/-- ITS FALSE NEIGHBOUR: 'it returns false'. Refute it at one input. -/
def fnExactCutOfWrong : ChangeSpec := { name := "fnExactCutOf", fn := fun _ => fun
  | [d1, d2, d3, d4] => { results := [.lit (.bool false)], args := [d1, d2, d3, d4] }
  | _ => none }
def FnExactCutOfWrongFalsely : Prop := fnExactCutOfRow.holds Try.pinned (OpenSpec.ofChange fnExactCutOfWrong)

/-- 'laws.FnExactFindFlow': WHATEVER THE INPUT: true; the input reads as it did. -/
def fnExactFindFlowSpec : ChangeSpec := { name := "fnExactFindFlow", fn := fun _ => fun
  | [d1, d2, d3] => { results := [.lit (.bool true)], args := [d1, d2, d3] }
  | _ => none }
def fnExactFindFlowRow : OpenClaim := { program := "yteimcbhnjhkkbaa", sum := "afa919f9e98e050d8bec1f4d1a49f261ce6ed114a905894a75c7a5ffacc61cf2", func := "loop.example/g03307/laws.FnExactFindFlow", spec := "fnExactFindFlow", apart := false }
def FnExactFindFlowSaid : Prop := fnExactFindFlowRow.holds Try.pinned (OpenSpec.ofChange fnExactFindFlowSpec)

/-- ITS FALSE NEIGHBOUR: 'it returns false'. Refute it at one input. -/
def fnExactFindFlowWrong : ChangeSpec := { name := "fnExactFindFlow", fn := fun _ => fun
  | [d1, d2, d3] => { results := [.lit (.bool false)], args := [d1, d2, d3] }
  | _ => none }
def FnExactFindFlowWrongFalsely : Prop := fnExactFindFlowRow.holds Try.pinned (OpenSpec.ofChange fnExactFindFlowWrong)

/-- 'laws.FnExactGreatestFlow': WHATEVER THE INPUT: true; the input reads as it did. -/
def fnExactGreatestFlowSpec : ChangeSpec := { name := "fnExactGreatestFlow", fn := fun _ => fun
  | [d1, d2, d3] => { results := [.lit (.bool true)], args := [d1, d2, d3] }
  | _ => none }
def fnExactGreatestFlowRow : OpenClaim := { program := "yteimcbhnjhkkbaa", sum := "afa919f9e98e050d8bec1f4d1a49f261ce6ed114a905894a75c7a5ffacc61cf2", func := "loop.example/g03307/laws.FnExactGreatestFlow", spec := "fnExactGreatestFlow", apart := false }
def FnExactGreatestFlowSaid : Prop := fnExactGreatestFlowRow.holds Try.pinned (OpenSpec.ofChange fnExactGreatestFlowSpec)

/-- ITS FALSE NEIGHBOUR: 'it returns false'. Refute it at one input. -/
def fnExactGreatestFlowWrong : ChangeSpec := { name := "fnExactGreatestFlow", fn := fun _ => fun
  | [d1, d2, d3] => { results := [.lit (.bool false)], args := [d1, d2, d3] }
  | _ => none }
def FnExactGreatestFlowWrongFalsely : Prop := fnExactGreatestFlowRow.holds Try.pinned (OpenSpec.ofChange fnExactGreatestFlowWrong)

/-- 'laws.FnExactNeededPipes': WHATEVER THE INPUT: true; the input reads as it did. -/
def fnExactNeededPipesSpec : ChangeSpec := { name := "fnExactNeededPipes", fn := fun _ => fun
  | [d1, d2, d3] => { results := [.lit (.bool true)], args := [d1, d2, d3] }
  | _ => none }
def fnExactNeededPipesRow : OpenClaim := { program := "yteimcbhnjhkkbaa", sum := "afa919f9e98e050d8bec1f4d1a49f261ce6ed114a905894a75c7a5ffacc61cf2", func := "loop.example/g03307/laws.FnExactNeededPipes", spec := "fnExactNeededPipes", apart := false }
def FnExactNeededPipesSaid : Prop := fnExactNeededPipesRow.holds Try.pinned (OpenSpec.ofChange fnExactNeededPipesSpec)

/-- ITS FALSE NEIGHBOUR: 'it returns false'. Refute it at one input. -/
def fnExactNeededPipesWrong : ChangeSpec := { name := "fnExactNeededPipes", fn := fun _ => fun
  | [d1, d2, d3] => { results := [.lit (.bool false)], args := [d1, d2, d3] }
  | _ => none }
def FnExactNeededPipesWrongFalsely : Prop := fnExactNeededPipesRow.holds Try.pinned (OpenSpec.ofChange fnExactNeededPipesWrong)

/- THE SECOND FORM. 'bulk': how many values and letters a reading holds, each counted each time it is reached (what is shared counts as often as it is met; a slice's spare places count too). A statement '..UptoSaid' is the law's where the arguments, and the package variables that the reading takes, are together of bulk at most 1048576: NARROWER than '..Said'. Prove '..Said' where nothing that the law and all that it calls make is longer than what came in: it says more and counts as full. Else prove '..UptoSaid'. A law counts once. -/
mutual
def uptoBulk {H : Type} : DataW H → Nat
  | .lit (.string bytes) => bytes.length + 1
  | .lit _ => 1
  | .nil => 1
  | .ptr d => uptoBulk d + 1
  | .slice elems spare => uptoBulkAll elems + uptoBulkAll spare + 1
  | .agg parts => uptoBulkAll parts + 1
  | .iface _ d => uptoBulk d + 1
  | .map entries => uptoBulkEntries entries + 1
  | .held _ => 1
def uptoBulkAll {H : Type} : List (DataW H) → Nat
  | [] => 0
  | d :: r => uptoBulk d + uptoBulkAll r
def uptoBulkEntries {H : Type} : List (Lit × DataW H) → Nat
  | [] => 0
  | x :: r => uptoBulkEntry x + uptoBulkEntries r
def uptoBulkEntry {H : Type} : Lit × DataW H → Nat
  | (.string bytes, d) => bytes.length + uptoBulk d + 1
  | (_, d) => uptoBulk d + 1
 end
def uptoSmall : (H : Type) → List (DataW H) → Bool := fun _ ds => decide (uptoBulkAll ds ≤ 1048576)
def OpenSpec.upto (s : _root_.Go.ChangeSpec) : _root_.Go.OpenSpec := { _root_.Go.OpenSpec.ofChange s with cond := some uptoSmall }

/-- 'laws.FnCutProofs', WHERE WHAT IT READS IS OF BULK AT MOST 1048576: true; the input reads as it did. -/
def fnCutProofsUptoRow : OpenClaim := { program := "yteimcbhnjhkkbaa", sum := "afa919f9e98e050d8bec1f4d1a49f261ce6ed114a905894a75c7a5ffacc61cf2", func := "loop.example/g03307/laws.FnCutProofs", spec := "fnCutProofs", apart := false, narrowed := true }
def FnCutProofsUptoSaid : Prop := fnCutProofsUptoRow.holds Try.pinned (OpenSpec.upto fnCutProofsSpec)

/-- 'laws.FnExactCutOf', WHERE WHAT IT READS IS OF BULK AT MOST 1048576: true; the input reads as it did. -/
def fnExactCutOfUptoRow : OpenClaim := { program := "yteimcbhnjhkkbaa", sum := "afa919f9e98e050d8bec1f4d1a49f261ce6ed114a905894a75c7a5ffacc61cf2", func := "loop.example/g03307/laws.FnExactCutOf", spec := "fnExactCutOf", apart := false, narrowed := true }
def FnExactCutOfUptoSaid : Prop := fnExactCutOfUptoRow.holds Try.pinned (OpenSpec.upto fnExactCutOfSpec)

/-- 'laws.FnExactFindFlow', WHERE WHAT IT READS IS OF BULK AT MOST 1048576: true; the input reads as it did. -/
def fnExactFindFlowUptoRow : OpenClaim := { program := "yteimcbhnjhkkbaa", sum := "afa919f9e98e050d8bec1f4d1a49f261ce6ed114a905894a75c7a5ffacc61cf2", func := "loop.example/g03307/laws.FnExactFindFlow", spec := "fnExactFindFlow", apart := false, narrowed := true }
def FnExactFindFlowUptoSaid : Prop := fnExactFindFlowUptoRow.holds Try.pinned (OpenSpec.upto fnExactFindFlowSpec)

/-- 'laws.FnExactGreatestFlow', WHERE WHAT IT READS IS OF BULK AT MOST 1048576: true; the input reads as it did. -/
def fnExactGreatestFlowUptoRow : OpenClaim := { program := "yteimcbhnjhkkbaa", sum := "afa919f9e98e050d8bec1f4d1a49f261ce6ed114a905894a75c7a5ffacc61cf2", func := "loop.example/g03307/laws.FnExactGreatestFlow", spec := "fnExactGreatestFlow", apart := false, narrowed := true }
def FnExactGreatestFlowUptoSaid : Prop := fnExactGreatestFlowUptoRow.holds Try.pinned (OpenSpec.upto fnExactGreatestFlowSpec)

/-- 'laws.FnExactNeededPipes', WHERE WHAT IT READS IS OF BULK AT MOST 1048576: true; the input reads as it did. -/
def fnExactNeededPipesUptoRow : OpenClaim := { program := "yteimcbhnjhkkbaa", sum := "afa919f9e98e050d8bec1f4d1a49f261ce6ed114a905894a75c7a5ffacc61cf2", func := "loop.example/g03307/laws.FnExactNeededPipes", spec := "fnExactNeededPipes", apart := false, narrowed := true }
def FnExactNeededPipesUptoSaid : Prop := fnExactNeededPipesUptoRow.holds Try.pinned (OpenSpec.upto fnExactNeededPipesSpec)

end Rows
end Go.Proofs.Yteimcbhnjhkkbaa
