/-
  No cell of these rows narrows 'for every input' (looked for: loops, veiled, ifaces, maps, wideKeys, modest, calm, conditions, laid).
  DERIVED. THE GIVEN ROWS OF THIS SEAT. 7 by the template 'for every input the law returns true; each argument reads behind the call as it read before'; 0 by the template 'total and deterministic' (their statements: YtnemccmjaanmnaaTotals.lean).
  GIVEN WITH THE SEED: the statements are not yours to turn. If you find one false, say at which input.
  Laid BY PROGRAM, IN A SANDBOX (cutbox-rows.mjs): the forced cells as the released guide's own fill.sh prints them over the translation e2bc6ccea95a8724… (all of the seat's roots in one cut). By AI agents, Wed Nov 11 2026. No macro, syntax, notation, axiom, sorry.
-/
import Derived.Test.YtnemccmjaanmnaaChecked
import GoSem.Claim
import GoSem.ClaimJoined
import GoSem.ClaimMapViews
import Derived.JoinedTies
import Derived.KernelRfl
namespace Go.Proofs.Ytnemccmjaanmnaa
/- THE CELL 'sum', in the pinned program and in every row, IS THE sha256 OF THE DUMP (.gsa) THAT YtnemccmjaanmnaaProg.lean LOADS. Nothing in Lean hashes anything: it is a label: what it is worth is what the hold of that sum in a sandbox is worth. -/
noncomputable def Try.pinned : Pinned := { name := "ytnemccmjaanmnaa", sum := "e2bc6ccea95a8724f18b8f84082fde8205a63ad344d89437fce18ccfbebc808a", checked := Try.checked }
namespace Rows
def none {H : Type} : Left H := { results := [], args := [] }

/-- 'laws.FnExactTurnsOk': WHATEVER THE INPUT: true; the input reads as it did. -/
def fnExactTurnsOkSpec : ChangeSpec := { name := "fnExactTurnsOk", fn := fun _ => fun
  | [d] => { results := [.lit (.bool true)], args := [d] }
  | _ => none }
def fnExactTurnsOkRow : OpenClaim := { program := "ytnemccmjaanmnaa", sum := "e2bc6ccea95a8724f18b8f84082fde8205a63ad344d89437fce18ccfbebc808a", func := "loop.example/g03307/laws.FnExactTurnsOk", spec := "fnExactTurnsOk", apart := false }
def FnExactTurnsOkSaid : Prop := fnExactTurnsOkRow.holds Try.pinned (OpenSpec.ofChange fnExactTurnsOkSpec)

/-- ITS FALSE NEIGHBOUR: 'it returns false'. Refute it at one input. -/
def fnExactTurnsOkWrong : ChangeSpec := { name := "fnExactTurnsOk", fn := fun _ => fun
  | [d] => { results := [.lit (.bool false)], args := [d] }
  | _ => none }
def FnExactTurnsOkWrongFalsely : Prop := fnExactTurnsOkRow.holds Try.pinned (OpenSpec.ofChange fnExactTurnsOkWrong)

/-- 'laws.FnExactFreeHours': WHATEVER THE INPUT: true; the input reads as it did. -/
def fnExactFreeHoursSpec : ChangeSpec := { name := "fnExactFreeHours", fn := fun _ => fun
  | [d] => { results := [.lit (.bool true)], args := [d] }
  | _ => none }
def fnExactFreeHoursRow : OpenClaim := { program := "ytnemccmjaanmnaa", sum := "e2bc6ccea95a8724f18b8f84082fde8205a63ad344d89437fce18ccfbebc808a", func := "loop.example/g03307/laws.FnExactFreeHours", spec := "fnExactFreeHours", apart := false }
def FnExactFreeHoursSaid : Prop := fnExactFreeHoursRow.holds Try.pinned (OpenSpec.ofChange fnExactFreeHoursSpec)

/-- ITS FALSE NEIGHBOUR: 'it returns false'. Refute it at one input. -/
def fnExactFreeHoursWrong : ChangeSpec := { name := "fnExactFreeHours", fn := fun _ => fun
  | [d] => { results := [.lit (.bool false)], args := [d] }
  | _ => none }
def FnExactFreeHoursWrongFalsely : Prop := fnExactFreeHoursRow.holds Try.pinned (OpenSpec.ofChange fnExactFreeHoursWrong)

/-- 'laws.FnExactHoursOf': WHATEVER THE INPUT: true; the input reads as it did. -/
def fnExactHoursOfSpec : ChangeSpec := { name := "fnExactHoursOf", fn := fun _ => fun
  | [d1, d2] => { results := [.lit (.bool true)], args := [d1, d2] }
  | _ => none }
def fnExactHoursOfRow : OpenClaim := { program := "ytnemccmjaanmnaa", sum := "e2bc6ccea95a8724f18b8f84082fde8205a63ad344d89437fce18ccfbebc808a", func := "loop.example/g03307/laws.FnExactHoursOf", spec := "fnExactHoursOf", apart := false }
def FnExactHoursOfSaid : Prop := fnExactHoursOfRow.holds Try.pinned (OpenSpec.ofChange fnExactHoursOfSpec)

/-- ITS FALSE NEIGHBOUR: 'it returns false'. Refute it at one input. -/
def fnExactHoursOfWrong : ChangeSpec := { name := "fnExactHoursOf", fn := fun _ => fun
  | [d1, d2] => { results := [.lit (.bool false)], args := [d1, d2] }
  | _ => none }
def FnExactHoursOfWrongFalsely : Prop := fnExactHoursOfRow.holds Try.pinned (OpenSpec.ofChange fnExactHoursOfWrong)

/-- 'laws.FnExactOwnerAt': WHATEVER THE INPUT: true; the input reads as it did. -/
def fnExactOwnerAtSpec : ChangeSpec := { name := "fnExactOwnerAt", fn := fun _ => fun
  | [d1, d2] => { results := [.lit (.bool true)], args := [d1, d2] }
  | _ => none }
def fnExactOwnerAtRow : OpenClaim := { program := "ytnemccmjaanmnaa", sum := "e2bc6ccea95a8724f18b8f84082fde8205a63ad344d89437fce18ccfbebc808a", func := "loop.example/g03307/laws.FnExactOwnerAt", spec := "fnExactOwnerAt", apart := false }
def FnExactOwnerAtSaid : Prop := fnExactOwnerAtRow.holds Try.pinned (OpenSpec.ofChange fnExactOwnerAtSpec)

/-- ITS FALSE NEIGHBOUR: 'it returns false'. Refute it at one input. -/
def fnExactOwnerAtWrong : ChangeSpec := { name := "fnExactOwnerAt", fn := fun _ => fun
  | [d1, d2] => { results := [.lit (.bool false)], args := [d1, d2] }
  | _ => none }
def FnExactOwnerAtWrongFalsely : Prop := fnExactOwnerAtRow.holds Try.pinned (OpenSpec.ofChange fnExactOwnerAtWrong)

/-- 'laws.FnExactSwapTurns': WHATEVER THE INPUT: true; the input reads as it did. -/
def fnExactSwapTurnsSpec : ChangeSpec := { name := "fnExactSwapTurns", fn := fun _ => fun
  | [d1, d2, d3] => { results := [.lit (.bool true)], args := [d1, d2, d3] }
  | _ => none }
def fnExactSwapTurnsRow : OpenClaim := { program := "ytnemccmjaanmnaa", sum := "e2bc6ccea95a8724f18b8f84082fde8205a63ad344d89437fce18ccfbebc808a", func := "loop.example/g03307/laws.FnExactSwapTurns", spec := "fnExactSwapTurns", apart := false }
def FnExactSwapTurnsSaid : Prop := fnExactSwapTurnsRow.holds Try.pinned (OpenSpec.ofChange fnExactSwapTurnsSpec)

/-- ITS FALSE NEIGHBOUR: 'it returns false'. Refute it at one input. -/
def fnExactSwapTurnsWrong : ChangeSpec := { name := "fnExactSwapTurns", fn := fun _ => fun
  | [d1, d2, d3] => { results := [.lit (.bool false)], args := [d1, d2, d3] }
  | _ => none }
def FnExactSwapTurnsWrongFalsely : Prop := fnExactSwapTurnsRow.holds Try.pinned (OpenSpec.ofChange fnExactSwapTurnsWrong)

/-- 'laws.FnExactNextTurn': WHATEVER THE INPUT: true; the input reads as it did. -/
def fnExactNextTurnSpec : ChangeSpec := { name := "fnExactNextTurn", fn := fun _ => fun
  | [d1, d2, d3] => { results := [.lit (.bool true)], args := [d1, d2, d3] }
  | _ => none }
def fnExactNextTurnRow : OpenClaim := { program := "ytnemccmjaanmnaa", sum := "e2bc6ccea95a8724f18b8f84082fde8205a63ad344d89437fce18ccfbebc808a", func := "loop.example/g03307/laws.FnExactNextTurn", spec := "fnExactNextTurn", apart := false }
def FnExactNextTurnSaid : Prop := fnExactNextTurnRow.holds Try.pinned (OpenSpec.ofChange fnExactNextTurnSpec)

/-- ITS FALSE NEIGHBOUR: 'it returns false'. Refute it at one input. -/
def fnExactNextTurnWrong : ChangeSpec := { name := "fnExactNextTurn", fn := fun _ => fun
  | [d1, d2, d3] => { results := [.lit (.bool false)], args := [d1, d2, d3] }
  | _ => none }
def FnExactNextTurnWrongFalsely : Prop := fnExactNextTurnRow.holds Try.pinned (OpenSpec.ofChange fnExactNextTurnWrong)

/-- 'laws.FnTurns': WHATEVER THE INPUT: true; the input reads as it did. -/
def fnTurnsSpec : ChangeSpec := { name := "fnTurns", fn := fun _ => fun
  | [d] => { results := [.lit (.bool true)], args := [d] }
  | _ => none }
def fnTurnsRow : OpenClaim := { program := "ytnemccmjaanmnaa", sum := "e2bc6ccea95a8724f18b8f84082fde8205a63ad344d89437fce18ccfbebc808a", func := "loop.example/g03307/laws.FnTurns", spec := "fnTurns", apart := false }
def FnTurnsSaid : Prop := fnTurnsRow.holds Try.pinned (OpenSpec.ofChange fnTurnsSpec)

/-- ITS FALSE NEIGHBOUR: 'it returns false'. Refute it at one input. -/
def fnTurnsWrong : ChangeSpec := { name := "fnTurns", fn := fun _ => fun
  | [d] => { results := [.lit (.bool false)], args := [d] }
  | _ => none }
def FnTurnsWrongFalsely : Prop := fnTurnsRow.holds Try.pinned (OpenSpec.ofChange fnTurnsWrong)

/- THE SECOND FORM. 'bulk': how many values and letters a reading holds, each counted each time it is reached (what is shared counts as often as it is met; a slice's spare places count too). A statement '..UptoSaid' is the law's where the arguments, and the package variables that the reading takes, are together of bulk at most 1048576: NARROWER than '..Said'. Prove '..Said' where nothing that the law and all that it calls make is longer than what came in: it says more and counts as full. Else prove '..UptoSaid'. A law counts once. -/
mutual
def uptoBulk {H : Type} : DataW H → Nat
  | .lit (.string bytes) => bytes.length + 1
  | .lit _ => 1
  | .nil => 1
  | .ptr d => uptoBulk d + 1
  | .slice elems spare => uptoBulkAll elems + uptoBulkAll spare + 1
  | .agg parts => uptoBulkAll parts + 1
  | .iface _ d => uptoBulk d + 1
  | .map entries => uptoBulkEntries entries + 1
  | .held _ => 1
def uptoBulkAll {H : Type} : List (DataW H) → Nat
  | [] => 0
  | d :: r => uptoBulk d + uptoBulkAll r
def uptoBulkEntries {H : Type} : List (Lit × DataW H) → Nat
  | [] => 0
  | x :: r => uptoBulkEntry x + uptoBulkEntries r
def uptoBulkEntry {H : Type} : Lit × DataW H → Nat
  | (.string bytes, d) => bytes.length + uptoBulk d + 1
  | (_, d) => uptoBulk d + 1
 end
def uptoSmall : (H : Type) → List (DataW H) → Bool := fun _ ds => decide (uptoBulkAll ds ≤ 1048576)
def OpenSpec.upto (s : _root_.Go.ChangeSpec) : _root_.Go.OpenSpec := { _root_.Go.OpenSpec.ofChange s with cond := some uptoSmall }

/-- 'laws.FnExactTurnsOk', WHERE WHAT IT READS IS OF BULK AT MOST 1048576: true; the input reads as it did. -/
def fnExactTurnsOkUptoRow : OpenClaim := { program := "ytnemccmjaanmnaa", sum := "e2bc6ccea95a8724f18b8f84082fde8205a63ad344d89437fce18ccfbebc808a", func := "loop.example/g03307/laws.FnExactTurnsOk", spec := "fnExactTurnsOk", apart := false, narrowed := true }
def FnExactTurnsOkUptoSaid : Prop := fnExactTurnsOkUptoRow.holds Try.pinned (OpenSpec.upto fnExactTurnsOkSpec)

/-- 'laws.FnExactFreeHours', WHERE WHAT IT READS IS OF BULK AT MOST 1048576: true; the input reads as it did. -/
def fnExactFreeHoursUptoRow : OpenClaim := { program := "ytnemccmjaanmnaa", sum := "e2bc6ccea95a8724f18b8f84082fde8205a63ad344d89437fce18ccfbebc808a", func := "loop.example/g03307/laws.FnExactFreeHours", spec := "fnExactFreeHours", apart := false, narrowed := true }
def FnExactFreeHoursUptoSaid : Prop := fnExactFreeHoursUptoRow.holds Try.pinned (OpenSpec.upto fnExactFreeHoursSpec)

/-- 'laws.FnExactHoursOf', WHERE WHAT IT READS IS OF BULK AT MOST 1048576: true; the input reads as it did. -/
def fnExactHoursOfUptoRow : OpenClaim := { program := "ytnemccmjaanmnaa", sum := "e2bc6ccea95a8724f18b8f84082fde8205a63ad344d89437fce18ccfbebc808a", func := "loop.example/g03307/laws.FnExactHoursOf", spec := "fnExactHoursOf", apart := false, narrowed := true }
def FnExactHoursOfUptoSaid : Prop := fnExactHoursOfUptoRow.holds Try.pinned (OpenSpec.upto fnExactHoursOfSpec)

/-- 'laws.FnExactOwnerAt', WHERE WHAT IT READS IS OF BULK AT MOST 1048576: true; the input reads as it did. -/
def fnExactOwnerAtUptoRow : OpenClaim := { program := "ytnemccmjaanmnaa", sum := "e2bc6ccea95a8724f18b8f84082fde8205a63ad344d89437fce18ccfbebc808a", func := "loop.example/g03307/laws.FnExactOwnerAt", spec := "fnExactOwnerAt", apart := false, narrowed := true }
def FnExactOwnerAtUptoSaid : Prop := fnExactOwnerAtUptoRow.holds Try.pinned (OpenSpec.upto fnExactOwnerAtSpec)

/-- 'laws.FnExactSwapTurns', WHERE WHAT IT READS IS OF BULK AT MOST 1048576: true; the input reads as it did. -/
def fnExactSwapTurnsUptoRow : OpenClaim := { program := "ytnemccmjaanmnaa", sum := "e2bc6ccea95a8724f18b8f84082fde8205a63ad344d89437fce18ccfbebc808a", func := "loop.example/g03307/laws.FnExactSwapTurns", spec := "fnExactSwapTurns", apart := false, narrowed := true }
def FnExactSwapTurnsUptoSaid : Prop := fnExactSwapTurnsUptoRow.holds Try.pinned (OpenSpec.upto fnExactSwapTurnsSpec)

/-- 'laws.FnExactNextTurn', WHERE WHAT IT READS IS OF BULK AT MOST 1048576: true; the input reads as it did. -/
def fnExactNextTurnUptoRow : OpenClaim := { program := "ytnemccmjaanmnaa", sum := "e2bc6ccea95a8724f18b8f84082fde8205a63ad344d89437fce18ccfbebc808a", func := "loop.example/g03307/laws.FnExactNextTurn", spec := "fnExactNextTurn", apart := false, narrowed := true }
def FnExactNextTurnUptoSaid : Prop := fnExactNextTurnUptoRow.holds Try.pinned (OpenSpec.upto fnExactNextTurnSpec)

/-- 'laws.FnTurns', WHERE WHAT IT READS IS OF BULK AT MOST 1048576: true; the input reads as it did. -/
def fnTurnsUptoRow : OpenClaim := { program := "ytnemccmjaanmnaa", sum := "e2bc6ccea95a8724f18b8f84082fde8205a63ad344d89437fce18ccfbebc808a", func := "loop.example/g03307/laws.FnTurns", spec := "fnTurns", apart := false, narrowed := true }
def FnTurnsUptoSaid : Prop := fnTurnsUptoRow.holds Try.pinned (OpenSpec.upto fnTurnsSpec)

end Rows
end Go.Proofs.Ytnemccmjaanmnaa
