/-
  No cell of these rows narrows 'for every input' (looked for: loops, veiled, ifaces, maps, wideKeys, modest, calm, conditions, laid).
  DERIVED. THE GIVEN ROWS OF THIS SEAT. 12 by the template 'for every input the law returns true; each argument reads behind the call as it read before'; 0 by the template 'total and deterministic' (their statements: YtjcoajaoofjjmaaTotals.lean).
  GIVEN WITH THE SEED: the statements are not yours to turn. If you find one false, say at which input.
  Laid BY PROGRAM, IN A SANDBOX (cutbox-rows.mjs): the forced cells as the released guide's own fill.sh prints them over the translation 91f6c6f70834b70b… (all of the seat's roots in one cut). By AI agents, Wed Nov 11 2026. No macro, syntax, notation, axiom, sorry.
-/
import Derived.Test.YtjcoajaoofjjmaaChecked
import GoSem.Claim
import GoSem.ClaimJoined
import GoSem.ClaimMapViews
import Derived.JoinedTies
import Derived.KernelRfl
namespace Go.Proofs.Ytjcoajaoofjjmaa
/- THE CELL 'sum', in the pinned program and in every row, IS THE sha256 OF THE DUMP (.gsa) THAT YtjcoajaoofjjmaaProg.lean LOADS. Nothing in Lean hashes anything: it is a label: what it is worth is what the hold of that sum in a sandbox is worth. -/
noncomputable def Try.pinned : Pinned := { name := "ytjcoajaoofjjmaa", sum := "91f6c6f70834b70ba1caa3c9722600689cd97813a62f4411762777dc3de375a6", checked := Try.checked }
namespace Rows
def none {H : Type} : Left H := { results := [], args := [] }

/-- 'laws.FnExactSumOfShares': WHATEVER THE INPUT: true; the input reads as it did. -/
def fnExactSumOfSharesSpec : ChangeSpec := { name := "fnExactSumOfShares", fn := fun _ => fun
  | [d] => { results := [.lit (.bool true)], args := [d] }
  | _ => none }
def fnExactSumOfSharesRow : OpenClaim := { program := "ytjcoajaoofjjmaa", sum := "91f6c6f70834b70ba1caa3c9722600689cd97813a62f4411762777dc3de375a6", func := "loop.example/g03307/laws.FnExactSumOfShares", spec := "fnExactSumOfShares", apart := false }
def FnExactSumOfSharesSaid : Prop := fnExactSumOfSharesRow.holds Try.pinned (OpenSpec.ofChange fnExactSumOfSharesSpec)

/-- ITS FALSE NEIGHBOUR: 'it returns false'. Refute it at one input. -/
def fnExactSumOfSharesWrong : ChangeSpec := { name := "fnExactSumOfShares", fn := fun _ => fun
  | [d] => { results := [.lit (.bool false)], args := [d] }
  | _ => none }
def FnExactSumOfSharesWrongFalsely : Prop := fnExactSumOfSharesRow.holds Try.pinned (OpenSpec.ofChange fnExactSumOfSharesWrong)

/-- 'laws.FnExactRightsOk': WHATEVER THE INPUT: true; the input reads as it did. -/
def fnExactRightsOkSpec : ChangeSpec := { name := "fnExactRightsOk", fn := fun _ => fun
  | [d] => { results := [.lit (.bool true)], args := [d] }
  | _ => none }
def fnExactRightsOkRow : OpenClaim := { program := "ytjcoajaoofjjmaa", sum := "91f6c6f70834b70ba1caa3c9722600689cd97813a62f4411762777dc3de375a6", func := "loop.example/g03307/laws.FnExactRightsOk", spec := "fnExactRightsOk", apart := false }
def FnExactRightsOkSaid : Prop := fnExactRightsOkRow.holds Try.pinned (OpenSpec.ofChange fnExactRightsOkSpec)

/-- ITS FALSE NEIGHBOUR: 'it returns false'. Refute it at one input. -/
def fnExactRightsOkWrong : ChangeSpec := { name := "fnExactRightsOk", fn := fun _ => fun
  | [d] => { results := [.lit (.bool false)], args := [d] }
  | _ => none }
def FnExactRightsOkWrongFalsely : Prop := fnExactRightsOkRow.holds Try.pinned (OpenSpec.ofChange fnExactRightsOkWrong)

/-- 'laws.FnExactCountOwners': WHATEVER THE INPUT: true; the input reads as it did. -/
def fnExactCountOwnersSpec : ChangeSpec := { name := "fnExactCountOwners", fn := fun _ => fun
  | [d] => { results := [.lit (.bool true)], args := [d] }
  | _ => none }
def fnExactCountOwnersRow : OpenClaim := { program := "ytjcoajaoofjjmaa", sum := "91f6c6f70834b70ba1caa3c9722600689cd97813a62f4411762777dc3de375a6", func := "loop.example/g03307/laws.FnExactCountOwners", spec := "fnExactCountOwners", apart := false }
def FnExactCountOwnersSaid : Prop := fnExactCountOwnersRow.holds Try.pinned (OpenSpec.ofChange fnExactCountOwnersSpec)

/-- ITS FALSE NEIGHBOUR: 'it returns false'. Refute it at one input. -/
def fnExactCountOwnersWrong : ChangeSpec := { name := "fnExactCountOwners", fn := fun _ => fun
  | [d] => { results := [.lit (.bool false)], args := [d] }
  | _ => none }
def FnExactCountOwnersWrongFalsely : Prop := fnExactCountOwnersRow.holds Try.pinned (OpenSpec.ofChange fnExactCountOwnersWrong)

/-- 'laws.FnExactCommonBottom': WHATEVER THE INPUT: true; the input reads as it did. -/
def fnExactCommonBottomSpec : ChangeSpec := { name := "fnExactCommonBottom", fn := fun _ => fun
  | [d] => { results := [.lit (.bool true)], args := [d] }
  | _ => none }
def fnExactCommonBottomRow : OpenClaim := { program := "ytjcoajaoofjjmaa", sum := "91f6c6f70834b70ba1caa3c9722600689cd97813a62f4411762777dc3de375a6", func := "loop.example/g03307/laws.FnExactCommonBottom", spec := "fnExactCommonBottom", apart := false }
def FnExactCommonBottomSaid : Prop := fnExactCommonBottomRow.holds Try.pinned (OpenSpec.ofChange fnExactCommonBottomSpec)

/-- ITS FALSE NEIGHBOUR: 'it returns false'. Refute it at one input. -/
def fnExactCommonBottomWrong : ChangeSpec := { name := "fnExactCommonBottom", fn := fun _ => fun
  | [d] => { results := [.lit (.bool false)], args := [d] }
  | _ => none }
def FnExactCommonBottomWrongFalsely : Prop := fnExactCommonBottomRow.holds Try.pinned (OpenSpec.ofChange fnExactCommonBottomWrong)

/-- 'laws.FnExactLargestOwner': WHATEVER THE INPUT: true; the input reads as it did. -/
def fnExactLargestOwnerSpec : ChangeSpec := { name := "fnExactLargestOwner", fn := fun _ => fun
  | [d] => { results := [.lit (.bool true)], args := [d] }
  | _ => none }
def fnExactLargestOwnerRow : OpenClaim := { program := "ytjcoajaoofjjmaa", sum := "91f6c6f70834b70ba1caa3c9722600689cd97813a62f4411762777dc3de375a6", func := "loop.example/g03307/laws.FnExactLargestOwner", spec := "fnExactLargestOwner", apart := false }
def FnExactLargestOwnerSaid : Prop := fnExactLargestOwnerRow.holds Try.pinned (OpenSpec.ofChange fnExactLargestOwnerSpec)

/-- ITS FALSE NEIGHBOUR: 'it returns false'. Refute it at one input. -/
def fnExactLargestOwnerWrong : ChangeSpec := { name := "fnExactLargestOwner", fn := fun _ => fun
  | [d] => { results := [.lit (.bool false)], args := [d] }
  | _ => none }
def FnExactLargestOwnerWrongFalsely : Prop := fnExactLargestOwnerRow.holds Try.pinned (OpenSpec.ofChange fnExactLargestOwnerWrong)

/-- 'laws.FnExactSmallestShare': WHATEVER THE INPUT: true; the input reads as it did. -/
def fnExactSmallestShareSpec : ChangeSpec := { name := "fnExactSmallestShare", fn := fun _ => fun
  | [d] => { results := [.lit (.bool true)], args := [d] }
  | _ => none }
def fnExactSmallestShareRow : OpenClaim := { program := "ytjcoajaoofjjmaa", sum := "91f6c6f70834b70ba1caa3c9722600689cd97813a62f4411762777dc3de375a6", func := "loop.example/g03307/laws.FnExactSmallestShare", spec := "fnExactSmallestShare", apart := false }
def FnExactSmallestShareSaid : Prop := fnExactSmallestShareRow.holds Try.pinned (OpenSpec.ofChange fnExactSmallestShareSpec)

/-- ITS FALSE NEIGHBOUR: 'it returns false'. Refute it at one input. -/
def fnExactSmallestShareWrong : ChangeSpec := { name := "fnExactSmallestShare", fn := fun _ => fun
  | [d] => { results := [.lit (.bool false)], args := [d] }
  | _ => none }
def FnExactSmallestShareWrongFalsely : Prop := fnExactSmallestShareRow.holds Try.pinned (OpenSpec.ofChange fnExactSmallestShareWrong)

/-- 'laws.FnExactParts': WHATEVER THE INPUT: true; the input reads as it did. -/
def fnExactPartsSpec : ChangeSpec := { name := "fnExactParts", fn := fun _ => fun
  | [d] => { results := [.lit (.bool true)], args := [d] }
  | _ => none }
def fnExactPartsRow : OpenClaim := { program := "ytjcoajaoofjjmaa", sum := "91f6c6f70834b70ba1caa3c9722600689cd97813a62f4411762777dc3de375a6", func := "loop.example/g03307/laws.FnExactParts", spec := "fnExactParts", apart := false }
def FnExactPartsSaid : Prop := fnExactPartsRow.holds Try.pinned (OpenSpec.ofChange fnExactPartsSpec)

/-- ITS FALSE NEIGHBOUR: 'it returns false'. Refute it at one input. -/
def fnExactPartsWrong : ChangeSpec := { name := "fnExactParts", fn := fun _ => fun
  | [d] => { results := [.lit (.bool false)], args := [d] }
  | _ => none }
def FnExactPartsWrongFalsely : Prop := fnExactPartsRow.holds Try.pinned (OpenSpec.ofChange fnExactPartsWrong)

/-- 'laws.FnExactDivide': WHATEVER THE INPUT: true; the input reads as it did. -/
def fnExactDivideSpec : ChangeSpec := { name := "fnExactDivide", fn := fun _ => fun
  | [d1, d2] => { results := [.lit (.bool true)], args := [d1, d2] }
  | _ => none }
def fnExactDivideRow : OpenClaim := { program := "ytjcoajaoofjjmaa", sum := "91f6c6f70834b70ba1caa3c9722600689cd97813a62f4411762777dc3de375a6", func := "loop.example/g03307/laws.FnExactDivide", spec := "fnExactDivide", unfollowed := true, recurses := true, apart := false }
def FnExactDivideSaid : Prop := fnExactDivideRow.holds Try.pinned (OpenSpec.ofChange fnExactDivideSpec)

/-- ITS FALSE NEIGHBOUR: 'it returns false'. Refute it at one input. -/
def fnExactDivideWrong : ChangeSpec := { name := "fnExactDivide", fn := fun _ => fun
  | [d1, d2] => { results := [.lit (.bool false)], args := [d1, d2] }
  | _ => none }
def FnExactDivideWrongFalsely : Prop := fnExactDivideRow.holds Try.pinned (OpenSpec.ofChange fnExactDivideWrong)

/-- 'laws.FnExactSellShare': WHATEVER THE INPUT: true; the input reads as it did. -/
def fnExactSellShareSpec : ChangeSpec := { name := "fnExactSellShare", fn := fun _ => fun
  | [d1, d2, d3, d4] => { results := [.lit (.bool true)], args := [d1, d2, d3, d4] }
  | _ => none }
def fnExactSellShareRow : OpenClaim := { program := "ytjcoajaoofjjmaa", sum := "91f6c6f70834b70ba1caa3c9722600689cd97813a62f4411762777dc3de375a6", func := "loop.example/g03307/laws.FnExactSellShare", spec := "fnExactSellShare", inPlace := ["slices.overlaps[loop.example/g03307/impl.Right]"], unfollowed := true, recurses := true, apart := false }
def FnExactSellShareSaid : Prop := fnExactSellShareRow.holds Try.pinned (OpenSpec.ofChange fnExactSellShareSpec)

/-- ITS FALSE NEIGHBOUR: 'it returns false'. Refute it at one input. -/
def fnExactSellShareWrong : ChangeSpec := { name := "fnExactSellShare", fn := fun _ => fun
  | [d1, d2, d3, d4] => { results := [.lit (.bool false)], args := [d1, d2, d3, d4] }
  | _ => none }
def FnExactSellShareWrongFalsely : Prop := fnExactSellShareRow.holds Try.pinned (OpenSpec.ofChange fnExactSellShareWrong)

/-- 'laws.FnExactInherit': WHATEVER THE INPUT: true; the input reads as it did. -/
def fnExactInheritSpec : ChangeSpec := { name := "fnExactInherit", fn := fun _ => fun
  | [d1, d2, d3] => { results := [.lit (.bool true)], args := [d1, d2, d3] }
  | _ => none }
def fnExactInheritRow : OpenClaim := { program := "ytjcoajaoofjjmaa", sum := "91f6c6f70834b70ba1caa3c9722600689cd97813a62f4411762777dc3de375a6", func := "loop.example/g03307/laws.FnExactInherit", spec := "fnExactInherit", inPlace := ["slices.overlaps[loop.example/g03307/impl.Right]"], unfollowed := true, recurses := true, apart := false }
def FnExactInheritSaid : Prop := fnExactInheritRow.holds Try.pinned (OpenSpec.ofChange fnExactInheritSpec)

/-- ITS FALSE NEIGHBOUR: 'it returns false'. Refute it at one input. -/
def fnExactInheritWrong : ChangeSpec := { name := "fnExactInherit", fn := fun _ => fun
  | [d1, d2, d3] => { results := [.lit (.bool false)], args := [d1, d2, d3] }
  | _ => none }
def FnExactInheritWrongFalsely : Prop := fnExactInheritRow.holds Try.pinned (OpenSpec.ofChange fnExactInheritWrong)

/-- 'laws.FnRights': WHATEVER THE INPUT: true; the input reads as it did. -/
def fnRightsSpec : ChangeSpec := { name := "fnRights", fn := fun _ => fun
  | [d] => { results := [.lit (.bool true)], args := [d] }
  | _ => none }
def fnRightsRow : OpenClaim := { program := "ytjcoajaoofjjmaa", sum := "91f6c6f70834b70ba1caa3c9722600689cd97813a62f4411762777dc3de375a6", func := "loop.example/g03307/laws.FnRights", spec := "fnRights", inPlace := ["slices.overlaps[loop.example/g03307/impl.Right]"], unfollowed := true, recurses := true, apart := false }
def FnRightsSaid : Prop := fnRightsRow.holds Try.pinned (OpenSpec.ofChange fnRightsSpec)

/-- ITS FALSE NEIGHBOUR: 'it returns false'. Refute it at one input. -/
def fnRightsWrong : ChangeSpec := { name := "fnRights", fn := fun _ => fun
  | [d] => { results := [.lit (.bool false)], args := [d] }
  | _ => none }
def FnRightsWrongFalsely : Prop := fnRightsRow.holds Try.pinned (OpenSpec.ofChange fnRightsWrong)

/-- 'laws.FnHeirs': WHATEVER THE INPUT: true; the input reads as it did. -/
def fnHeirsSpec : ChangeSpec := { name := "fnHeirs", fn := fun _ => fun
  | [d] => { results := [.lit (.bool true)], args := [d] }
  | _ => none }
def fnHeirsRow : OpenClaim := { program := "ytjcoajaoofjjmaa", sum := "91f6c6f70834b70ba1caa3c9722600689cd97813a62f4411762777dc3de375a6", func := "loop.example/g03307/laws.FnHeirs", spec := "fnHeirs", inPlace := ["slices.overlaps[loop.example/g03307/impl.Right]"], unfollowed := true, recurses := true, apart := false }
def FnHeirsSaid : Prop := fnHeirsRow.holds Try.pinned (OpenSpec.ofChange fnHeirsSpec)

/-- ITS FALSE NEIGHBOUR: 'it returns false'. Refute it at one input. -/
def fnHeirsWrong : ChangeSpec := { name := "fnHeirs", fn := fun _ => fun
  | [d] => { results := [.lit (.bool false)], args := [d] }
  | _ => none }
def FnHeirsWrongFalsely : Prop := fnHeirsRow.holds Try.pinned (OpenSpec.ofChange fnHeirsWrong)

/- THE SECOND FORM. 'bulk': how many values and letters a reading holds, each counted each time it is reached (what is shared counts as often as it is met; a slice's spare places count too). A statement '..UptoSaid' is the law's where the arguments, and the package variables that the reading takes, are together of bulk at most 1048576: NARROWER than '..Said'. Prove '..Said' where nothing that the law and all that it calls make is longer than what came in: it says more and counts as full. Else prove '..UptoSaid'. A law counts once. -/
mutual
def uptoBulk {H : Type} : DataW H → Nat
  | .lit (.string bytes) => bytes.length + 1
  | .lit _ => 1
  | .nil => 1
  | .ptr d => uptoBulk d + 1
  | .slice elems spare => uptoBulkAll elems + uptoBulkAll spare + 1
  | .agg parts => uptoBulkAll parts + 1
  | .iface _ d => uptoBulk d + 1
  | .map entries => uptoBulkEntries entries + 1
  | .held _ => 1
def uptoBulkAll {H : Type} : List (DataW H) → Nat
  | [] => 0
  | d :: r => uptoBulk d + uptoBulkAll r
def uptoBulkEntries {H : Type} : List (Lit × DataW H) → Nat
  | [] => 0
  | x :: r => uptoBulkEntry x + uptoBulkEntries r
def uptoBulkEntry {H : Type} : Lit × DataW H → Nat
  | (.string bytes, d) => bytes.length + uptoBulk d + 1
  | (_, d) => uptoBulk d + 1
 end
def uptoSmall : (H : Type) → List (DataW H) → Bool := fun _ ds => decide (uptoBulkAll ds ≤ 1048576)
def OpenSpec.upto (s : _root_.Go.ChangeSpec) : _root_.Go.OpenSpec := { _root_.Go.OpenSpec.ofChange s with cond := some uptoSmall }

/-- 'laws.FnExactSumOfShares', WHERE WHAT IT READS IS OF BULK AT MOST 1048576: true; the input reads as it did. -/
def fnExactSumOfSharesUptoRow : OpenClaim := { program := "ytjcoajaoofjjmaa", sum := "91f6c6f70834b70ba1caa3c9722600689cd97813a62f4411762777dc3de375a6", func := "loop.example/g03307/laws.FnExactSumOfShares", spec := "fnExactSumOfShares", apart := false, narrowed := true }
def FnExactSumOfSharesUptoSaid : Prop := fnExactSumOfSharesUptoRow.holds Try.pinned (OpenSpec.upto fnExactSumOfSharesSpec)

/-- 'laws.FnExactRightsOk', WHERE WHAT IT READS IS OF BULK AT MOST 1048576: true; the input reads as it did. -/
def fnExactRightsOkUptoRow : OpenClaim := { program := "ytjcoajaoofjjmaa", sum := "91f6c6f70834b70ba1caa3c9722600689cd97813a62f4411762777dc3de375a6", func := "loop.example/g03307/laws.FnExactRightsOk", spec := "fnExactRightsOk", apart := false, narrowed := true }
def FnExactRightsOkUptoSaid : Prop := fnExactRightsOkUptoRow.holds Try.pinned (OpenSpec.upto fnExactRightsOkSpec)

/-- 'laws.FnExactCountOwners', WHERE WHAT IT READS IS OF BULK AT MOST 1048576: true; the input reads as it did. -/
def fnExactCountOwnersUptoRow : OpenClaim := { program := "ytjcoajaoofjjmaa", sum := "91f6c6f70834b70ba1caa3c9722600689cd97813a62f4411762777dc3de375a6", func := "loop.example/g03307/laws.FnExactCountOwners", spec := "fnExactCountOwners", apart := false, narrowed := true }
def FnExactCountOwnersUptoSaid : Prop := fnExactCountOwnersUptoRow.holds Try.pinned (OpenSpec.upto fnExactCountOwnersSpec)

/-- 'laws.FnExactCommonBottom', WHERE WHAT IT READS IS OF BULK AT MOST 1048576: true; the input reads as it did. -/
def fnExactCommonBottomUptoRow : OpenClaim := { program := "ytjcoajaoofjjmaa", sum := "91f6c6f70834b70ba1caa3c9722600689cd97813a62f4411762777dc3de375a6", func := "loop.example/g03307/laws.FnExactCommonBottom", spec := "fnExactCommonBottom", apart := false, narrowed := true }
def FnExactCommonBottomUptoSaid : Prop := fnExactCommonBottomUptoRow.holds Try.pinned (OpenSpec.upto fnExactCommonBottomSpec)

/-- 'laws.FnExactLargestOwner', WHERE WHAT IT READS IS OF BULK AT MOST 1048576: true; the input reads as it did. -/
def fnExactLargestOwnerUptoRow : OpenClaim := { program := "ytjcoajaoofjjmaa", sum := "91f6c6f70834b70ba1caa3c9722600689cd97813a62f4411762777dc3de375a6", func := "loop.example/g03307/laws.FnExactLargestOwner", spec := "fnExactLargestOwner", apart := false, narrowed := true }
def FnExactLargestOwnerUptoSaid : Prop := fnExactLargestOwnerUptoRow.holds Try.pinned (OpenSpec.upto fnExactLargestOwnerSpec)

/-- 'laws.FnExactSmallestShare', WHERE WHAT IT READS IS OF BULK AT MOST 1048576: true; the input reads as it did. -/
def fnExactSmallestShareUptoRow : OpenClaim := { program := "ytjcoajaoofjjmaa", sum := "91f6c6f70834b70ba1caa3c9722600689cd97813a62f4411762777dc3de375a6", func := "loop.example/g03307/laws.FnExactSmallestShare", spec := "fnExactSmallestShare", apart := false, narrowed := true }
def FnExactSmallestShareUptoSaid : Prop := fnExactSmallestShareUptoRow.holds Try.pinned (OpenSpec.upto fnExactSmallestShareSpec)

/-- 'laws.FnExactParts', WHERE WHAT IT READS IS OF BULK AT MOST 1048576: true; the input reads as it did. -/
def fnExactPartsUptoRow : OpenClaim := { program := "ytjcoajaoofjjmaa", sum := "91f6c6f70834b70ba1caa3c9722600689cd97813a62f4411762777dc3de375a6", func := "loop.example/g03307/laws.FnExactParts", spec := "fnExactParts", apart := false, narrowed := true }
def FnExactPartsUptoSaid : Prop := fnExactPartsUptoRow.holds Try.pinned (OpenSpec.upto fnExactPartsSpec)

/-- 'laws.FnExactDivide', WHERE WHAT IT READS IS OF BULK AT MOST 1048576: true; the input reads as it did. -/
def fnExactDivideUptoRow : OpenClaim := { program := "ytjcoajaoofjjmaa", sum := "91f6c6f70834b70ba1caa3c9722600689cd97813a62f4411762777dc3de375a6", func := "loop.example/g03307/laws.FnExactDivide", spec := "fnExactDivide", unfollowed := true, recurses := true, apart := false, narrowed := true }
def FnExactDivideUptoSaid : Prop := fnExactDivideUptoRow.holds Try.pinned (OpenSpec.upto fnExactDivideSpec)

/-- 'laws.FnExactSellShare', WHERE WHAT IT READS IS OF BULK AT MOST 1048576: true; the input reads as it did. -/
def fnExactSellShareUptoRow : OpenClaim := { program := "ytjcoajaoofjjmaa", sum := "91f6c6f70834b70ba1caa3c9722600689cd97813a62f4411762777dc3de375a6", func := "loop.example/g03307/laws.FnExactSellShare", spec := "fnExactSellShare", inPlace := ["slices.overlaps[loop.example/g03307/impl.Right]"], unfollowed := true, recurses := true, apart := false, narrowed := true }
def FnExactSellShareUptoSaid : Prop := fnExactSellShareUptoRow.holds Try.pinned (OpenSpec.upto fnExactSellShareSpec)

/-- 'laws.FnExactInherit', WHERE WHAT IT READS IS OF BULK AT MOST 1048576: true; the input reads as it did. -/
def fnExactInheritUptoRow : OpenClaim := { program := "ytjcoajaoofjjmaa", sum := "91f6c6f70834b70ba1caa3c9722600689cd97813a62f4411762777dc3de375a6", func := "loop.example/g03307/laws.FnExactInherit", spec := "fnExactInherit", inPlace := ["slices.overlaps[loop.example/g03307/impl.Right]"], unfollowed := true, recurses := true, apart := false, narrowed := true }
def FnExactInheritUptoSaid : Prop := fnExactInheritUptoRow.holds Try.pinned (OpenSpec.upto fnExactInheritSpec)

/-- 'laws.FnRights', WHERE WHAT IT READS IS OF BULK AT MOST 1048576: true; the input reads as it did. -/
def fnRightsUptoRow : OpenClaim := { program := "ytjcoajaoofjjmaa", sum := "91f6c6f70834b70ba1caa3c9722600689cd97813a62f4411762777dc3de375a6", func := "loop.example/g03307/laws.FnRights", spec := "fnRights", inPlace := ["slices.overlaps[loop.example/g03307/impl.Right]"], unfollowed := true, recurses := true, apart := false, narrowed := true }
def FnRightsUptoSaid : Prop := fnRightsUptoRow.holds Try.pinned (OpenSpec.upto fnRightsSpec)

/-- 'laws.FnHeirs', WHERE WHAT IT READS IS OF BULK AT MOST 1048576: true; the input reads as it did. -/
def fnHeirsUptoRow : OpenClaim := { program := "ytjcoajaoofjjmaa", sum := "91f6c6f70834b70ba1caa3c9722600689cd97813a62f4411762777dc3de375a6", func := "loop.example/g03307/laws.FnHeirs", spec := "fnHeirs", inPlace := ["slices.overlaps[loop.example/g03307/impl.Right]"], unfollowed := true, recurses := true, apart := false, narrowed := true }
def FnHeirsUptoSaid : Prop := fnHeirsUptoRow.holds Try.pinned (OpenSpec.upto fnHeirsSpec)

end Rows
end Go.Proofs.Ytjcoajaoofjjmaa
