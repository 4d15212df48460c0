/-
  DERIVED. GIVEN WITH THE SEED: THE CARDS: each row of YtbimjiiielbjbaaDoorRows.lean that lists a variable, with what it lists TIED to the program's text (the seventh form; the later family's looks); each row that meets fmt, with fmt's text TOLD by the authors' own Lean function (tested against real Go, not proved from fmt's source: count such statements apart). THE CARD IS WHAT COUNTS. Prove the row's statement (the work); the ties are given (YtbimjiiielbjbaaDoorTie.lean); close each card by the builder's one call (the guide's Derived/Test/ToyasCard.lean, 'card_holds'). Laid BY PROGRAM, IN A SANDBOX (cutbox-door.mjs). By AI agents, Wed Nov 11 2026. No macro, syntax, notation, axiom, sorry.
-/
import Derived.Test.YtbimjiiielbjbaaDoorRows
import GoSem.ClaimSeven
namespace Go.Proofs.YtbimjiiielbjbaaDoor
namespace Rows

/-- THE TIED CARD OF 'laws.FnExactFractionText'. -/
def fnExactFractionTextCard : Claim7 := { stood := { row := fnExactFractionTextRow, standIns := [], harness := (true, "a742464f59b9a10d4d3a6598289077ee048b1a2680732bd7787863bdfb8a8aec"), looks := false }, kinds := [], alts := [], laidByText := true, laidKinds := [.data, .data, .data], laidTests := true, laidLooks := .later }
def FnExactFractionTextCardSaid : Prop := Claim7.holds Tryd.pinned (.plain (OpenSpec.ofChange fnExactFractionTextSpec)) fnExactFractionTextCard

/-- THE TIED CARD OF 'laws.FnFractions'. -/
def fnFractionsCard : Claim7 := { stood := { row := fnFractionsRow, standIns := [], harness := (true, "a742464f59b9a10d4d3a6598289077ee048b1a2680732bd7787863bdfb8a8aec"), looks := false }, kinds := [], alts := [], laidByText := true, laidKinds := [.data, .data, .data], laidTests := true, laidLooks := .later }
def FnFractionsCardSaid : Prop := Claim7.holds Tryd.pinned (.plain (OpenSpec.ofChange fnFractionsSpec)) fnFractionsCard

/-- THE SECOND FORM's CARD OF 'laws.FnExactFractionText'. -/
def fnExactFractionTextUptoCard : Claim7 := { stood := { row := fnExactFractionTextUptoRow, standIns := [], harness := (true, "a742464f59b9a10d4d3a6598289077ee048b1a2680732bd7787863bdfb8a8aec"), looks := false }, kinds := [], alts := [], laidByText := true, laidKinds := [.data, .data, .data], laidTests := true, laidLooks := .later }
def FnExactFractionTextUptoCardSaid : Prop := Claim7.holds Tryd.pinned (.plain (OpenSpec.upto fnExactFractionTextSpec)) fnExactFractionTextUptoCard

/-- THE SECOND FORM's CARD OF 'laws.FnFractions'. -/
def fnFractionsUptoCard : Claim7 := { stood := { row := fnFractionsUptoRow, standIns := [], harness := (true, "a742464f59b9a10d4d3a6598289077ee048b1a2680732bd7787863bdfb8a8aec"), looks := false }, kinds := [], alts := [], laidByText := true, laidKinds := [.data, .data, .data], laidTests := true, laidLooks := .later }
def FnFractionsUptoCardSaid : Prop := Claim7.holds Tryd.pinned (.plain (OpenSpec.upto fnFractionsSpec)) fnFractionsUptoCard
end Rows
end Go.Proofs.YtbimjiiielbjbaaDoor
