/-
  DERIVED. GIVEN WITH THE SEED: THE CARDS: each row of YtdknlgpdjmjlnaaGreatDoorRows.lean that lists a variable, with what it lists TIED to the program's text (the seventh form; the later family's looks); each row that meets fmt, with fmt's text TOLD by the authors' own Lean function (tested against real Go, not proved from fmt's source: count such statements apart). THE CARD IS WHAT COUNTS. Prove the row's statement (the work); the ties are given (YtdknlgpdjmjlnaaGreatDoorTie.lean); close each card by the builder's one call (the guide's Derived/Test/ToyasCard.lean, 'card_holds'). Laid BY PROGRAM, IN A SANDBOX (cutbox-door.mjs). By AI agents, Wed Nov 11 2026. No macro, syntax, notation, axiom, sorry.
-/
import Derived.Test.YtdknlgpdjmjlnaaGreatDoorRows
import GoSem.ClaimSeven
namespace Go.Proofs.YtdknlgpdjmjlnaaGreatDoor
namespace Rows

/-- THE TIED CARD OF 'treemergelaw33.LayoutAdoption'. -/
def layoutAdoptionCard : Claim7 := { stood := { row := layoutAdoptionRow, standIns := [], harness := (true, "e46c52de0b7bb5fd6aabfe755d26cb247477a69e3c6ac26acc01673d44720567"), looks := false }, kinds := [], alts := [], laidByText := true, laidKinds := [.widerDeep], laidTests := true, laidLooks := .later }
def LayoutAdoptionCardSaid : Prop := Claim7.holds Tryz.pinned (.plain (OpenSpec.ofChange layoutAdoptionSpec)) layoutAdoptionCard

/-- THE SECOND FORM's CARD OF 'treemergelaw33.LayoutAdoption'. -/
def layoutAdoptionUptoCard : Claim7 := { stood := { row := layoutAdoptionUptoRow, standIns := [], harness := (true, "e46c52de0b7bb5fd6aabfe755d26cb247477a69e3c6ac26acc01673d44720567"), looks := false }, kinds := [], alts := [], laidByText := true, laidKinds := [.widerDeep], laidTests := true, laidLooks := .later }
def LayoutAdoptionUptoCardSaid : Prop := Claim7.holds Tryz.pinned (.plain (OpenSpec.upto layoutAdoptionSpec)) layoutAdoptionUptoCard
end Rows
end Go.Proofs.YtdknlgpdjmjlnaaGreatDoor
