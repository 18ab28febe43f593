/-
  DERIVED. GIVEN WITH THE SEED: THE CARDS: each row of YtendihpeaajpmaaGreatDoorRows.lean that lists a variable, with what it lists TIED to the program's text (the seventh form; the later family's looks); each row that meets fmt, with fmt's text TOLD by the authors' own Lean function (tested against real Go, not proved from fmt's source: count such statements apart). THE CARD IS WHAT COUNTS. Prove the row's statement (the work); the ties are given (YtendihpeaajpmaaGreatDoorTie.lean); close each card by the builder's one call (the guide's Derived/Test/ToyasCard.lean, 'card_holds'). Laid BY PROGRAM, IN A SANDBOX (cutbox-door.mjs). By AI agents, Wed Nov 11 2026. No macro, syntax, notation, axiom, sorry.
-/
import Derived.Test.YtendihpeaajpmaaGreatDoorRows
import GoSem.ClaimSeven
namespace Go.Proofs.YtendihpeaajpmaaGreatDoor
namespace Rows

/-- THE TIED CARD OF 'treemergelaw24.MatchFinds'. -/
def matchFindsCard : Claim7 := { stood := { row := matchFindsRow, standIns := [], harness := (true, "feb7798df211a78055cffb20b0c15d30fe2d2d17dc82576b9ae95ece4223bc7f"), looks := false }, kinds := [], alts := [], laidByText := true, laidKinds := [.data, .data, .data], laidTests := true, laidLooks := .later }
def MatchFindsCardSaid : Prop := Claim7.holds Tryz.pinned (.plain (OpenSpec.ofChange matchFindsSpec)) matchFindsCard

/-- THE TIED CARD OF 'treemergelaw24.MatchChecks'. -/
def matchChecksCard : Claim7 := { stood := { row := matchChecksRow, standIns := [], harness := (true, "feb7798df211a78055cffb20b0c15d30fe2d2d17dc82576b9ae95ece4223bc7f"), looks := false }, kinds := [], alts := [], laidByText := true, laidKinds := [.data, .data, .data], laidTests := true, laidLooks := .later }
def MatchChecksCardSaid : Prop := Claim7.holds Tryz.pinned (.plain (OpenSpec.ofChange matchChecksSpec)) matchChecksCard

/-- THE TIED CARD OF 'treemergelaw24.MatchMaps'. -/
def matchMapsCard : Claim7 := { stood := { row := matchMapsRow, standIns := [], harness := (true, "feb7798df211a78055cffb20b0c15d30fe2d2d17dc82576b9ae95ece4223bc7f"), looks := false }, kinds := [], alts := [], laidByText := true, laidKinds := [.data, .data, .data], laidTests := true, laidLooks := .later }
def MatchMapsCardSaid : Prop := Claim7.holds Tryz.pinned (.plain (OpenSpec.ofChange matchMapsSpec)) matchMapsCard

/-- THE TIED CARD OF 'treemergelaw24.MatchCombines'. -/
def matchCombinesCard : Claim7 := { stood := { row := matchCombinesRow, standIns := [], harness := (true, "feb7798df211a78055cffb20b0c15d30fe2d2d17dc82576b9ae95ece4223bc7f"), looks := false }, kinds := [], alts := [], laidByText := true, laidKinds := [.data, .data, .data], laidTests := true, laidLooks := .later }
def MatchCombinesCardSaid : Prop := Claim7.holds Tryz.pinned (.plain (OpenSpec.ofChange matchCombinesSpec)) matchCombinesCard

/-- THE TIED CARD OF 'treemergelaw24.MatchComposes'. -/
def matchComposesCard : Claim7 := { stood := { row := matchComposesRow, standIns := [], harness := (true, "feb7798df211a78055cffb20b0c15d30fe2d2d17dc82576b9ae95ece4223bc7f"), looks := false }, kinds := [], alts := [], laidByText := true, laidKinds := [.data, .data, .data], laidTests := true, laidLooks := .later }
def MatchComposesCardSaid : Prop := Claim7.holds Tryz.pinned (.plain (OpenSpec.ofChange matchComposesSpec)) matchComposesCard

/-- THE TIED CARD OF 'treemergelaw24.MatchInverts'. -/
def matchInvertsCard : Claim7 := { stood := { row := matchInvertsRow, standIns := [], harness := (true, "feb7798df211a78055cffb20b0c15d30fe2d2d17dc82576b9ae95ece4223bc7f"), looks := false }, kinds := [], alts := [], laidByText := true, laidKinds := [.data, .data, .data], laidTests := true, laidLooks := .later }
def MatchInvertsCardSaid : Prop := Claim7.holds Tryz.pinned (.plain (OpenSpec.ofChange matchInvertsSpec)) matchInvertsCard

/-- THE SECOND FORM's CARD OF 'treemergelaw24.MatchFinds'. -/
def matchFindsUptoCard : Claim7 := { stood := { row := matchFindsUptoRow, standIns := [], harness := (true, "feb7798df211a78055cffb20b0c15d30fe2d2d17dc82576b9ae95ece4223bc7f"), looks := false }, kinds := [], alts := [], laidByText := true, laidKinds := [.data, .data, .data], laidTests := true, laidLooks := .later }
def MatchFindsUptoCardSaid : Prop := Claim7.holds Tryz.pinned (.plain (OpenSpec.upto matchFindsSpec)) matchFindsUptoCard

/-- THE SECOND FORM's CARD OF 'treemergelaw24.MatchChecks'. -/
def matchChecksUptoCard : Claim7 := { stood := { row := matchChecksUptoRow, standIns := [], harness := (true, "feb7798df211a78055cffb20b0c15d30fe2d2d17dc82576b9ae95ece4223bc7f"), looks := false }, kinds := [], alts := [], laidByText := true, laidKinds := [.data, .data, .data], laidTests := true, laidLooks := .later }
def MatchChecksUptoCardSaid : Prop := Claim7.holds Tryz.pinned (.plain (OpenSpec.upto matchChecksSpec)) matchChecksUptoCard

/-- THE SECOND FORM's CARD OF 'treemergelaw24.MatchMaps'. -/
def matchMapsUptoCard : Claim7 := { stood := { row := matchMapsUptoRow, standIns := [], harness := (true, "feb7798df211a78055cffb20b0c15d30fe2d2d17dc82576b9ae95ece4223bc7f"), looks := false }, kinds := [], alts := [], laidByText := true, laidKinds := [.data, .data, .data], laidTests := true, laidLooks := .later }
def MatchMapsUptoCardSaid : Prop := Claim7.holds Tryz.pinned (.plain (OpenSpec.upto matchMapsSpec)) matchMapsUptoCard

/-- THE SECOND FORM's CARD OF 'treemergelaw24.MatchCombines'. -/
def matchCombinesUptoCard : Claim7 := { stood := { row := matchCombinesUptoRow, standIns := [], harness := (true, "feb7798df211a78055cffb20b0c15d30fe2d2d17dc82576b9ae95ece4223bc7f"), looks := false }, kinds := [], alts := [], laidByText := true, laidKinds := [.data, .data, .data], laidTests := true, laidLooks := .later }
def MatchCombinesUptoCardSaid : Prop := Claim7.holds Tryz.pinned (.plain (OpenSpec.upto matchCombinesSpec)) matchCombinesUptoCard

/-- THE SECOND FORM's CARD OF 'treemergelaw24.MatchComposes'. -/
def matchComposesUptoCard : Claim7 := { stood := { row := matchComposesUptoRow, standIns := [], harness := (true, "feb7798df211a78055cffb20b0c15d30fe2d2d17dc82576b9ae95ece4223bc7f"), looks := false }, kinds := [], alts := [], laidByText := true, laidKinds := [.data, .data, .data], laidTests := true, laidLooks := .later }
def MatchComposesUptoCardSaid : Prop := Claim7.holds Tryz.pinned (.plain (OpenSpec.upto matchComposesSpec)) matchComposesUptoCard

/-- THE SECOND FORM's CARD OF 'treemergelaw24.MatchInverts'. -/
def matchInvertsUptoCard : Claim7 := { stood := { row := matchInvertsUptoRow, standIns := [], harness := (true, "feb7798df211a78055cffb20b0c15d30fe2d2d17dc82576b9ae95ece4223bc7f"), looks := false }, kinds := [], alts := [], laidByText := true, laidKinds := [.data, .data, .data], laidTests := true, laidLooks := .later }
def MatchInvertsUptoCardSaid : Prop := Claim7.holds Tryz.pinned (.plain (OpenSpec.upto matchInvertsSpec)) matchInvertsUptoCard
end Rows
end Go.Proofs.YtendihpeaajpmaaGreatDoor
