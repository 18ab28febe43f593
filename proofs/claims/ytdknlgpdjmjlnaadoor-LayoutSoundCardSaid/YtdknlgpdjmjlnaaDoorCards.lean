/-
  DERIVED. GIVEN WITH THE SEED: THE CARDS: each row of YtdknlgpdjmjlnaaDoorRows.lean that lists a variable, with what it lists TIED to the program's text (the seventh form; the later family's looks); each row that meets fmt, with fmt's text TOLD by the authors' own Lean function (tested against real Go, not proved from fmt's source: count such statements apart). THE CARD IS WHAT COUNTS. Prove the row's statement (the work); the ties are given (YtdknlgpdjmjlnaaDoorTie.lean); close each card by the builder's one call (the guide's Derived/Test/ToyasCard.lean, 'card_holds'). Laid BY PROGRAM, IN A SANDBOX (cutbox-door.mjs). By AI agents, Wed Nov 11 2026. No macro, syntax, notation, axiom, sorry.
-/
import Derived.Test.YtdknlgpdjmjlnaaDoorRows
import GoSem.ClaimSeven
namespace Go.Proofs.YtdknlgpdjmjlnaaDoor
namespace Rows

/-- THE TIED CARD OF 'treemergelaw33.LayoutMerges'. -/
def layoutMergesCard : Claim7 := { stood := { row := layoutMergesRow, standIns := [], harness := (true, "89f386ae42f5edf6d714f64ba20457fd0ef639a7f7ac51876dedf14a7b4b08cb"), looks := false }, kinds := [], alts := [], laidByText := true, laidKinds := [.widerDeep], laidTests := true, laidLooks := .later }
def LayoutMergesCardSaid : Prop := Claim7.holds Tryd.pinned (.plain (OpenSpec.ofChange layoutMergesSpec)) layoutMergesCard

/-- THE TIED CARD OF 'treemergelaw33.LayoutRepairs'. -/
def layoutRepairsCard : Claim7 := { stood := { row := layoutRepairsRow, standIns := [], harness := (true, "89f386ae42f5edf6d714f64ba20457fd0ef639a7f7ac51876dedf14a7b4b08cb"), looks := false }, kinds := [], alts := [], laidByText := true, laidKinds := [.widerDeep], laidTests := true, laidLooks := .later }
def LayoutRepairsCardSaid : Prop := Claim7.holds Tryd.pinned (.plain (OpenSpec.ofChange layoutRepairsSpec)) layoutRepairsCard

/-- THE TIED CARD OF 'treemergelaw33.LayoutAdopts'. -/
def layoutAdoptsCard : Claim7 := { stood := { row := layoutAdoptsRow, standIns := [], harness := (true, "89f386ae42f5edf6d714f64ba20457fd0ef639a7f7ac51876dedf14a7b4b08cb"), looks := false }, kinds := [], alts := [], laidByText := true, laidKinds := [.widerDeep], laidTests := true, laidLooks := .later }
def LayoutAdoptsCardSaid : Prop := Claim7.holds Tryd.pinned (.plain (OpenSpec.ofChange layoutAdoptsSpec)) layoutAdoptsCard

/-- THE TIED CARD OF 'treemergelaw33.LayoutKeeps'. -/
def layoutKeepsCard : Claim7 := { stood := { row := layoutKeepsRow, standIns := [], harness := (true, "89f386ae42f5edf6d714f64ba20457fd0ef639a7f7ac51876dedf14a7b4b08cb"), looks := false }, kinds := [], alts := [], laidByText := true, laidKinds := [.widerDeep], laidTests := true, laidLooks := .later }
def LayoutKeepsCardSaid : Prop := Claim7.holds Tryd.pinned (.plain (OpenSpec.ofChange layoutKeepsSpec)) layoutKeepsCard

/-- THE TIED CARD OF 'treemergelaw33.LayoutSound'. -/
def layoutSoundCard : Claim7 := { stood := { row := layoutSoundRow, standIns := [], harness := (true, "89f386ae42f5edf6d714f64ba20457fd0ef639a7f7ac51876dedf14a7b4b08cb"), looks := false }, kinds := [], alts := [], laidByText := true, laidKinds := [.widerDeep], laidTests := true, laidLooks := .later }
def LayoutSoundCardSaid : Prop := Claim7.holds Tryd.pinned (.plain (OpenSpec.ofChange layoutSoundSpec)) layoutSoundCard

/-- THE SECOND FORM's CARD OF 'treemergelaw33.LayoutMerges'. -/
def layoutMergesUptoCard : Claim7 := { stood := { row := layoutMergesUptoRow, standIns := [], harness := (true, "89f386ae42f5edf6d714f64ba20457fd0ef639a7f7ac51876dedf14a7b4b08cb"), looks := false }, kinds := [], alts := [], laidByText := true, laidKinds := [.widerDeep], laidTests := true, laidLooks := .later }
def LayoutMergesUptoCardSaid : Prop := Claim7.holds Tryd.pinned (.plain (OpenSpec.upto layoutMergesSpec)) layoutMergesUptoCard

/-- THE SECOND FORM's CARD OF 'treemergelaw33.LayoutRepairs'. -/
def layoutRepairsUptoCard : Claim7 := { stood := { row := layoutRepairsUptoRow, standIns := [], harness := (true, "89f386ae42f5edf6d714f64ba20457fd0ef639a7f7ac51876dedf14a7b4b08cb"), looks := false }, kinds := [], alts := [], laidByText := true, laidKinds := [.widerDeep], laidTests := true, laidLooks := .later }
def LayoutRepairsUptoCardSaid : Prop := Claim7.holds Tryd.pinned (.plain (OpenSpec.upto layoutRepairsSpec)) layoutRepairsUptoCard

/-- THE SECOND FORM's CARD OF 'treemergelaw33.LayoutAdopts'. -/
def layoutAdoptsUptoCard : Claim7 := { stood := { row := layoutAdoptsUptoRow, standIns := [], harness := (true, "89f386ae42f5edf6d714f64ba20457fd0ef639a7f7ac51876dedf14a7b4b08cb"), looks := false }, kinds := [], alts := [], laidByText := true, laidKinds := [.widerDeep], laidTests := true, laidLooks := .later }
def LayoutAdoptsUptoCardSaid : Prop := Claim7.holds Tryd.pinned (.plain (OpenSpec.upto layoutAdoptsSpec)) layoutAdoptsUptoCard

/-- THE SECOND FORM's CARD OF 'treemergelaw33.LayoutKeeps'. -/
def layoutKeepsUptoCard : Claim7 := { stood := { row := layoutKeepsUptoRow, standIns := [], harness := (true, "89f386ae42f5edf6d714f64ba20457fd0ef639a7f7ac51876dedf14a7b4b08cb"), looks := false }, kinds := [], alts := [], laidByText := true, laidKinds := [.widerDeep], laidTests := true, laidLooks := .later }
def LayoutKeepsUptoCardSaid : Prop := Claim7.holds Tryd.pinned (.plain (OpenSpec.upto layoutKeepsSpec)) layoutKeepsUptoCard

/-- THE SECOND FORM's CARD OF 'treemergelaw33.LayoutSound'. -/
def layoutSoundUptoCard : Claim7 := { stood := { row := layoutSoundUptoRow, standIns := [], harness := (true, "89f386ae42f5edf6d714f64ba20457fd0ef639a7f7ac51876dedf14a7b4b08cb"), looks := false }, kinds := [], alts := [], laidByText := true, laidKinds := [.widerDeep], laidTests := true, laidLooks := .later }
def LayoutSoundUptoCardSaid : Prop := Claim7.holds Tryd.pinned (.plain (OpenSpec.upto layoutSoundSpec)) layoutSoundUptoCard
end Rows
end Go.Proofs.YtdknlgpdjmjlnaaDoor
