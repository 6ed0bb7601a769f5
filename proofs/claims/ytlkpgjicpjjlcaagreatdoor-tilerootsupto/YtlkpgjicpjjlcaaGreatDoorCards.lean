/-
  DERIVED. GIVEN WITH THE SEED: THE CARDS: each row of YtlkpgjicpjjlcaaGreatDoorRows.lean that lists a variable, with what it lists TIED to the program's text (the seventh form; the later family's looks); each row that meets fmt, with fmt's text TOLD by the authors' own Lean function (tested against real Go, not proved from fmt's source: count such statements apart). THE CARD IS WHAT COUNTS. Prove the row's statement (the work); the ties are given (YtlkpgjicpjjlcaaGreatDoorTie.lean); close each card by the builder's one call (the guide's Derived/Test/ToyasCard.lean, 'card_holds'). Laid BY PROGRAM, IN A SANDBOX (cutbox-door.mjs). By AI agents, Wed Nov 11 2026. No macro, syntax, notation, axiom, sorry.
-/
import Derived.Test.YtlkpgjicpjjlcaaGreatDoorRows
import GoSem.ClaimSeven
namespace Go.Proofs.YtlkpgjicpjjlcaaGreatDoor
namespace Rows

/-- THE TIED CARD OF 'engrosserlaw18.TilePaths'. -/
def tilePathsCard : Claim7 := { stood := { row := tilePathsRow, standIns := [], harness := (true, "bf630e03e97cfd8d1954f36cb7563f900d5745c3f18b1651551670da7ee6ae7d"), looks := true }, kinds := [], alts := [], laidByText := true, laidKinds := [.data, .pinned], laidTests := true, laidLooks := .later }
def TilePathsCardSaid : Prop := Claim7.holds Tryz.pinned (.plain (OpenSpec.ofChange tilePathsSpec)) tilePathsCard

/-- THE TIED CARD OF 'engrosserlaw18.TileGrows'. -/
def tileGrowsCard : Claim7 := { stood := { row := tileGrowsRow, standIns := [], harness := (true, "bf630e03e97cfd8d1954f36cb7563f900d5745c3f18b1651551670da7ee6ae7d"), looks := true }, kinds := [], alts := [], laidByText := true, laidKinds := [.data, .pinned], laidTests := true, laidLooks := .later }
def TileGrowsCardSaid : Prop := Claim7.holds Tryz.pinned (.plain (OpenSpec.ofChange tileGrowsSpec)) tileGrowsCard

/-- THE TIED CARD OF 'engrosserlaw18.TileSteps'. -/
def tileStepsCard : Claim7 := { stood := { row := tileStepsRow, standIns := [], harness := (true, "bf630e03e97cfd8d1954f36cb7563f900d5745c3f18b1651551670da7ee6ae7d"), looks := true }, kinds := [], alts := [], laidByText := true, laidKinds := [.data, .pinned], laidTests := true, laidLooks := .later }
def TileStepsCardSaid : Prop := Claim7.holds Tryz.pinned (.plain (OpenSpec.ofChange tileStepsSpec)) tileStepsCard

/-- THE TIED CARD OF 'engrosserlaw18.TileRoots'. -/
def tileRootsCard : Claim7 := { stood := { row := tileRootsRow, standIns := [], harness := (true, "bf630e03e97cfd8d1954f36cb7563f900d5745c3f18b1651551670da7ee6ae7d"), looks := true }, kinds := [], alts := [], laidByText := true, laidKinds := [.data, .pinned], laidTests := true, laidLooks := .later }
def TileRootsCardSaid : Prop := Claim7.holds Tryz.pinned (.plain (OpenSpec.ofChange tileRootsSpec)) tileRootsCard

/-- THE SECOND FORM's CARD OF 'engrosserlaw18.TilePaths'. -/
def tilePathsUptoCard : Claim7 := { stood := { row := tilePathsUptoRow, standIns := [], harness := (true, "bf630e03e97cfd8d1954f36cb7563f900d5745c3f18b1651551670da7ee6ae7d"), looks := true }, kinds := [], alts := [], laidByText := true, laidKinds := [.data, .pinned], laidTests := true, laidLooks := .later }
def TilePathsUptoCardSaid : Prop := Claim7.holds Tryz.pinned (.plain (OpenSpec.upto tilePathsSpec)) tilePathsUptoCard

/-- THE SECOND FORM's CARD OF 'engrosserlaw18.TileGrows'. -/
def tileGrowsUptoCard : Claim7 := { stood := { row := tileGrowsUptoRow, standIns := [], harness := (true, "bf630e03e97cfd8d1954f36cb7563f900d5745c3f18b1651551670da7ee6ae7d"), looks := true }, kinds := [], alts := [], laidByText := true, laidKinds := [.data, .pinned], laidTests := true, laidLooks := .later }
def TileGrowsUptoCardSaid : Prop := Claim7.holds Tryz.pinned (.plain (OpenSpec.upto tileGrowsSpec)) tileGrowsUptoCard

/-- THE SECOND FORM's CARD OF 'engrosserlaw18.TileSteps'. -/
def tileStepsUptoCard : Claim7 := { stood := { row := tileStepsUptoRow, standIns := [], harness := (true, "bf630e03e97cfd8d1954f36cb7563f900d5745c3f18b1651551670da7ee6ae7d"), looks := true }, kinds := [], alts := [], laidByText := true, laidKinds := [.data, .pinned], laidTests := true, laidLooks := .later }
def TileStepsUptoCardSaid : Prop := Claim7.holds Tryz.pinned (.plain (OpenSpec.upto tileStepsSpec)) tileStepsUptoCard

/-- THE SECOND FORM's CARD OF 'engrosserlaw18.TileRoots'. -/
def tileRootsUptoCard : Claim7 := { stood := { row := tileRootsUptoRow, standIns := [], harness := (true, "bf630e03e97cfd8d1954f36cb7563f900d5745c3f18b1651551670da7ee6ae7d"), looks := true }, kinds := [], alts := [], laidByText := true, laidKinds := [.data, .pinned], laidTests := true, laidLooks := .later }
def TileRootsUptoCardSaid : Prop := Claim7.holds Tryz.pinned (.plain (OpenSpec.upto tileRootsSpec)) tileRootsUptoCard
end Rows
end Go.Proofs.YtlkpgjicpjjlcaaGreatDoor
