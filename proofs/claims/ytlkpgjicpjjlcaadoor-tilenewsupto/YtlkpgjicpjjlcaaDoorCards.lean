/-
  DERIVED. GIVEN WITH THE SEED: THE CARDS: each row of YtlkpgjicpjjlcaaDoorRows.lean that lists a variable, with what it lists TIED to the program's text (the seventh form; the later family's looks); each row that meets fmt, with fmt's text TOLD by the authors' own Lean function (tested against real Go, not proved from fmt's source: count such statements apart). THE CARD IS WHAT COUNTS. Prove the row's statement (the work); the ties are given (YtlkpgjicpjjlcaaDoorTie.lean); close each card by the builder's one call (the guide's Derived/Test/ToyasCard.lean, 'card_holds'). Laid BY PROGRAM, IN A SANDBOX (cutbox-door.mjs). By AI agents, Wed Nov 11 2026. No macro, syntax, notation, axiom, sorry.
-/
import Derived.Test.YtlkpgjicpjjlcaaDoorRows
import GoSem.ClaimSeven
namespace Go.Proofs.YtlkpgjicpjjlcaaDoor
namespace Rows

/-- THE TIED CARD OF 'engrosserlaw18.TileBack'. -/
def tileBackCard : Claim7 := { stood := { row := tileBackRow, standIns := [], harness := (true, "489ecd2fe8df012cbfd8690f063badcfc66a0ffa2143b1682dcd96f5264ecc32"), looks := true }, kinds := [], alts := [], laidByText := true, laidKinds := [.data, .pinned], laidTests := true, laidLooks := .later }
def TileBackCardSaid : Prop := Claim7.holds Tryd.pinned (.plain (OpenSpec.ofChange tileBackSpec)) tileBackCard

/-- THE TIED CARD OF 'engrosserlaw18.TileNews'. -/
def tileNewsCard : Claim7 := { stood := { row := tileNewsRow, standIns := [], harness := (true, "489ecd2fe8df012cbfd8690f063badcfc66a0ffa2143b1682dcd96f5264ecc32"), looks := true }, kinds := [], alts := [], laidByText := true, laidKinds := [.data, .pinned], laidTests := true, laidLooks := .later }
def TileNewsCardSaid : Prop := Claim7.holds Tryd.pinned (.plain (OpenSpec.ofChange tileNewsSpec)) tileNewsCard

/-- THE TIED CARD OF 'engrosserlaw18.TileNames'. -/
def tileNamesCard : Claim7 := { stood := { row := tileNamesRow, standIns := [], harness := (true, "489ecd2fe8df012cbfd8690f063badcfc66a0ffa2143b1682dcd96f5264ecc32"), looks := true }, kinds := [], alts := [], laidByText := true, laidKinds := [.data, .pinned], laidTests := true, laidLooks := .later }
def TileNamesCardSaid : Prop := Claim7.holds Tryd.pinned (.plain (OpenSpec.ofChange tileNamesSpec)) tileNamesCard

/-- THE SECOND FORM's CARD OF 'engrosserlaw18.TileBack'. -/
def tileBackUptoCard : Claim7 := { stood := { row := tileBackUptoRow, standIns := [], harness := (true, "489ecd2fe8df012cbfd8690f063badcfc66a0ffa2143b1682dcd96f5264ecc32"), looks := true }, kinds := [], alts := [], laidByText := true, laidKinds := [.data, .pinned], laidTests := true, laidLooks := .later }
def TileBackUptoCardSaid : Prop := Claim7.holds Tryd.pinned (.plain (OpenSpec.upto tileBackSpec)) tileBackUptoCard

/-- THE SECOND FORM's CARD OF 'engrosserlaw18.TileNews'. -/
def tileNewsUptoCard : Claim7 := { stood := { row := tileNewsUptoRow, standIns := [], harness := (true, "489ecd2fe8df012cbfd8690f063badcfc66a0ffa2143b1682dcd96f5264ecc32"), looks := true }, kinds := [], alts := [], laidByText := true, laidKinds := [.data, .pinned], laidTests := true, laidLooks := .later }
def TileNewsUptoCardSaid : Prop := Claim7.holds Tryd.pinned (.plain (OpenSpec.upto tileNewsSpec)) tileNewsUptoCard

/-- THE SECOND FORM's CARD OF 'engrosserlaw18.TileNames'. -/
def tileNamesUptoCard : Claim7 := { stood := { row := tileNamesUptoRow, standIns := [], harness := (true, "489ecd2fe8df012cbfd8690f063badcfc66a0ffa2143b1682dcd96f5264ecc32"), looks := true }, kinds := [], alts := [], laidByText := true, laidKinds := [.data, .pinned], laidTests := true, laidLooks := .later }
def TileNamesUptoCardSaid : Prop := Claim7.holds Tryd.pinned (.plain (OpenSpec.upto tileNamesSpec)) tileNamesUptoCard
end Rows
end Go.Proofs.YtlkpgjicpjjlcaaDoor
