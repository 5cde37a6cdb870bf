/-
  DERIVED. GIVEN WITH THE SEED: THE CARDS: each row of YtooehlneoboenaaGreatDoorRows.lean that lists a variable, with what it lists TIED to the program's text (the seventh form; the later family's looks); each row that meets fmt, with fmt's text TOLD by the authors' own Lean function (tested against real Go, not proved from fmt's source: count such statements apart). THE CARD IS WHAT COUNTS. Prove the row's statement (the work); the ties are given (YtooehlneoboenaaGreatDoorTie.lean); close each card by the builder's one call (the guide's Derived/Test/ToyasCard.lean, 'card_holds'). Laid BY PROGRAM, IN A SANDBOX (cutbox-door.mjs). By AI agents, Wed Nov 11 2026. No macro, syntax, notation, axiom, sorry.
-/
import Derived.Test.YtooehlneoboenaaGreatDoorRows
import GoSem.ClaimSeven
namespace Go.Proofs.YtooehlneoboenaaGreatDoor
namespace Rows

/-- THE TIED CARD OF 'gnomonlaw10.HexfloatParses'. -/
def hexfloatParsesCard : Claim7 := { stood := { row := hexfloatParsesRow, standIns := [], harness := (true, "867e18f97cfa97b201ccac8073a4012e6550a7873c3a73d7f3ec7371aea298b8"), looks := true }, kinds := [], alts := [], laidByText := true, laidKinds := [.data, .data, .data], laidTests := true, laidLooks := .later }
def HexfloatParsesCardSaid : Prop := Claim7.holds Tryz.pinned (.plain (OpenSpec.ofChange hexfloatParsesSpec)) hexfloatParsesCard

/-- THE TIED CARD OF 'gnomonlaw10.HexfloatPrints'. -/
def hexfloatPrintsCard : Claim7 := { stood := { row := hexfloatPrintsRow, standIns := [], harness := (true, "867e18f97cfa97b201ccac8073a4012e6550a7873c3a73d7f3ec7371aea298b8"), looks := true }, kinds := [], alts := [], laidByText := true, laidKinds := [.data, .data, .data], laidTests := true, laidLooks := .later }
def HexfloatPrintsCardSaid : Prop := Claim7.holds Tryz.pinned (.plain (OpenSpec.ofChange hexfloatPrintsSpec)) hexfloatPrintsCard

/-- THE TIED CARD OF 'gnomonlaw10.HexfloatAll'. -/
def hexfloatAllCard : Claim7 := { stood := { row := hexfloatAllRow, standIns := [], harness := (true, "867e18f97cfa97b201ccac8073a4012e6550a7873c3a73d7f3ec7371aea298b8"), looks := true }, kinds := [], alts := [], laidByText := true, laidKinds := [.data, .data, .data], laidTests := true, laidLooks := .later }
def HexfloatAllCardSaid : Prop := Claim7.holds Tryz.pinned (.plain (OpenSpec.ofChange hexfloatAllSpec)) hexfloatAllCard

/-- THE SECOND FORM's CARD OF 'gnomonlaw10.HexfloatParses'. -/
def hexfloatParsesUptoCard : Claim7 := { stood := { row := hexfloatParsesUptoRow, standIns := [], harness := (true, "867e18f97cfa97b201ccac8073a4012e6550a7873c3a73d7f3ec7371aea298b8"), looks := true }, kinds := [], alts := [], laidByText := true, laidKinds := [.data, .data, .data], laidTests := true, laidLooks := .later }
def HexfloatParsesUptoCardSaid : Prop := Claim7.holds Tryz.pinned (.plain (OpenSpec.upto hexfloatParsesSpec)) hexfloatParsesUptoCard

/-- THE SECOND FORM's CARD OF 'gnomonlaw10.HexfloatPrints'. -/
def hexfloatPrintsUptoCard : Claim7 := { stood := { row := hexfloatPrintsUptoRow, standIns := [], harness := (true, "867e18f97cfa97b201ccac8073a4012e6550a7873c3a73d7f3ec7371aea298b8"), looks := true }, kinds := [], alts := [], laidByText := true, laidKinds := [.data, .data, .data], laidTests := true, laidLooks := .later }
def HexfloatPrintsUptoCardSaid : Prop := Claim7.holds Tryz.pinned (.plain (OpenSpec.upto hexfloatPrintsSpec)) hexfloatPrintsUptoCard

/-- THE SECOND FORM's CARD OF 'gnomonlaw10.HexfloatAll'. -/
def hexfloatAllUptoCard : Claim7 := { stood := { row := hexfloatAllUptoRow, standIns := [], harness := (true, "867e18f97cfa97b201ccac8073a4012e6550a7873c3a73d7f3ec7371aea298b8"), looks := true }, kinds := [], alts := [], laidByText := true, laidKinds := [.data, .data, .data], laidTests := true, laidLooks := .later }
def HexfloatAllUptoCardSaid : Prop := Claim7.holds Tryz.pinned (.plain (OpenSpec.upto hexfloatAllSpec)) hexfloatAllUptoCard
end Rows
end Go.Proofs.YtooehlneoboenaaGreatDoor
