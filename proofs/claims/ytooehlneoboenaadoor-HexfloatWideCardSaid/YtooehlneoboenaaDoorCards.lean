/-
  DERIVED. GIVEN WITH THE SEED: THE CARDS: each row of YtooehlneoboenaaDoorRows.lean that lists a variable, with what it lists TIED to the program's text (the seventh form; the later family's looks); each row that meets fmt, with fmt's text TOLD by the authors' own Lean function (tested against real Go, not proved from fmt's source: count such statements apart). THE CARD IS WHAT COUNTS. Prove the row's statement (the work); the ties are given (YtooehlneoboenaaDoorTie.lean); close each card by the builder's one call (the guide's Derived/Test/ToyasCard.lean, 'card_holds'). Laid BY PROGRAM, IN A SANDBOX (cutbox-door.mjs). By AI agents, Wed Nov 11 2026. No macro, syntax, notation, axiom, sorry.
-/
import Derived.Test.YtooehlneoboenaaDoorRows
import GoSem.ClaimSeven
namespace Go.Proofs.YtooehlneoboenaaDoor
namespace Rows

/-- THE TIED CARD OF 'gnomonlaw10.HexfloatBack'. -/
def hexfloatBackCard : Claim7 := { stood := { row := hexfloatBackRow, standIns := [], harness := (true, "812657511039447d751197b488e4de8ed4178839ee554c8b4185d2ccc52e7b44"), looks := true }, kinds := [], alts := [], laidByText := true, laidKinds := [.data, .data, .data], laidTests := true, laidLooks := .later }
def HexfloatBackCardSaid : Prop := Claim7.holds Tryd.pinned (.plain (OpenSpec.ofChange hexfloatBackSpec)) hexfloatBackCard

/-- THE TIED CARD OF 'gnomonlaw10.HexfloatPoint'. -/
def hexfloatPointCard : Claim7 := { stood := { row := hexfloatPointRow, standIns := [], harness := (true, "812657511039447d751197b488e4de8ed4178839ee554c8b4185d2ccc52e7b44"), looks := true }, kinds := [], alts := [], laidByText := true, laidKinds := [.data, .data, .data], laidTests := true, laidLooks := .later }
def HexfloatPointCardSaid : Prop := Claim7.holds Tryd.pinned (.plain (OpenSpec.ofChange hexfloatPointSpec)) hexfloatPointCard

/-- THE TIED CARD OF 'gnomonlaw10.HexfloatSigns'. -/
def hexfloatSignsCard : Claim7 := { stood := { row := hexfloatSignsRow, standIns := [], harness := (true, "812657511039447d751197b488e4de8ed4178839ee554c8b4185d2ccc52e7b44"), looks := true }, kinds := [], alts := [], laidByText := true, laidKinds := [.data, .data, .data], laidTests := true, laidLooks := .later }
def HexfloatSignsCardSaid : Prop := Claim7.holds Tryd.pinned (.plain (OpenSpec.ofChange hexfloatSignsSpec)) hexfloatSignsCard

/-- THE TIED CARD OF 'gnomonlaw10.HexfloatOrder'. -/
def hexfloatOrderCard : Claim7 := { stood := { row := hexfloatOrderRow, standIns := [], harness := (true, "812657511039447d751197b488e4de8ed4178839ee554c8b4185d2ccc52e7b44"), looks := true }, kinds := [], alts := [], laidByText := true, laidKinds := [.data, .data, .data], laidTests := true, laidLooks := .later }
def HexfloatOrderCardSaid : Prop := Claim7.holds Tryd.pinned (.plain (OpenSpec.ofChange hexfloatOrderSpec)) hexfloatOrderCard

/-- THE TIED CARD OF 'gnomonlaw10.HexfloatStrange'. -/
def hexfloatStrangeCard : Claim7 := { stood := { row := hexfloatStrangeRow, standIns := [], harness := (true, "812657511039447d751197b488e4de8ed4178839ee554c8b4185d2ccc52e7b44"), looks := true }, kinds := [], alts := [], laidByText := true, laidKinds := [.data, .data, .data], laidTests := true, laidLooks := .later }
def HexfloatStrangeCardSaid : Prop := Claim7.holds Tryd.pinned (.plain (OpenSpec.ofChange hexfloatStrangeSpec)) hexfloatStrangeCard

/-- THE TIED CARD OF 'gnomonlaw10.HexfloatJoins'. -/
def hexfloatJoinsCard : Claim7 := { stood := { row := hexfloatJoinsRow, standIns := [], harness := (true, "812657511039447d751197b488e4de8ed4178839ee554c8b4185d2ccc52e7b44"), looks := true }, kinds := [], alts := [], laidByText := true, laidKinds := [.data, .data, .data], laidTests := true, laidLooks := .later }
def HexfloatJoinsCardSaid : Prop := Claim7.holds Tryd.pinned (.plain (OpenSpec.ofChange hexfloatJoinsSpec)) hexfloatJoinsCard

/-- THE TIED CARD OF 'gnomonlaw10.HexfloatWide'. -/
def hexfloatWideCard : Claim7 := { stood := { row := hexfloatWideRow, standIns := [], harness := (true, "812657511039447d751197b488e4de8ed4178839ee554c8b4185d2ccc52e7b44"), looks := true }, kinds := [], alts := [], laidByText := true, laidKinds := [.data, .data, .data], laidTests := true, laidLooks := .later }
def HexfloatWideCardSaid : Prop := Claim7.holds Tryd.pinned (.plain (OpenSpec.ofChange hexfloatWideSpec)) hexfloatWideCard

/-- THE SECOND FORM's CARD OF 'gnomonlaw10.HexfloatBack'. -/
def hexfloatBackUptoCard : Claim7 := { stood := { row := hexfloatBackUptoRow, standIns := [], harness := (true, "812657511039447d751197b488e4de8ed4178839ee554c8b4185d2ccc52e7b44"), looks := true }, kinds := [], alts := [], laidByText := true, laidKinds := [.data, .data, .data], laidTests := true, laidLooks := .later }
def HexfloatBackUptoCardSaid : Prop := Claim7.holds Tryd.pinned (.plain (OpenSpec.upto hexfloatBackSpec)) hexfloatBackUptoCard

/-- THE SECOND FORM's CARD OF 'gnomonlaw10.HexfloatPoint'. -/
def hexfloatPointUptoCard : Claim7 := { stood := { row := hexfloatPointUptoRow, standIns := [], harness := (true, "812657511039447d751197b488e4de8ed4178839ee554c8b4185d2ccc52e7b44"), looks := true }, kinds := [], alts := [], laidByText := true, laidKinds := [.data, .data, .data], laidTests := true, laidLooks := .later }
def HexfloatPointUptoCardSaid : Prop := Claim7.holds Tryd.pinned (.plain (OpenSpec.upto hexfloatPointSpec)) hexfloatPointUptoCard

/-- THE SECOND FORM's CARD OF 'gnomonlaw10.HexfloatSigns'. -/
def hexfloatSignsUptoCard : Claim7 := { stood := { row := hexfloatSignsUptoRow, standIns := [], harness := (true, "812657511039447d751197b488e4de8ed4178839ee554c8b4185d2ccc52e7b44"), looks := true }, kinds := [], alts := [], laidByText := true, laidKinds := [.data, .data, .data], laidTests := true, laidLooks := .later }
def HexfloatSignsUptoCardSaid : Prop := Claim7.holds Tryd.pinned (.plain (OpenSpec.upto hexfloatSignsSpec)) hexfloatSignsUptoCard

/-- THE SECOND FORM's CARD OF 'gnomonlaw10.HexfloatOrder'. -/
def hexfloatOrderUptoCard : Claim7 := { stood := { row := hexfloatOrderUptoRow, standIns := [], harness := (true, "812657511039447d751197b488e4de8ed4178839ee554c8b4185d2ccc52e7b44"), looks := true }, kinds := [], alts := [], laidByText := true, laidKinds := [.data, .data, .data], laidTests := true, laidLooks := .later }
def HexfloatOrderUptoCardSaid : Prop := Claim7.holds Tryd.pinned (.plain (OpenSpec.upto hexfloatOrderSpec)) hexfloatOrderUptoCard

/-- THE SECOND FORM's CARD OF 'gnomonlaw10.HexfloatStrange'. -/
def hexfloatStrangeUptoCard : Claim7 := { stood := { row := hexfloatStrangeUptoRow, standIns := [], harness := (true, "812657511039447d751197b488e4de8ed4178839ee554c8b4185d2ccc52e7b44"), looks := true }, kinds := [], alts := [], laidByText := true, laidKinds := [.data, .data, .data], laidTests := true, laidLooks := .later }
def HexfloatStrangeUptoCardSaid : Prop := Claim7.holds Tryd.pinned (.plain (OpenSpec.upto hexfloatStrangeSpec)) hexfloatStrangeUptoCard

/-- THE SECOND FORM's CARD OF 'gnomonlaw10.HexfloatJoins'. -/
def hexfloatJoinsUptoCard : Claim7 := { stood := { row := hexfloatJoinsUptoRow, standIns := [], harness := (true, "812657511039447d751197b488e4de8ed4178839ee554c8b4185d2ccc52e7b44"), looks := true }, kinds := [], alts := [], laidByText := true, laidKinds := [.data, .data, .data], laidTests := true, laidLooks := .later }
def HexfloatJoinsUptoCardSaid : Prop := Claim7.holds Tryd.pinned (.plain (OpenSpec.upto hexfloatJoinsSpec)) hexfloatJoinsUptoCard

/-- THE SECOND FORM's CARD OF 'gnomonlaw10.HexfloatWide'. -/
def hexfloatWideUptoCard : Claim7 := { stood := { row := hexfloatWideUptoRow, standIns := [], harness := (true, "812657511039447d751197b488e4de8ed4178839ee554c8b4185d2ccc52e7b44"), looks := true }, kinds := [], alts := [], laidByText := true, laidKinds := [.data, .data, .data], laidTests := true, laidLooks := .later }
def HexfloatWideUptoCardSaid : Prop := Claim7.holds Tryd.pinned (.plain (OpenSpec.upto hexfloatWideSpec)) hexfloatWideUptoCard
end Rows
end Go.Proofs.YtooehlneoboenaaDoor
