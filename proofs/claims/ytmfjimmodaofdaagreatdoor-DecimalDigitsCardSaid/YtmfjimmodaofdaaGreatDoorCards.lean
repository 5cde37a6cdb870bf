/-
  DERIVED. GIVEN WITH THE SEED: THE CARDS: each row of YtmfjimmodaofdaaGreatDoorRows.lean that lists a variable, with what it lists TIED to the program's text (the seventh form; the later family's looks); each row that meets fmt, with fmt's text TOLD by the authors' own Lean function (tested against real Go, not proved from fmt's source: count such statements apart). THE CARD IS WHAT COUNTS. Prove the row's statement (the work); the ties are given (YtmfjimmodaofdaaGreatDoorTie.lean); close each card by the builder's one call (the guide's Derived/Test/ToyasCard.lean, 'card_holds'). Laid BY PROGRAM, IN A SANDBOX (cutbox-door.mjs). By AI agents, Wed Nov 11 2026. No macro, syntax, notation, axiom, sorry.
-/
import Derived.Test.YtmfjimmodaofdaaGreatDoorRows
import GoSem.ClaimSeven
namespace Go.Proofs.YtmfjimmodaofdaaGreatDoor
namespace Rows

/-- THE TIED CARD OF 'gnomonlaw11.DecimalBack'. -/
def decimalBackCard : Claim7 := { stood := { row := decimalBackRow, standIns := [], harness := (true, "aa38108a7989c451d26280e946a4e2e3f63ef0b5667c75f9d7417e4959bf39ed"), looks := true }, kinds := [], alts := [], laidByText := true, laidKinds := [.data, .data, .data, .data, .pinned], laidTests := true, laidLooks := .later }
def DecimalBackCardSaid : Prop := Claim7.holds Tryz.pinned (.plain (OpenSpec.ofChange decimalBackSpec)) decimalBackCard

/-- THE TIED CARD OF 'gnomonlaw11.DecimalSpelled'. -/
def decimalSpelledCard : Claim7 := { stood := { row := decimalSpelledRow, standIns := [], harness := (true, "aa38108a7989c451d26280e946a4e2e3f63ef0b5667c75f9d7417e4959bf39ed"), looks := true }, kinds := [], alts := [], laidByText := true, laidKinds := [.data, .data, .data, .data, .pinned], laidTests := true, laidLooks := .later }
def DecimalSpelledCardSaid : Prop := Claim7.holds Tryz.pinned (.plain (OpenSpec.ofChange decimalSpelledSpec)) decimalSpelledCard

/-- THE TIED CARD OF 'gnomonlaw11.DecimalRefused'. -/
def decimalRefusedCard : Claim7 := { stood := { row := decimalRefusedRow, standIns := [], harness := (true, "aa38108a7989c451d26280e946a4e2e3f63ef0b5667c75f9d7417e4959bf39ed"), looks := true }, kinds := [], alts := [], laidByText := true, laidKinds := [.data, .data, .data, .data, .pinned], laidTests := true, laidLooks := .later }
def DecimalRefusedCardSaid : Prop := Claim7.holds Tryz.pinned (.plain (OpenSpec.ofChange decimalRefusedSpec)) decimalRefusedCard

/-- THE TIED CARD OF 'gnomonlaw11.DecimalMeans'. -/
def decimalMeansCard : Claim7 := { stood := { row := decimalMeansRow, standIns := [], harness := (true, "aa38108a7989c451d26280e946a4e2e3f63ef0b5667c75f9d7417e4959bf39ed"), looks := true }, kinds := [], alts := [], laidByText := true, laidKinds := [.data, .data, .data, .data, .pinned], laidTests := true, laidLooks := .later }
def DecimalMeansCardSaid : Prop := Claim7.holds Tryz.pinned (.plain (OpenSpec.ofChange decimalMeansSpec)) decimalMeansCard

/-- THE TIED CARD OF 'gnomonlaw11.DecimalParses'. -/
def decimalParsesCard : Claim7 := { stood := { row := decimalParsesRow, standIns := [], harness := (true, "aa38108a7989c451d26280e946a4e2e3f63ef0b5667c75f9d7417e4959bf39ed"), looks := true }, kinds := [], alts := [], laidByText := true, laidKinds := [.data, .data, .data, .data, .pinned], laidTests := true, laidLooks := .later }
def DecimalParsesCardSaid : Prop := Claim7.holds Tryz.pinned (.plain (OpenSpec.ofChange decimalParsesSpec)) decimalParsesCard

/-- THE TIED CARD OF 'gnomonlaw11.DecimalPrints'. -/
def decimalPrintsCard : Claim7 := { stood := { row := decimalPrintsRow, standIns := [], harness := (true, "aa38108a7989c451d26280e946a4e2e3f63ef0b5667c75f9d7417e4959bf39ed"), looks := true }, kinds := [], alts := [], laidByText := true, laidKinds := [.data, .data, .data, .data, .pinned], laidTests := true, laidLooks := .later }
def DecimalPrintsCardSaid : Prop := Claim7.holds Tryz.pinned (.plain (OpenSpec.ofChange decimalPrintsSpec)) decimalPrintsCard

/-- THE TIED CARD OF 'gnomonlaw11.DecimalDigits'. -/
def decimalDigitsCard : Claim7 := { stood := { row := decimalDigitsRow, standIns := [], harness := (true, "aa38108a7989c451d26280e946a4e2e3f63ef0b5667c75f9d7417e4959bf39ed"), looks := true }, kinds := [], alts := [], laidByText := true, laidKinds := [.data, .data, .data, .data, .pinned], laidTests := true, laidLooks := .later }
def DecimalDigitsCardSaid : Prop := Claim7.holds Tryz.pinned (.plain (OpenSpec.ofChange decimalDigitsSpec)) decimalDigitsCard

/-- THE TIED CARD OF 'gnomonlaw11.DecimalEnough'. -/
def decimalEnoughCard : Claim7 := { stood := { row := decimalEnoughRow, standIns := [], harness := (true, "aa38108a7989c451d26280e946a4e2e3f63ef0b5667c75f9d7417e4959bf39ed"), looks := true }, kinds := [], alts := [], laidByText := true, laidKinds := [.data, .data, .data, .data, .pinned], laidTests := true, laidLooks := .later }
def DecimalEnoughCardSaid : Prop := Claim7.holds Tryz.pinned (.plain (OpenSpec.ofChange decimalEnoughSpec)) decimalEnoughCard

/-- THE TIED CARD OF 'gnomonlaw11.DecimalExactly'. -/
def decimalExactlyCard : Claim7 := { stood := { row := decimalExactlyRow, standIns := [], harness := (true, "aa38108a7989c451d26280e946a4e2e3f63ef0b5667c75f9d7417e4959bf39ed"), looks := true }, kinds := [], alts := [], laidByText := true, laidKinds := [.data, .data, .data, .data, .pinned], laidTests := true, laidLooks := .later }
def DecimalExactlyCardSaid : Prop := Claim7.holds Tryz.pinned (.plain (OpenSpec.ofChange decimalExactlySpec)) decimalExactlyCard

/-- THE SECOND FORM's CARD OF 'gnomonlaw11.DecimalBack'. -/
def decimalBackUptoCard : Claim7 := { stood := { row := decimalBackUptoRow, standIns := [], harness := (true, "aa38108a7989c451d26280e946a4e2e3f63ef0b5667c75f9d7417e4959bf39ed"), looks := true }, kinds := [], alts := [], laidByText := true, laidKinds := [.data, .data, .data, .data, .pinned], laidTests := true, laidLooks := .later }
def DecimalBackUptoCardSaid : Prop := Claim7.holds Tryz.pinned (.plain (OpenSpec.upto decimalBackSpec)) decimalBackUptoCard

/-- THE SECOND FORM's CARD OF 'gnomonlaw11.DecimalSpelled'. -/
def decimalSpelledUptoCard : Claim7 := { stood := { row := decimalSpelledUptoRow, standIns := [], harness := (true, "aa38108a7989c451d26280e946a4e2e3f63ef0b5667c75f9d7417e4959bf39ed"), looks := true }, kinds := [], alts := [], laidByText := true, laidKinds := [.data, .data, .data, .data, .pinned], laidTests := true, laidLooks := .later }
def DecimalSpelledUptoCardSaid : Prop := Claim7.holds Tryz.pinned (.plain (OpenSpec.upto decimalSpelledSpec)) decimalSpelledUptoCard

/-- THE SECOND FORM's CARD OF 'gnomonlaw11.DecimalRefused'. -/
def decimalRefusedUptoCard : Claim7 := { stood := { row := decimalRefusedUptoRow, standIns := [], harness := (true, "aa38108a7989c451d26280e946a4e2e3f63ef0b5667c75f9d7417e4959bf39ed"), looks := true }, kinds := [], alts := [], laidByText := true, laidKinds := [.data, .data, .data, .data, .pinned], laidTests := true, laidLooks := .later }
def DecimalRefusedUptoCardSaid : Prop := Claim7.holds Tryz.pinned (.plain (OpenSpec.upto decimalRefusedSpec)) decimalRefusedUptoCard

/-- THE SECOND FORM's CARD OF 'gnomonlaw11.DecimalMeans'. -/
def decimalMeansUptoCard : Claim7 := { stood := { row := decimalMeansUptoRow, standIns := [], harness := (true, "aa38108a7989c451d26280e946a4e2e3f63ef0b5667c75f9d7417e4959bf39ed"), looks := true }, kinds := [], alts := [], laidByText := true, laidKinds := [.data, .data, .data, .data, .pinned], laidTests := true, laidLooks := .later }
def DecimalMeansUptoCardSaid : Prop := Claim7.holds Tryz.pinned (.plain (OpenSpec.upto decimalMeansSpec)) decimalMeansUptoCard

/-- THE SECOND FORM's CARD OF 'gnomonlaw11.DecimalParses'. -/
def decimalParsesUptoCard : Claim7 := { stood := { row := decimalParsesUptoRow, standIns := [], harness := (true, "aa38108a7989c451d26280e946a4e2e3f63ef0b5667c75f9d7417e4959bf39ed"), looks := true }, kinds := [], alts := [], laidByText := true, laidKinds := [.data, .data, .data, .data, .pinned], laidTests := true, laidLooks := .later }
def DecimalParsesUptoCardSaid : Prop := Claim7.holds Tryz.pinned (.plain (OpenSpec.upto decimalParsesSpec)) decimalParsesUptoCard

/-- THE SECOND FORM's CARD OF 'gnomonlaw11.DecimalPrints'. -/
def decimalPrintsUptoCard : Claim7 := { stood := { row := decimalPrintsUptoRow, standIns := [], harness := (true, "aa38108a7989c451d26280e946a4e2e3f63ef0b5667c75f9d7417e4959bf39ed"), looks := true }, kinds := [], alts := [], laidByText := true, laidKinds := [.data, .data, .data, .data, .pinned], laidTests := true, laidLooks := .later }
def DecimalPrintsUptoCardSaid : Prop := Claim7.holds Tryz.pinned (.plain (OpenSpec.upto decimalPrintsSpec)) decimalPrintsUptoCard

/-- THE SECOND FORM's CARD OF 'gnomonlaw11.DecimalDigits'. -/
def decimalDigitsUptoCard : Claim7 := { stood := { row := decimalDigitsUptoRow, standIns := [], harness := (true, "aa38108a7989c451d26280e946a4e2e3f63ef0b5667c75f9d7417e4959bf39ed"), looks := true }, kinds := [], alts := [], laidByText := true, laidKinds := [.data, .data, .data, .data, .pinned], laidTests := true, laidLooks := .later }
def DecimalDigitsUptoCardSaid : Prop := Claim7.holds Tryz.pinned (.plain (OpenSpec.upto decimalDigitsSpec)) decimalDigitsUptoCard

/-- THE SECOND FORM's CARD OF 'gnomonlaw11.DecimalEnough'. -/
def decimalEnoughUptoCard : Claim7 := { stood := { row := decimalEnoughUptoRow, standIns := [], harness := (true, "aa38108a7989c451d26280e946a4e2e3f63ef0b5667c75f9d7417e4959bf39ed"), looks := true }, kinds := [], alts := [], laidByText := true, laidKinds := [.data, .data, .data, .data, .pinned], laidTests := true, laidLooks := .later }
def DecimalEnoughUptoCardSaid : Prop := Claim7.holds Tryz.pinned (.plain (OpenSpec.upto decimalEnoughSpec)) decimalEnoughUptoCard

/-- THE SECOND FORM's CARD OF 'gnomonlaw11.DecimalExactly'. -/
def decimalExactlyUptoCard : Claim7 := { stood := { row := decimalExactlyUptoRow, standIns := [], harness := (true, "aa38108a7989c451d26280e946a4e2e3f63ef0b5667c75f9d7417e4959bf39ed"), looks := true }, kinds := [], alts := [], laidByText := true, laidKinds := [.data, .data, .data, .data, .pinned], laidTests := true, laidLooks := .later }
def DecimalExactlyUptoCardSaid : Prop := Claim7.holds Tryz.pinned (.plain (OpenSpec.upto decimalExactlySpec)) decimalExactlyUptoCard
end Rows
end Go.Proofs.YtmfjimmodaofdaaGreatDoor
