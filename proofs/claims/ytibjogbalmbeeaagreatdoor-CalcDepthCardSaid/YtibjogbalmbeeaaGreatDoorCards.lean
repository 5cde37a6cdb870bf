/-
  DERIVED. GIVEN WITH THE SEED: THE CARDS: each row of YtibjogbalmbeeaaGreatDoorRows.lean that lists a variable, with what it lists TIED to the program's text (the seventh form; the later family's looks); each row that meets fmt, with fmt's text TOLD by the authors' own Lean function (tested against real Go, not proved from fmt's source: count such statements apart). THE CARD IS WHAT COUNTS. Prove the row's statement (the work); the ties are given (YtibjogbalmbeeaaGreatDoorTie.lean); close each card by the builder's one call (the guide's Derived/Test/ToyasCard.lean, 'card_holds'). Laid BY PROGRAM, IN A SANDBOX (cutbox-door.mjs). By AI agents, Wed Nov 11 2026. No macro, syntax, notation, axiom, sorry.
-/
import Derived.Test.YtibjogbalmbeeaaGreatDoorRows
import GoSem.ClaimSeven
namespace Go.Proofs.YtibjogbalmbeeaaGreatDoor
namespace Rows

/-- THE TIED CARD OF 'gnomonlaw27.CalcNumbers'. -/
def calcNumbersCard : Claim7 := { stood := { row := calcNumbersRow, standIns := [], harness := (true, "7124fcfb8b52b94f8231863a99a94206878c5e0bea2a2bbed29381086b0bfe36"), looks := true }, kinds := [], alts := [], laidByText := true, laidKinds := [.data, .data, .data, .data, .pinned], laidTests := true, laidLooks := .later }
def CalcNumbersCardSaid : Prop := Claim7.holds Tryz.pinned (.plain (OpenSpec.ofChange calcNumbersSpec)) calcNumbersCard

/-- THE TIED CARD OF 'gnomonlaw27.CalcReadsBack'. -/
def calcReadsBackCard : Claim7 := { stood := { row := calcReadsBackRow, standIns := [], harness := (true, "7124fcfb8b52b94f8231863a99a94206878c5e0bea2a2bbed29381086b0bfe36"), looks := true }, kinds := [], alts := [], laidByText := true, laidKinds := [.data, .data, .data, .data, .pinned], laidTests := true, laidLooks := .later }
def CalcReadsBackCardSaid : Prop := Claim7.holds Tryz.pinned (.plain (OpenSpec.ofChange calcReadsBackSpec)) calcReadsBackCard

/-- THE TIED CARD OF 'gnomonlaw27.CalcDepth'. -/
def calcDepthCard : Claim7 := { stood := { row := calcDepthRow, standIns := [], harness := (true, "7124fcfb8b52b94f8231863a99a94206878c5e0bea2a2bbed29381086b0bfe36"), looks := true }, kinds := [], alts := [], laidByText := true, laidKinds := [.data, .data, .data, .data, .pinned], laidTests := true, laidLooks := .later }
def CalcDepthCardSaid : Prop := Claim7.holds Tryz.pinned (.plain (OpenSpec.ofChange calcDepthSpec)) calcDepthCard

/-- THE TIED CARD OF 'gnomonlaw27.CalcLimits'. -/
def calcLimitsCard : Claim7 := { stood := { row := calcLimitsRow, standIns := [], harness := (true, "7124fcfb8b52b94f8231863a99a94206878c5e0bea2a2bbed29381086b0bfe36"), looks := true }, kinds := [], alts := [], laidByText := true, laidKinds := [.data, .data, .data, .data, .pinned], laidTests := true, laidLooks := .later }
def CalcLimitsCardSaid : Prop := Claim7.holds Tryz.pinned (.plain (OpenSpec.ofChange calcLimitsSpec)) calcLimitsCard

/-- THE SECOND FORM's CARD OF 'gnomonlaw27.CalcNumbers'. -/
def calcNumbersUptoCard : Claim7 := { stood := { row := calcNumbersUptoRow, standIns := [], harness := (true, "7124fcfb8b52b94f8231863a99a94206878c5e0bea2a2bbed29381086b0bfe36"), looks := true }, kinds := [], alts := [], laidByText := true, laidKinds := [.data, .data, .data, .data, .pinned], laidTests := true, laidLooks := .later }
def CalcNumbersUptoCardSaid : Prop := Claim7.holds Tryz.pinned (.plain (OpenSpec.upto calcNumbersSpec)) calcNumbersUptoCard

/-- THE SECOND FORM's CARD OF 'gnomonlaw27.CalcReadsBack'. -/
def calcReadsBackUptoCard : Claim7 := { stood := { row := calcReadsBackUptoRow, standIns := [], harness := (true, "7124fcfb8b52b94f8231863a99a94206878c5e0bea2a2bbed29381086b0bfe36"), looks := true }, kinds := [], alts := [], laidByText := true, laidKinds := [.data, .data, .data, .data, .pinned], laidTests := true, laidLooks := .later }
def CalcReadsBackUptoCardSaid : Prop := Claim7.holds Tryz.pinned (.plain (OpenSpec.upto calcReadsBackSpec)) calcReadsBackUptoCard

/-- THE SECOND FORM's CARD OF 'gnomonlaw27.CalcDepth'. -/
def calcDepthUptoCard : Claim7 := { stood := { row := calcDepthUptoRow, standIns := [], harness := (true, "7124fcfb8b52b94f8231863a99a94206878c5e0bea2a2bbed29381086b0bfe36"), looks := true }, kinds := [], alts := [], laidByText := true, laidKinds := [.data, .data, .data, .data, .pinned], laidTests := true, laidLooks := .later }
def CalcDepthUptoCardSaid : Prop := Claim7.holds Tryz.pinned (.plain (OpenSpec.upto calcDepthSpec)) calcDepthUptoCard

/-- THE SECOND FORM's CARD OF 'gnomonlaw27.CalcLimits'. -/
def calcLimitsUptoCard : Claim7 := { stood := { row := calcLimitsUptoRow, standIns := [], harness := (true, "7124fcfb8b52b94f8231863a99a94206878c5e0bea2a2bbed29381086b0bfe36"), looks := true }, kinds := [], alts := [], laidByText := true, laidKinds := [.data, .data, .data, .data, .pinned], laidTests := true, laidLooks := .later }
def CalcLimitsUptoCardSaid : Prop := Claim7.holds Tryz.pinned (.plain (OpenSpec.upto calcLimitsSpec)) calcLimitsUptoCard
end Rows
end Go.Proofs.YtibjogbalmbeeaaGreatDoor
