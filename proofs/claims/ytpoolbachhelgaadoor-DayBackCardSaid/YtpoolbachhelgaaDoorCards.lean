/-
  DERIVED. GIVEN WITH THE SEED: THE CARDS: each row of YtpoolbachhelgaaDoorRows.lean that lists a variable, with what it lists TIED to the program's text (the seventh form; the later family's looks); each row that meets fmt, with fmt's text TOLD by the authors' own Lean function (tested against real Go, not proved from fmt's source: count such statements apart). THE CARD IS WHAT COUNTS. Prove the row's statement (the work); the ties are given (YtpoolbachhelgaaDoorTie.lean); close each card by the builder's one call (the guide's Derived/Test/ToyasCard.lean, 'card_holds'). Laid BY PROGRAM, IN A SANDBOX (cutbox-door.mjs). By AI agents, Wed Nov 11 2026. No macro, syntax, notation, axiom, sorry.
-/
import Derived.Test.YtpoolbachhelgaaDoorRows
import GoSem.ClaimSeven
namespace Go.Proofs.YtpoolbachhelgaaDoor
namespace Rows

/-- THE TIED CARD OF 'clapkeep1.BitsCuts'. -/
def bitsCutsCard : Claim7 := { stood := { row := bitsCutsRow, standIns := [], harness := (true, "69161dcb306b27a66c16a87891004f3a168f9e5c1bbe0b9bd6063a8c441a4321"), looks := true }, kinds := [], alts := [], laidByText := true, laidKinds := [.data, .pinned], laidTests := true, laidLooks := .later }
def BitsCutsCardSaid : Prop := Claim7.holds Tryd.pinned (.plain (OpenSpec.ofChange bitsCutsSpec)) bitsCutsCard

/-- THE TIED CARD OF 'clapkeep1.DayGoes'. -/
def dayGoesCard : Claim7 := { stood := { row := dayGoesRow, standIns := [], harness := (true, "69161dcb306b27a66c16a87891004f3a168f9e5c1bbe0b9bd6063a8c441a4321"), looks := true }, kinds := [], alts := [], laidByText := true, laidKinds := [.data, .data, .data], laidTests := true, laidLooks := .later }
def DayGoesCardSaid : Prop := Claim7.holds Tryd.pinned (.plain (OpenSpec.ofChange dayGoesSpec)) dayGoesCard

/-- THE TIED CARD OF 'clapkeep1.DecimalGrouped'. -/
def decimalGroupedCard : Claim7 := { stood := { row := decimalGroupedRow, standIns := [], harness := (true, "69161dcb306b27a66c16a87891004f3a168f9e5c1bbe0b9bd6063a8c441a4321"), looks := true }, kinds := [], alts := [], laidByText := true, laidKinds := [.data, .pinned], laidTests := true, laidLooks := .later }
def DecimalGroupedCardSaid : Prop := Claim7.holds Tryd.pinned (.plain (OpenSpec.ofChange decimalGroupedSpec)) decimalGroupedCard

/-- THE TIED CARD OF 'clapkeep1.DecimalBack'. -/
def decimalBackCard : Claim7 := { stood := { row := decimalBackRow, standIns := [], harness := (true, "69161dcb306b27a66c16a87891004f3a168f9e5c1bbe0b9bd6063a8c441a4321"), looks := true }, kinds := [], alts := [], laidByText := true, laidKinds := [.data, .pinned], laidTests := true, laidLooks := .later }
def DecimalBackCardSaid : Prop := Claim7.holds Tryd.pinned (.plain (OpenSpec.ofChange decimalBackSpec)) decimalBackCard

/-- THE TIED CARD OF 'clapkeep1.DayBack'. -/
def dayBackCard : Claim7 := { stood := { row := dayBackRow, standIns := [], harness := (true, "69161dcb306b27a66c16a87891004f3a168f9e5c1bbe0b9bd6063a8c441a4321"), looks := true }, kinds := [], alts := [], laidByText := true, laidKinds := [.data, .data, .data, .data, .sentinel, .sentinel, .pinned], laidTests := true, laidLooks := .later }
def DayBackCardSaid : Prop := Claim7.holds Tryd.pinned (.plain (OpenSpec.ofChange dayBackSpec)) dayBackCard

/-- THE SECOND FORM's CARD OF 'clapkeep1.BitsCuts'. -/
def bitsCutsUptoCard : Claim7 := { stood := { row := bitsCutsUptoRow, standIns := [], harness := (true, "69161dcb306b27a66c16a87891004f3a168f9e5c1bbe0b9bd6063a8c441a4321"), looks := true }, kinds := [], alts := [], laidByText := true, laidKinds := [.data, .pinned], laidTests := true, laidLooks := .later }
def BitsCutsUptoCardSaid : Prop := Claim7.holds Tryd.pinned (.plain (OpenSpec.upto bitsCutsSpec)) bitsCutsUptoCard

/-- THE SECOND FORM's CARD OF 'clapkeep1.DayGoes'. -/
def dayGoesUptoCard : Claim7 := { stood := { row := dayGoesUptoRow, standIns := [], harness := (true, "69161dcb306b27a66c16a87891004f3a168f9e5c1bbe0b9bd6063a8c441a4321"), looks := true }, kinds := [], alts := [], laidByText := true, laidKinds := [.data, .data, .data], laidTests := true, laidLooks := .later }
def DayGoesUptoCardSaid : Prop := Claim7.holds Tryd.pinned (.plain (OpenSpec.upto dayGoesSpec)) dayGoesUptoCard

/-- THE SECOND FORM's CARD OF 'clapkeep1.DecimalGrouped'. -/
def decimalGroupedUptoCard : Claim7 := { stood := { row := decimalGroupedUptoRow, standIns := [], harness := (true, "69161dcb306b27a66c16a87891004f3a168f9e5c1bbe0b9bd6063a8c441a4321"), looks := true }, kinds := [], alts := [], laidByText := true, laidKinds := [.data, .pinned], laidTests := true, laidLooks := .later }
def DecimalGroupedUptoCardSaid : Prop := Claim7.holds Tryd.pinned (.plain (OpenSpec.upto decimalGroupedSpec)) decimalGroupedUptoCard

/-- THE SECOND FORM's CARD OF 'clapkeep1.DecimalBack'. -/
def decimalBackUptoCard : Claim7 := { stood := { row := decimalBackUptoRow, standIns := [], harness := (true, "69161dcb306b27a66c16a87891004f3a168f9e5c1bbe0b9bd6063a8c441a4321"), looks := true }, kinds := [], alts := [], laidByText := true, laidKinds := [.data, .pinned], laidTests := true, laidLooks := .later }
def DecimalBackUptoCardSaid : Prop := Claim7.holds Tryd.pinned (.plain (OpenSpec.upto decimalBackSpec)) decimalBackUptoCard

/-- THE SECOND FORM's CARD OF 'clapkeep1.DayBack'. -/
def dayBackUptoCard : Claim7 := { stood := { row := dayBackUptoRow, standIns := [], harness := (true, "69161dcb306b27a66c16a87891004f3a168f9e5c1bbe0b9bd6063a8c441a4321"), looks := true }, kinds := [], alts := [], laidByText := true, laidKinds := [.data, .data, .data, .data, .sentinel, .sentinel, .pinned], laidTests := true, laidLooks := .later }
def DayBackUptoCardSaid : Prop := Claim7.holds Tryd.pinned (.plain (OpenSpec.upto dayBackSpec)) dayBackUptoCard
end Rows
end Go.Proofs.YtpoolbachhelgaaDoor
