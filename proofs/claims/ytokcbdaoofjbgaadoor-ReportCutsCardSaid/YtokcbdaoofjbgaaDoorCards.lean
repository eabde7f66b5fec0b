/-
  DERIVED. GIVEN WITH THE SEED: THE CARDS: each row of YtokcbdaoofjbgaaDoorRows.lean that lists a variable, with what it lists TIED to the program's text (the seventh form; the later family's looks); each row that meets fmt, with fmt's text TOLD by the authors' own Lean function (tested against real Go, not proved from fmt's source: count such statements apart). THE CARD IS WHAT COUNTS. Prove the row's statement (the work); the ties are given (YtokcbdaoofjbgaaDoorTie.lean); close each card by the builder's one call (the guide's Derived/Test/ToyasCard.lean, 'card_holds'). Laid BY PROGRAM, IN A SANDBOX (cutbox-door.mjs). By AI agents, Wed Nov 11 2026. No macro, syntax, notation, axiom, sorry.
-/
import Derived.Test.YtokcbdaoofjbgaaDoorRows
import GoSem.ClaimSeven
namespace Go.Proofs.YtokcbdaoofjbgaaDoor
namespace Rows

/-- THE TIED CARD OF 'dragnetlaw26.ReportChecks'. -/
def reportChecksCard : Claim7 := { stood := { row := reportChecksRow, standIns := [], harness := (true, "1071bc5dd8163092dea9b56b7c6798fb795f899f114727d5df8fb6dc730c7e98"), looks := false }, kinds := [], alts := [], laidByText := true, laidKinds := [.data, .data, .data], laidTests := true, laidLooks := .later }
def ReportChecksCardSaid : Prop := Claim7.holds Tryd.pinned (.plain (OpenSpec.ofChange reportChecksSpec)) reportChecksCard

/-- THE TIED CARD OF 'dragnetlaw26.ReportMakes'. -/
def reportMakesCard : Claim7 := { stood := { row := reportMakesRow, standIns := [], harness := (true, "1071bc5dd8163092dea9b56b7c6798fb795f899f114727d5df8fb6dc730c7e98"), looks := false }, kinds := [], alts := [], laidByText := true, laidKinds := [.data, .data, .data], laidTests := true, laidLooks := .later }
def ReportMakesCardSaid : Prop := Claim7.holds Tryd.pinned (.plain (OpenSpec.ofChange reportMakesSpec)) reportMakesCard

/-- THE TIED CARD OF 'dragnetlaw26.ReportCuts'. -/
def reportCutsCard : Claim7 := { stood := { row := reportCutsRow, standIns := [], harness := (true, "1071bc5dd8163092dea9b56b7c6798fb795f899f114727d5df8fb6dc730c7e98"), looks := false }, kinds := [], alts := [], laidByText := true, laidKinds := [.data, .data, .data], laidTests := true, laidLooks := .later }
def ReportCutsCardSaid : Prop := Claim7.holds Tryd.pinned (.plain (OpenSpec.ofChange reportCutsSpec)) reportCutsCard

/-- THE TIED CARD OF 'dragnetlaw26.ReportBytes'. -/
def reportBytesCard : Claim7 := { stood := { row := reportBytesRow, standIns := [], harness := (true, "1071bc5dd8163092dea9b56b7c6798fb795f899f114727d5df8fb6dc730c7e98"), looks := false }, kinds := [], alts := [], laidByText := true, laidKinds := [.data, .data, .data], laidTests := true, laidLooks := .later }
def ReportBytesCardSaid : Prop := Claim7.holds Tryd.pinned (.plain (OpenSpec.ofChange reportBytesSpec)) reportBytesCard

/-- THE TIED CARD OF 'dragnetlaw26.ReportFixed'. -/
def reportFixedCard : Claim7 := { stood := { row := reportFixedRow, standIns := [], harness := (true, "1071bc5dd8163092dea9b56b7c6798fb795f899f114727d5df8fb6dc730c7e98"), looks := false }, kinds := [], alts := [], laidByText := true, laidKinds := [.data, .data, .data], laidTests := true, laidLooks := .later }
def ReportFixedCardSaid : Prop := Claim7.holds Tryd.pinned (.plain (OpenSpec.ofChange reportFixedSpec)) reportFixedCard

/-- THE TIED CARD OF 'dragnetlaw26.ReportKnown'. -/
def reportKnownCard : Claim7 := { stood := { row := reportKnownRow, standIns := [], harness := (true, "1071bc5dd8163092dea9b56b7c6798fb795f899f114727d5df8fb6dc730c7e98"), looks := false }, kinds := [], alts := [], laidByText := true, laidKinds := [.data, .data, .data], laidTests := true, laidLooks := .later }
def ReportKnownCardSaid : Prop := Claim7.holds Tryd.pinned (.plain (OpenSpec.ofChange reportKnownSpec)) reportKnownCard

/-- THE SECOND FORM's CARD OF 'dragnetlaw26.ReportChecks'. -/
def reportChecksUptoCard : Claim7 := { stood := { row := reportChecksUptoRow, standIns := [], harness := (true, "1071bc5dd8163092dea9b56b7c6798fb795f899f114727d5df8fb6dc730c7e98"), looks := false }, kinds := [], alts := [], laidByText := true, laidKinds := [.data, .data, .data], laidTests := true, laidLooks := .later }
def ReportChecksUptoCardSaid : Prop := Claim7.holds Tryd.pinned (.plain (OpenSpec.upto reportChecksSpec)) reportChecksUptoCard

/-- THE SECOND FORM's CARD OF 'dragnetlaw26.ReportMakes'. -/
def reportMakesUptoCard : Claim7 := { stood := { row := reportMakesUptoRow, standIns := [], harness := (true, "1071bc5dd8163092dea9b56b7c6798fb795f899f114727d5df8fb6dc730c7e98"), looks := false }, kinds := [], alts := [], laidByText := true, laidKinds := [.data, .data, .data], laidTests := true, laidLooks := .later }
def ReportMakesUptoCardSaid : Prop := Claim7.holds Tryd.pinned (.plain (OpenSpec.upto reportMakesSpec)) reportMakesUptoCard

/-- THE SECOND FORM's CARD OF 'dragnetlaw26.ReportCuts'. -/
def reportCutsUptoCard : Claim7 := { stood := { row := reportCutsUptoRow, standIns := [], harness := (true, "1071bc5dd8163092dea9b56b7c6798fb795f899f114727d5df8fb6dc730c7e98"), looks := false }, kinds := [], alts := [], laidByText := true, laidKinds := [.data, .data, .data], laidTests := true, laidLooks := .later }
def ReportCutsUptoCardSaid : Prop := Claim7.holds Tryd.pinned (.plain (OpenSpec.upto reportCutsSpec)) reportCutsUptoCard

/-- THE SECOND FORM's CARD OF 'dragnetlaw26.ReportBytes'. -/
def reportBytesUptoCard : Claim7 := { stood := { row := reportBytesUptoRow, standIns := [], harness := (true, "1071bc5dd8163092dea9b56b7c6798fb795f899f114727d5df8fb6dc730c7e98"), looks := false }, kinds := [], alts := [], laidByText := true, laidKinds := [.data, .data, .data], laidTests := true, laidLooks := .later }
def ReportBytesUptoCardSaid : Prop := Claim7.holds Tryd.pinned (.plain (OpenSpec.upto reportBytesSpec)) reportBytesUptoCard

/-- THE SECOND FORM's CARD OF 'dragnetlaw26.ReportFixed'. -/
def reportFixedUptoCard : Claim7 := { stood := { row := reportFixedUptoRow, standIns := [], harness := (true, "1071bc5dd8163092dea9b56b7c6798fb795f899f114727d5df8fb6dc730c7e98"), looks := false }, kinds := [], alts := [], laidByText := true, laidKinds := [.data, .data, .data], laidTests := true, laidLooks := .later }
def ReportFixedUptoCardSaid : Prop := Claim7.holds Tryd.pinned (.plain (OpenSpec.upto reportFixedSpec)) reportFixedUptoCard

/-- THE SECOND FORM's CARD OF 'dragnetlaw26.ReportKnown'. -/
def reportKnownUptoCard : Claim7 := { stood := { row := reportKnownUptoRow, standIns := [], harness := (true, "1071bc5dd8163092dea9b56b7c6798fb795f899f114727d5df8fb6dc730c7e98"), looks := false }, kinds := [], alts := [], laidByText := true, laidKinds := [.data, .data, .data], laidTests := true, laidLooks := .later }
def ReportKnownUptoCardSaid : Prop := Claim7.holds Tryd.pinned (.plain (OpenSpec.upto reportKnownSpec)) reportKnownUptoCard
end Rows
end Go.Proofs.YtokcbdaoofjbgaaDoor
