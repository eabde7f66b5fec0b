/-
  DERIVED. GIVEN WITH THE SEED: THE CARDS: each row of YtjccijmnbihpoaaDoorRows.lean that lists a variable, with what it lists TIED to the program's text (the seventh form; the later family's looks); each row that meets fmt, with fmt's text TOLD by the authors' own Lean function (tested against real Go, not proved from fmt's source: count such statements apart). THE CARD IS WHAT COUNTS. Prove the row's statement (the work); the ties are given (YtjccijmnbihpoaaDoorTie.lean); close each card by the builder's one call (the guide's Derived/Test/ToyasCard.lean, 'card_holds'). Laid BY PROGRAM, IN A SANDBOX (cutbox-door.mjs). By AI agents, Wed Nov 11 2026. No macro, syntax, notation, axiom, sorry.
-/
import Derived.Test.YtjccijmnbihpoaaDoorRows
import GoSem.ClaimSeven
namespace Go.Proofs.YtjccijmnbihpoaaDoor
namespace Rows

/-- THE TIED CARD OF 'dragnetlaw06.TraceDiffers'. -/
def traceDiffersCard : Claim7 := { stood := { row := traceDiffersRow, standIns := [], harness := (true, "c8dbac9d03c787dd2ddfce4e556e2ee60da39dfc10698917ba11aae39bedfb36"), looks := false }, kinds := [], alts := [], laidByText := true, laidKinds := [.data, .data, .data], laidTests := true, laidLooks := .later }
def TraceDiffersCardSaid : Prop := Claim7.holds Tryd.pinned (.plain (OpenSpec.ofChange traceDiffersSpec)) traceDiffersCard

/-- THE TIED CARD OF 'dragnetlaw06.TraceParts'. -/
def tracePartsCard : Claim7 := { stood := { row := tracePartsRow, standIns := [], harness := (true, "c8dbac9d03c787dd2ddfce4e556e2ee60da39dfc10698917ba11aae39bedfb36"), looks := false }, kinds := [], alts := [], laidByText := true, laidKinds := [.data, .data, .data], laidTests := true, laidLooks := .later }
def TracePartsCardSaid : Prop := Claim7.holds Tryd.pinned (.plain (OpenSpec.ofChange tracePartsSpec)) tracePartsCard

/-- THE TIED CARD OF 'dragnetlaw06.TraceFirst'. -/
def traceFirstCard : Claim7 := { stood := { row := traceFirstRow, standIns := [], harness := (true, "c8dbac9d03c787dd2ddfce4e556e2ee60da39dfc10698917ba11aae39bedfb36"), looks := false }, kinds := [], alts := [], laidByText := true, laidKinds := [.data, .data, .data], laidTests := true, laidLooks := .later }
def TraceFirstCardSaid : Prop := Claim7.holds Tryd.pinned (.plain (OpenSpec.ofChange traceFirstSpec)) traceFirstCard

/-- THE TIED CARD OF 'dragnetlaw06.TraceChecks'. -/
def traceChecksCard : Claim7 := { stood := { row := traceChecksRow, standIns := [], harness := (true, "c8dbac9d03c787dd2ddfce4e556e2ee60da39dfc10698917ba11aae39bedfb36"), looks := false }, kinds := [], alts := [], laidByText := true, laidKinds := [.data, .data, .data], laidTests := true, laidLooks := .later }
def TraceChecksCardSaid : Prop := Claim7.holds Tryd.pinned (.plain (OpenSpec.ofChange traceChecksSpec)) traceChecksCard

/-- THE TIED CARD OF 'dragnetlaw06.TraceSums'. -/
def traceSumsCard : Claim7 := { stood := { row := traceSumsRow, standIns := [], harness := (true, "c8dbac9d03c787dd2ddfce4e556e2ee60da39dfc10698917ba11aae39bedfb36"), looks := false }, kinds := [], alts := [], laidByText := true, laidKinds := [.data, .data, .data], laidTests := true, laidLooks := .later }
def TraceSumsCardSaid : Prop := Claim7.holds Tryd.pinned (.plain (OpenSpec.ofChange traceSumsSpec)) traceSumsCard

/-- THE SECOND FORM's CARD OF 'dragnetlaw06.TraceDiffers'. -/
def traceDiffersUptoCard : Claim7 := { stood := { row := traceDiffersUptoRow, standIns := [], harness := (true, "c8dbac9d03c787dd2ddfce4e556e2ee60da39dfc10698917ba11aae39bedfb36"), looks := false }, kinds := [], alts := [], laidByText := true, laidKinds := [.data, .data, .data], laidTests := true, laidLooks := .later }
def TraceDiffersUptoCardSaid : Prop := Claim7.holds Tryd.pinned (.plain (OpenSpec.upto traceDiffersSpec)) traceDiffersUptoCard

/-- THE SECOND FORM's CARD OF 'dragnetlaw06.TraceParts'. -/
def tracePartsUptoCard : Claim7 := { stood := { row := tracePartsUptoRow, standIns := [], harness := (true, "c8dbac9d03c787dd2ddfce4e556e2ee60da39dfc10698917ba11aae39bedfb36"), looks := false }, kinds := [], alts := [], laidByText := true, laidKinds := [.data, .data, .data], laidTests := true, laidLooks := .later }
def TracePartsUptoCardSaid : Prop := Claim7.holds Tryd.pinned (.plain (OpenSpec.upto tracePartsSpec)) tracePartsUptoCard

/-- THE SECOND FORM's CARD OF 'dragnetlaw06.TraceFirst'. -/
def traceFirstUptoCard : Claim7 := { stood := { row := traceFirstUptoRow, standIns := [], harness := (true, "c8dbac9d03c787dd2ddfce4e556e2ee60da39dfc10698917ba11aae39bedfb36"), looks := false }, kinds := [], alts := [], laidByText := true, laidKinds := [.data, .data, .data], laidTests := true, laidLooks := .later }
def TraceFirstUptoCardSaid : Prop := Claim7.holds Tryd.pinned (.plain (OpenSpec.upto traceFirstSpec)) traceFirstUptoCard

/-- THE SECOND FORM's CARD OF 'dragnetlaw06.TraceChecks'. -/
def traceChecksUptoCard : Claim7 := { stood := { row := traceChecksUptoRow, standIns := [], harness := (true, "c8dbac9d03c787dd2ddfce4e556e2ee60da39dfc10698917ba11aae39bedfb36"), looks := false }, kinds := [], alts := [], laidByText := true, laidKinds := [.data, .data, .data], laidTests := true, laidLooks := .later }
def TraceChecksUptoCardSaid : Prop := Claim7.holds Tryd.pinned (.plain (OpenSpec.upto traceChecksSpec)) traceChecksUptoCard

/-- THE SECOND FORM's CARD OF 'dragnetlaw06.TraceSums'. -/
def traceSumsUptoCard : Claim7 := { stood := { row := traceSumsUptoRow, standIns := [], harness := (true, "c8dbac9d03c787dd2ddfce4e556e2ee60da39dfc10698917ba11aae39bedfb36"), looks := false }, kinds := [], alts := [], laidByText := true, laidKinds := [.data, .data, .data], laidTests := true, laidLooks := .later }
def TraceSumsUptoCardSaid : Prop := Claim7.holds Tryd.pinned (.plain (OpenSpec.upto traceSumsSpec)) traceSumsUptoCard
end Rows
end Go.Proofs.YtjccijmnbihpoaaDoor
