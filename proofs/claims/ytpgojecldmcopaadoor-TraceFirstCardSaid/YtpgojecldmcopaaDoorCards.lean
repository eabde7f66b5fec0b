/-
  DERIVED. GIVEN WITH THE SEED: THE CARDS: each row of YtpgojecldmcopaaDoorRows.lean that lists a variable, with what it lists TIED to the program's text (the seventh form; the later family's looks); each row that meets fmt, with fmt's text TOLD by the authors' own Lean function (tested against real Go, not proved from fmt's source: count such statements apart). THE CARD IS WHAT COUNTS. Prove the row's statement (the work); the ties are given (YtpgojecldmcopaaDoorTie.lean); close each card by the builder's one call (the guide's Derived/Test/ToyasCard.lean, 'card_holds'). Laid BY PROGRAM, IN A SANDBOX (cutbox-door.mjs). By AI agents, Wed Nov 11 2026. No macro, syntax, notation, axiom, sorry.
-/
import Derived.Test.YtpgojecldmcopaaDoorRows
import GoSem.ClaimSeven
namespace Go.Proofs.YtpgojecldmcopaaDoor
namespace Rows

/-- THE TIED CARD OF 'dragnetlaw06.TraceFirst'. -/
def traceFirstCard : Claim7 := { stood := { row := traceFirstRow, standIns := [], harness := (true, "ba7f30c943dda614a61ae4b9e28ef1869ea9721facde053cf3819c39883d425f"), looks := false }, kinds := [], alts := [], laidByText := true, laidKinds := [.data, .data, .data], laidTests := true, laidLooks := .later }
def TraceFirstCardSaid : Prop := Claim7.holds Tryd.pinned (.plain (OpenSpec.ofChange traceFirstSpec)) traceFirstCard

/-- THE SECOND FORM's CARD OF 'dragnetlaw06.TraceFirst'. -/
def traceFirstUptoCard : Claim7 := { stood := { row := traceFirstUptoRow, standIns := [], harness := (true, "ba7f30c943dda614a61ae4b9e28ef1869ea9721facde053cf3819c39883d425f"), looks := false }, kinds := [], alts := [], laidByText := true, laidKinds := [.data, .data, .data], laidTests := true, laidLooks := .later }
def TraceFirstUptoCardSaid : Prop := Claim7.holds Tryd.pinned (.plain (OpenSpec.upto traceFirstSpec)) traceFirstUptoCard
end Rows
end Go.Proofs.YtpgojecldmcopaaDoor
