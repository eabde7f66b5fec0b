/-
  DERIVED. GIVEN WITH THE SEED: THE CARDS: each row of YtmpdgckccgbdnaaDoorRows.lean that lists a variable, with what it lists TIED to the program's text (the seventh form; the later family's looks); each row that meets fmt, with fmt's text TOLD by the authors' own Lean function (tested against real Go, not proved from fmt's source: count such statements apart). THE CARD IS WHAT COUNTS. Prove the row's statement (the work); the ties are given (YtmpdgckccgbdnaaDoorTie.lean); close each card by the builder's one call (the guide's Derived/Test/ToyasCard.lean, 'card_holds'). Laid BY PROGRAM, IN A SANDBOX (cutbox-door.mjs). By AI agents, Wed Nov 11 2026. No macro, syntax, notation, axiom, sorry.
-/
import Derived.Test.YtmpdgckccgbdnaaDoorRows
import GoSem.ClaimSeven
namespace Go.Proofs.YtmpdgckccgbdnaaDoor
namespace Rows

/-- THE TIED CARD OF 'dragnetlaw28.ConfigArena'. -/
def configArenaCard : Claim7 := { stood := { row := configArenaRow, standIns := [], harness := (true, "45d94a680747a369abfcf73b5288ae585e335cedee5db6b25454287f959a17a2"), looks := false }, kinds := [], alts := [], laidByText := true, laidKinds := [.data, .data, .data, .data, .pinned], laidTests := true, laidLooks := .later }
def ConfigArenaCardSaid : Prop := Claim7.holds Tryd.pinned (.plain (OpenSpec.ofChange configArenaSpec)) configArenaCard

/-- THE SECOND FORM's CARD OF 'dragnetlaw28.ConfigArena'. -/
def configArenaUptoCard : Claim7 := { stood := { row := configArenaUptoRow, standIns := [], harness := (true, "45d94a680747a369abfcf73b5288ae585e335cedee5db6b25454287f959a17a2"), looks := false }, kinds := [], alts := [], laidByText := true, laidKinds := [.data, .data, .data, .data, .pinned], laidTests := true, laidLooks := .later }
def ConfigArenaUptoCardSaid : Prop := Claim7.holds Tryd.pinned (.plain (OpenSpec.upto configArenaSpec)) configArenaUptoCard
end Rows
end Go.Proofs.YtmpdgckccgbdnaaDoor
