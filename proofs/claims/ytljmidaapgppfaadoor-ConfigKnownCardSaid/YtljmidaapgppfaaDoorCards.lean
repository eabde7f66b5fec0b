/-
  DERIVED. GIVEN WITH THE SEED: THE CARDS: each row of YtljmidaapgppfaaDoorRows.lean that lists a variable, with what it lists TIED to the program's text (the seventh form; the later family's looks); each row that meets fmt, with fmt's text TOLD by the authors' own Lean function (tested against real Go, not proved from fmt's source: count such statements apart). THE CARD IS WHAT COUNTS. Prove the row's statement (the work); the ties are given (YtljmidaapgppfaaDoorTie.lean); close each card by the builder's one call (the guide's Derived/Test/ToyasCard.lean, 'card_holds'). Laid BY PROGRAM, IN A SANDBOX (cutbox-door.mjs). By AI agents, Wed Nov 11 2026. No macro, syntax, notation, axiom, sorry.
-/
import Derived.Test.YtljmidaapgppfaaDoorRows
import GoSem.ClaimSeven
namespace Go.Proofs.YtljmidaapgppfaaDoor
namespace Rows

/-- THE TIED CARD OF 'dragnetlaw28.ConfigTexts'. -/
def configTextsCard : Claim7 := { stood := { row := configTextsRow, standIns := [], harness := (true, "948f6c5aeb7b58b9008ff7e78eaa1294efa49738c6970c877fc1430c2c701aca"), looks := true }, kinds := [], alts := [], laidByText := true, laidKinds := [.data, .data, .data, .data, .sentinel, .sentinel, .pinned], laidTests := true, laidLooks := .later }
def ConfigTextsCardSaid : Prop := Claim7.holds Tryd.pinned (.plain (OpenSpec.ofChange configTextsSpec)) configTextsCard

/-- THE TIED CARD OF 'dragnetlaw28.ConfigKnown'. -/
def configKnownCard : Claim7 := { stood := { row := configKnownRow, standIns := [], harness := (true, "948f6c5aeb7b58b9008ff7e78eaa1294efa49738c6970c877fc1430c2c701aca"), looks := true }, kinds := [], alts := [], laidByText := true, laidKinds := [.data, .data, .data, .data, .sentinel, .sentinel, .pinned], laidTests := true, laidLooks := .later }
def ConfigKnownCardSaid : Prop := Claim7.holds Tryd.pinned (.plain (OpenSpec.ofChange configKnownSpec)) configKnownCard

/-- THE SECOND FORM's CARD OF 'dragnetlaw28.ConfigTexts'. -/
def configTextsUptoCard : Claim7 := { stood := { row := configTextsUptoRow, standIns := [], harness := (true, "948f6c5aeb7b58b9008ff7e78eaa1294efa49738c6970c877fc1430c2c701aca"), looks := true }, kinds := [], alts := [], laidByText := true, laidKinds := [.data, .data, .data, .data, .sentinel, .sentinel, .pinned], laidTests := true, laidLooks := .later }
def ConfigTextsUptoCardSaid : Prop := Claim7.holds Tryd.pinned (.plain (OpenSpec.upto configTextsSpec)) configTextsUptoCard

/-- THE SECOND FORM's CARD OF 'dragnetlaw28.ConfigKnown'. -/
def configKnownUptoCard : Claim7 := { stood := { row := configKnownUptoRow, standIns := [], harness := (true, "948f6c5aeb7b58b9008ff7e78eaa1294efa49738c6970c877fc1430c2c701aca"), looks := true }, kinds := [], alts := [], laidByText := true, laidKinds := [.data, .data, .data, .data, .sentinel, .sentinel, .pinned], laidTests := true, laidLooks := .later }
def ConfigKnownUptoCardSaid : Prop := Claim7.holds Tryd.pinned (.plain (OpenSpec.upto configKnownSpec)) configKnownUptoCard
end Rows
end Go.Proofs.YtljmidaapgppfaaDoor
