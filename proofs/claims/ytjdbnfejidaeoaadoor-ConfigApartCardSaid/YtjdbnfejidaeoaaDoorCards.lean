/-
  DERIVED. GIVEN WITH THE SEED: THE CARDS: each row of YtjdbnfejidaeoaaDoorRows.lean that lists a variable, with what it lists TIED to the program's text (the seventh form; the later family's looks); each row that meets fmt, with fmt's text TOLD by the authors' own Lean function (tested against real Go, not proved from fmt's source: count such statements apart). THE CARD IS WHAT COUNTS. Prove the row's statement (the work); the ties are given (YtjdbnfejidaeoaaDoorTie.lean); close each card by the builder's one call (the guide's Derived/Test/ToyasCard.lean, 'card_holds'). Laid BY PROGRAM, IN A SANDBOX (cutbox-door.mjs). By AI agents, Wed Nov 11 2026. No macro, syntax, notation, axiom, sorry.
-/
import Derived.Test.YtjdbnfejidaeoaaDoorRows
import GoSem.ClaimSeven
namespace Go.Proofs.YtjdbnfejidaeoaaDoor
namespace Rows

/-- THE TIED CARD OF 'dragnetlaw28.ConfigLayouts'. -/
def configLayoutsCard : Claim7 := { stood := { row := configLayoutsRow, standIns := [], harness := (true, "0a4a870d5cbb8ef319bf046d4d08a2ca7daa0146a50575db94c5ce8452cce58a"), looks := true }, kinds := [], alts := [], laidByText := true, laidKinds := [.data, .data, .data], laidTests := true, laidLooks := .later }
def ConfigLayoutsCardSaid : Prop := Claim7.holds Tryd.pinned (.plain (OpenSpec.ofChange configLayoutsSpec)) configLayoutsCard

/-- THE TIED CARD OF 'dragnetlaw28.ConfigCells'. -/
def configCellsCard : Claim7 := { stood := { row := configCellsRow, standIns := [], harness := (true, "0a4a870d5cbb8ef319bf046d4d08a2ca7daa0146a50575db94c5ce8452cce58a"), looks := true }, kinds := [], alts := [], laidByText := true, laidKinds := [.data, .data, .data], laidTests := true, laidLooks := .later }
def ConfigCellsCardSaid : Prop := Claim7.holds Tryd.pinned (.plain (OpenSpec.ofChange configCellsSpec)) configCellsCard

/-- THE TIED CARD OF 'dragnetlaw28.ConfigApart'. -/
def configApartCard : Claim7 := { stood := { row := configApartRow, standIns := [], harness := (true, "0a4a870d5cbb8ef319bf046d4d08a2ca7daa0146a50575db94c5ce8452cce58a"), looks := true }, kinds := [], alts := [], laidByText := true, laidKinds := [.data, .data, .data], laidTests := true, laidLooks := .later }
def ConfigApartCardSaid : Prop := Claim7.holds Tryd.pinned (.plain (OpenSpec.ofChange configApartSpec)) configApartCard

/-- THE TIED CARD OF 'dragnetlaw28.ConfigGrows'. -/
def configGrowsCard : Claim7 := { stood := { row := configGrowsRow, standIns := [], harness := (true, "0a4a870d5cbb8ef319bf046d4d08a2ca7daa0146a50575db94c5ce8452cce58a"), looks := true }, kinds := [], alts := [], laidByText := true, laidKinds := [.data, .data, .data], laidTests := true, laidLooks := .later }
def ConfigGrowsCardSaid : Prop := Claim7.holds Tryd.pinned (.plain (OpenSpec.ofChange configGrowsSpec)) configGrowsCard

/-- THE TIED CARD OF 'dragnetlaw28.ConfigChecks'. -/
def configChecksCard : Claim7 := { stood := { row := configChecksRow, standIns := [], harness := (true, "0a4a870d5cbb8ef319bf046d4d08a2ca7daa0146a50575db94c5ce8452cce58a"), looks := true }, kinds := [], alts := [], laidByText := true, laidKinds := [.data, .data, .data], laidTests := true, laidLooks := .later }
def ConfigChecksCardSaid : Prop := Claim7.holds Tryd.pinned (.plain (OpenSpec.ofChange configChecksSpec)) configChecksCard

/-- THE TIED CARD OF 'dragnetlaw28.ConfigArena'. -/
def configArenaCard : Claim7 := { stood := { row := configArenaRow, standIns := [], harness := (true, "0a4a870d5cbb8ef319bf046d4d08a2ca7daa0146a50575db94c5ce8452cce58a"), looks := true }, kinds := [], alts := [], laidByText := true, laidKinds := [.data, .data, .data, .data, .pinned], laidTests := true, laidLooks := .later }
def ConfigArenaCardSaid : Prop := Claim7.holds Tryd.pinned (.plain (OpenSpec.ofChange configArenaSpec)) configArenaCard

/-- THE TIED CARD OF 'dragnetlaw28.ConfigTexts'. -/
def configTextsCard : Claim7 := { stood := { row := configTextsRow, standIns := [], harness := (true, "0a4a870d5cbb8ef319bf046d4d08a2ca7daa0146a50575db94c5ce8452cce58a"), looks := true }, kinds := [], alts := [], laidByText := true, laidKinds := [.data, .data, .data, .data, .sentinel, .sentinel, .pinned], laidTests := true, laidLooks := .later }
def ConfigTextsCardSaid : Prop := Claim7.holds Tryd.pinned (.plain (OpenSpec.ofChange configTextsSpec)) configTextsCard

/-- THE TIED CARD OF 'dragnetlaw28.ConfigKnown'. -/
def configKnownCard : Claim7 := { stood := { row := configKnownRow, standIns := [], harness := (true, "0a4a870d5cbb8ef319bf046d4d08a2ca7daa0146a50575db94c5ce8452cce58a"), looks := true }, kinds := [], alts := [], laidByText := true, laidKinds := [.data, .data, .data, .data, .sentinel, .sentinel, .pinned], laidTests := true, laidLooks := .later }
def ConfigKnownCardSaid : Prop := Claim7.holds Tryd.pinned (.plain (OpenSpec.ofChange configKnownSpec)) configKnownCard

/-- THE SECOND FORM's CARD OF 'dragnetlaw28.ConfigLayouts'. -/
def configLayoutsUptoCard : Claim7 := { stood := { row := configLayoutsUptoRow, standIns := [], harness := (true, "0a4a870d5cbb8ef319bf046d4d08a2ca7daa0146a50575db94c5ce8452cce58a"), looks := true }, kinds := [], alts := [], laidByText := true, laidKinds := [.data, .data, .data], laidTests := true, laidLooks := .later }
def ConfigLayoutsUptoCardSaid : Prop := Claim7.holds Tryd.pinned (.plain (OpenSpec.upto configLayoutsSpec)) configLayoutsUptoCard

/-- THE SECOND FORM's CARD OF 'dragnetlaw28.ConfigCells'. -/
def configCellsUptoCard : Claim7 := { stood := { row := configCellsUptoRow, standIns := [], harness := (true, "0a4a870d5cbb8ef319bf046d4d08a2ca7daa0146a50575db94c5ce8452cce58a"), looks := true }, kinds := [], alts := [], laidByText := true, laidKinds := [.data, .data, .data], laidTests := true, laidLooks := .later }
def ConfigCellsUptoCardSaid : Prop := Claim7.holds Tryd.pinned (.plain (OpenSpec.upto configCellsSpec)) configCellsUptoCard

/-- THE SECOND FORM's CARD OF 'dragnetlaw28.ConfigApart'. -/
def configApartUptoCard : Claim7 := { stood := { row := configApartUptoRow, standIns := [], harness := (true, "0a4a870d5cbb8ef319bf046d4d08a2ca7daa0146a50575db94c5ce8452cce58a"), looks := true }, kinds := [], alts := [], laidByText := true, laidKinds := [.data, .data, .data], laidTests := true, laidLooks := .later }
def ConfigApartUptoCardSaid : Prop := Claim7.holds Tryd.pinned (.plain (OpenSpec.upto configApartSpec)) configApartUptoCard

/-- THE SECOND FORM's CARD OF 'dragnetlaw28.ConfigGrows'. -/
def configGrowsUptoCard : Claim7 := { stood := { row := configGrowsUptoRow, standIns := [], harness := (true, "0a4a870d5cbb8ef319bf046d4d08a2ca7daa0146a50575db94c5ce8452cce58a"), looks := true }, kinds := [], alts := [], laidByText := true, laidKinds := [.data, .data, .data], laidTests := true, laidLooks := .later }
def ConfigGrowsUptoCardSaid : Prop := Claim7.holds Tryd.pinned (.plain (OpenSpec.upto configGrowsSpec)) configGrowsUptoCard

/-- THE SECOND FORM's CARD OF 'dragnetlaw28.ConfigChecks'. -/
def configChecksUptoCard : Claim7 := { stood := { row := configChecksUptoRow, standIns := [], harness := (true, "0a4a870d5cbb8ef319bf046d4d08a2ca7daa0146a50575db94c5ce8452cce58a"), looks := true }, kinds := [], alts := [], laidByText := true, laidKinds := [.data, .data, .data], laidTests := true, laidLooks := .later }
def ConfigChecksUptoCardSaid : Prop := Claim7.holds Tryd.pinned (.plain (OpenSpec.upto configChecksSpec)) configChecksUptoCard

/-- THE SECOND FORM's CARD OF 'dragnetlaw28.ConfigArena'. -/
def configArenaUptoCard : Claim7 := { stood := { row := configArenaUptoRow, standIns := [], harness := (true, "0a4a870d5cbb8ef319bf046d4d08a2ca7daa0146a50575db94c5ce8452cce58a"), looks := true }, kinds := [], alts := [], laidByText := true, laidKinds := [.data, .data, .data, .data, .pinned], laidTests := true, laidLooks := .later }
def ConfigArenaUptoCardSaid : Prop := Claim7.holds Tryd.pinned (.plain (OpenSpec.upto configArenaSpec)) configArenaUptoCard

/-- THE SECOND FORM's CARD OF 'dragnetlaw28.ConfigTexts'. -/
def configTextsUptoCard : Claim7 := { stood := { row := configTextsUptoRow, standIns := [], harness := (true, "0a4a870d5cbb8ef319bf046d4d08a2ca7daa0146a50575db94c5ce8452cce58a"), looks := true }, kinds := [], alts := [], laidByText := true, laidKinds := [.data, .data, .data, .data, .sentinel, .sentinel, .pinned], laidTests := true, laidLooks := .later }
def ConfigTextsUptoCardSaid : Prop := Claim7.holds Tryd.pinned (.plain (OpenSpec.upto configTextsSpec)) configTextsUptoCard

/-- THE SECOND FORM's CARD OF 'dragnetlaw28.ConfigKnown'. -/
def configKnownUptoCard : Claim7 := { stood := { row := configKnownUptoRow, standIns := [], harness := (true, "0a4a870d5cbb8ef319bf046d4d08a2ca7daa0146a50575db94c5ce8452cce58a"), looks := true }, kinds := [], alts := [], laidByText := true, laidKinds := [.data, .data, .data, .data, .sentinel, .sentinel, .pinned], laidTests := true, laidLooks := .later }
def ConfigKnownUptoCardSaid : Prop := Claim7.holds Tryd.pinned (.plain (OpenSpec.upto configKnownSpec)) configKnownUptoCard
end Rows
end Go.Proofs.YtjdbnfejidaeoaaDoor
