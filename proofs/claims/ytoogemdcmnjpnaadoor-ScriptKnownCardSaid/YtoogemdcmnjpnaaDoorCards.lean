/-
  DERIVED. GIVEN WITH THE SEED: THE CARDS: each row of YtoogemdcmnjpnaaDoorRows.lean that lists a variable, with what it lists TIED to the program's text (the seventh form; the later family's looks); each row that meets fmt, with fmt's text TOLD by the authors' own Lean function (tested against real Go, not proved from fmt's source: count such statements apart). THE CARD IS WHAT COUNTS. Prove the row's statement (the work); the ties are given (YtoogemdcmnjpnaaDoorTie.lean); close each card by the builder's one call (the guide's Derived/Test/ToyasCard.lean, 'card_holds'). Laid BY PROGRAM, IN A SANDBOX (cutbox-door.mjs). By AI agents, Wed Nov 11 2026. No macro, syntax, notation, axiom, sorry.
-/
import Derived.Test.YtoogemdcmnjpnaaDoorRows
import GoSem.ClaimSeven
namespace Go.Proofs.YtoogemdcmnjpnaaDoor
namespace Rows

/-- THE TIED CARD OF 'dragnetlaw32.ScriptMasks'. -/
def scriptMasksCard : Claim7 := { stood := { row := scriptMasksRow, standIns := [], harness := (true, "689c32772bd14cadaa25bad00859d395592b9995d858293b328f77bb3753c587"), looks := false }, kinds := [], alts := [], laidByText := true, laidKinds := [.data], laidTests := true, laidLooks := .later }
def ScriptMasksCardSaid : Prop := Claim7.holds Tryd.pinned (.plain (OpenSpec.ofChange scriptMasksSpec)) scriptMasksCard

/-- THE TIED CARD OF 'dragnetlaw32.ScriptShapes'. -/
def scriptShapesCard : Claim7 := { stood := { row := scriptShapesRow, standIns := [], harness := (true, "689c32772bd14cadaa25bad00859d395592b9995d858293b328f77bb3753c587"), looks := false }, kinds := [], alts := [], laidByText := true, laidKinds := [.data], laidTests := true, laidLooks := .later }
def ScriptShapesCardSaid : Prop := Claim7.holds Tryd.pinned (.plain (OpenSpec.ofChange scriptShapesSpec)) scriptShapesCard

/-- THE TIED CARD OF 'dragnetlaw32.ScriptPublic'. -/
def scriptPublicCard : Claim7 := { stood := { row := scriptPublicRow, standIns := [], harness := (true, "689c32772bd14cadaa25bad00859d395592b9995d858293b328f77bb3753c587"), looks := false }, kinds := [], alts := [], laidByText := true, laidKinds := [.data], laidTests := true, laidLooks := .later }
def ScriptPublicCardSaid : Prop := Claim7.holds Tryd.pinned (.plain (OpenSpec.ofChange scriptPublicSpec)) scriptPublicCard

/-- THE TIED CARD OF 'dragnetlaw32.ScriptCuts'. -/
def scriptCutsCard : Claim7 := { stood := { row := scriptCutsRow, standIns := [], harness := (true, "689c32772bd14cadaa25bad00859d395592b9995d858293b328f77bb3753c587"), looks := false }, kinds := [], alts := [], laidByText := true, laidKinds := [.data], laidTests := true, laidLooks := .later }
def ScriptCutsCardSaid : Prop := Claim7.holds Tryd.pinned (.plain (OpenSpec.ofChange scriptCutsSpec)) scriptCutsCard

/-- THE TIED CARD OF 'dragnetlaw32.ScriptStreams'. -/
def scriptStreamsCard : Claim7 := { stood := { row := scriptStreamsRow, standIns := [], harness := (true, "689c32772bd14cadaa25bad00859d395592b9995d858293b328f77bb3753c587"), looks := false }, kinds := [], alts := [], laidByText := true, laidKinds := [.data], laidTests := true, laidLooks := .later }
def ScriptStreamsCardSaid : Prop := Claim7.holds Tryd.pinned (.plain (OpenSpec.ofChange scriptStreamsSpec)) scriptStreamsCard

/-- THE TIED CARD OF 'dragnetlaw32.ScriptJoins'. -/
def scriptJoinsCard : Claim7 := { stood := { row := scriptJoinsRow, standIns := [], harness := (true, "689c32772bd14cadaa25bad00859d395592b9995d858293b328f77bb3753c587"), looks := false }, kinds := [], alts := [], laidByText := true, laidKinds := [.data], laidTests := true, laidLooks := .later }
def ScriptJoinsCardSaid : Prop := Claim7.holds Tryd.pinned (.plain (OpenSpec.ofChange scriptJoinsSpec)) scriptJoinsCard

/-- THE TIED CARD OF 'dragnetlaw32.ScriptTexts'. -/
def scriptTextsCard : Claim7 := { stood := { row := scriptTextsRow, standIns := [], harness := (true, "689c32772bd14cadaa25bad00859d395592b9995d858293b328f77bb3753c587"), looks := false }, kinds := [], alts := [], laidByText := true, laidKinds := [.data, .data, .pinned], laidTests := true, laidLooks := .later }
def ScriptTextsCardSaid : Prop := Claim7.holds Tryd.pinned (.plain (OpenSpec.ofChange scriptTextsSpec)) scriptTextsCard

/-- THE TIED CARD OF 'dragnetlaw32.ScriptBack'. -/
def scriptBackCard : Claim7 := { stood := { row := scriptBackRow, standIns := [], harness := (true, "689c32772bd14cadaa25bad00859d395592b9995d858293b328f77bb3753c587"), looks := false }, kinds := [], alts := [], laidByText := true, laidKinds := [.data, .data, .pinned], laidTests := true, laidLooks := .later }
def ScriptBackCardSaid : Prop := Claim7.holds Tryd.pinned (.plain (OpenSpec.ofChange scriptBackSpec)) scriptBackCard

/-- THE TIED CARD OF 'dragnetlaw32.ScriptKnown'. -/
def scriptKnownCard : Claim7 := { stood := { row := scriptKnownRow, standIns := [], harness := (true, "689c32772bd14cadaa25bad00859d395592b9995d858293b328f77bb3753c587"), looks := false }, kinds := [], alts := [], laidByText := true, laidKinds := [.data, .data, .pinned], laidTests := true, laidLooks := .later }
def ScriptKnownCardSaid : Prop := Claim7.holds Tryd.pinned (.plain (OpenSpec.ofChange scriptKnownSpec)) scriptKnownCard

/-- THE SECOND FORM's CARD OF 'dragnetlaw32.ScriptMasks'. -/
def scriptMasksUptoCard : Claim7 := { stood := { row := scriptMasksUptoRow, standIns := [], harness := (true, "689c32772bd14cadaa25bad00859d395592b9995d858293b328f77bb3753c587"), looks := false }, kinds := [], alts := [], laidByText := true, laidKinds := [.data], laidTests := true, laidLooks := .later }
def ScriptMasksUptoCardSaid : Prop := Claim7.holds Tryd.pinned (.plain (OpenSpec.upto scriptMasksSpec)) scriptMasksUptoCard

/-- THE SECOND FORM's CARD OF 'dragnetlaw32.ScriptShapes'. -/
def scriptShapesUptoCard : Claim7 := { stood := { row := scriptShapesUptoRow, standIns := [], harness := (true, "689c32772bd14cadaa25bad00859d395592b9995d858293b328f77bb3753c587"), looks := false }, kinds := [], alts := [], laidByText := true, laidKinds := [.data], laidTests := true, laidLooks := .later }
def ScriptShapesUptoCardSaid : Prop := Claim7.holds Tryd.pinned (.plain (OpenSpec.upto scriptShapesSpec)) scriptShapesUptoCard

/-- THE SECOND FORM's CARD OF 'dragnetlaw32.ScriptPublic'. -/
def scriptPublicUptoCard : Claim7 := { stood := { row := scriptPublicUptoRow, standIns := [], harness := (true, "689c32772bd14cadaa25bad00859d395592b9995d858293b328f77bb3753c587"), looks := false }, kinds := [], alts := [], laidByText := true, laidKinds := [.data], laidTests := true, laidLooks := .later }
def ScriptPublicUptoCardSaid : Prop := Claim7.holds Tryd.pinned (.plain (OpenSpec.upto scriptPublicSpec)) scriptPublicUptoCard

/-- THE SECOND FORM's CARD OF 'dragnetlaw32.ScriptCuts'. -/
def scriptCutsUptoCard : Claim7 := { stood := { row := scriptCutsUptoRow, standIns := [], harness := (true, "689c32772bd14cadaa25bad00859d395592b9995d858293b328f77bb3753c587"), looks := false }, kinds := [], alts := [], laidByText := true, laidKinds := [.data], laidTests := true, laidLooks := .later }
def ScriptCutsUptoCardSaid : Prop := Claim7.holds Tryd.pinned (.plain (OpenSpec.upto scriptCutsSpec)) scriptCutsUptoCard

/-- THE SECOND FORM's CARD OF 'dragnetlaw32.ScriptStreams'. -/
def scriptStreamsUptoCard : Claim7 := { stood := { row := scriptStreamsUptoRow, standIns := [], harness := (true, "689c32772bd14cadaa25bad00859d395592b9995d858293b328f77bb3753c587"), looks := false }, kinds := [], alts := [], laidByText := true, laidKinds := [.data], laidTests := true, laidLooks := .later }
def ScriptStreamsUptoCardSaid : Prop := Claim7.holds Tryd.pinned (.plain (OpenSpec.upto scriptStreamsSpec)) scriptStreamsUptoCard

/-- THE SECOND FORM's CARD OF 'dragnetlaw32.ScriptJoins'. -/
def scriptJoinsUptoCard : Claim7 := { stood := { row := scriptJoinsUptoRow, standIns := [], harness := (true, "689c32772bd14cadaa25bad00859d395592b9995d858293b328f77bb3753c587"), looks := false }, kinds := [], alts := [], laidByText := true, laidKinds := [.data], laidTests := true, laidLooks := .later }
def ScriptJoinsUptoCardSaid : Prop := Claim7.holds Tryd.pinned (.plain (OpenSpec.upto scriptJoinsSpec)) scriptJoinsUptoCard

/-- THE SECOND FORM's CARD OF 'dragnetlaw32.ScriptTexts'. -/
def scriptTextsUptoCard : Claim7 := { stood := { row := scriptTextsUptoRow, standIns := [], harness := (true, "689c32772bd14cadaa25bad00859d395592b9995d858293b328f77bb3753c587"), looks := false }, kinds := [], alts := [], laidByText := true, laidKinds := [.data, .data, .pinned], laidTests := true, laidLooks := .later }
def ScriptTextsUptoCardSaid : Prop := Claim7.holds Tryd.pinned (.plain (OpenSpec.upto scriptTextsSpec)) scriptTextsUptoCard

/-- THE SECOND FORM's CARD OF 'dragnetlaw32.ScriptBack'. -/
def scriptBackUptoCard : Claim7 := { stood := { row := scriptBackUptoRow, standIns := [], harness := (true, "689c32772bd14cadaa25bad00859d395592b9995d858293b328f77bb3753c587"), looks := false }, kinds := [], alts := [], laidByText := true, laidKinds := [.data, .data, .pinned], laidTests := true, laidLooks := .later }
def ScriptBackUptoCardSaid : Prop := Claim7.holds Tryd.pinned (.plain (OpenSpec.upto scriptBackSpec)) scriptBackUptoCard

/-- THE SECOND FORM's CARD OF 'dragnetlaw32.ScriptKnown'. -/
def scriptKnownUptoCard : Claim7 := { stood := { row := scriptKnownUptoRow, standIns := [], harness := (true, "689c32772bd14cadaa25bad00859d395592b9995d858293b328f77bb3753c587"), looks := false }, kinds := [], alts := [], laidByText := true, laidKinds := [.data, .data, .pinned], laidTests := true, laidLooks := .later }
def ScriptKnownUptoCardSaid : Prop := Claim7.holds Tryd.pinned (.plain (OpenSpec.upto scriptKnownSpec)) scriptKnownUptoCard
end Rows
end Go.Proofs.YtoogemdcmnjpnaaDoor
