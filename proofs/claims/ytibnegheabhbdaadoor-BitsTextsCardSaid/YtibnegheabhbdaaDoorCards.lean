/-
  DERIVED. GIVEN WITH THE SEED: THE CARDS: each row of YtibnegheabhbdaaDoorRows.lean that lists a variable, with what it lists TIED to the program's text (the seventh form; the later family's looks); each row that meets fmt, with fmt's text TOLD by the authors' own Lean function (tested against real Go, not proved from fmt's source: count such statements apart). THE CARD IS WHAT COUNTS. Prove the row's statement (the work); the ties are given (YtibnegheabhbdaaDoorTie.lean); close each card by the builder's one call (the guide's Derived/Test/ToyasCard.lean, 'card_holds'). Laid BY PROGRAM, IN A SANDBOX (cutbox-door.mjs). By AI agents, Wed Nov 11 2026. No macro, syntax, notation, axiom, sorry.
-/
import Derived.Test.YtibnegheabhbdaaDoorRows
import GoSem.ClaimSeven
namespace Go.Proofs.YtibnegheabhbdaaDoor
namespace Rows

/-- THE TIED CARD OF 'dragnetlaw02.BitsShifts'. -/
def bitsShiftsCard : Claim7 := { stood := { row := bitsShiftsRow, standIns := [], harness := (true, "933894d6cc04d4be57a0d704647130e8c87e919a12dc45bc28f812f1126a30c4"), looks := true }, kinds := [], alts := [], laidByText := true, laidKinds := [.data, .data, .data], laidTests := true, laidLooks := .later }
def BitsShiftsCardSaid : Prop := Claim7.holds Tryd.pinned (.plain (OpenSpec.ofChange bitsShiftsSpec)) bitsShiftsCard

/-- THE TIED CARD OF 'dragnetlaw02.BitsThrough'. -/
def bitsThroughCard : Claim7 := { stood := { row := bitsThroughRow, standIns := [], harness := (true, "933894d6cc04d4be57a0d704647130e8c87e919a12dc45bc28f812f1126a30c4"), looks := true }, kinds := [], alts := [], laidByText := true, laidKinds := [.data, .data, .data], laidTests := true, laidLooks := .later }
def BitsThroughCardSaid : Prop := Claim7.holds Tryd.pinned (.plain (OpenSpec.ofChange bitsThroughSpec)) bitsThroughCard

/-- THE TIED CARD OF 'dragnetlaw02.BitsPairs'. -/
def bitsPairsCard : Claim7 := { stood := { row := bitsPairsRow, standIns := [], harness := (true, "933894d6cc04d4be57a0d704647130e8c87e919a12dc45bc28f812f1126a30c4"), looks := true }, kinds := [], alts := [], laidByText := true, laidKinds := [.data, .data, .data], laidTests := true, laidLooks := .later }
def BitsPairsCardSaid : Prop := Claim7.holds Tryd.pinned (.plain (OpenSpec.ofChange bitsPairsSpec)) bitsPairsCard

/-- THE TIED CARD OF 'dragnetlaw02.BitsLaws'. -/
def bitsLawsCard : Claim7 := { stood := { row := bitsLawsRow, standIns := [], harness := (true, "933894d6cc04d4be57a0d704647130e8c87e919a12dc45bc28f812f1126a30c4"), looks := true }, kinds := [], alts := [], laidByText := true, laidKinds := [.data, .data, .data], laidTests := true, laidLooks := .later }
def BitsLawsCardSaid : Prop := Claim7.holds Tryd.pinned (.plain (OpenSpec.ofChange bitsLawsSpec)) bitsLawsCard

/-- THE TIED CARD OF 'dragnetlaw02.BitsMoves'. -/
def bitsMovesCard : Claim7 := { stood := { row := bitsMovesRow, standIns := [], harness := (true, "933894d6cc04d4be57a0d704647130e8c87e919a12dc45bc28f812f1126a30c4"), looks := true }, kinds := [], alts := [], laidByText := true, laidKinds := [.data, .data, .data], laidTests := true, laidLooks := .later }
def BitsMovesCardSaid : Prop := Claim7.holds Tryd.pinned (.plain (OpenSpec.ofChange bitsMovesSpec)) bitsMovesCard

/-- THE TIED CARD OF 'dragnetlaw02.BitsSets'. -/
def bitsSetsCard : Claim7 := { stood := { row := bitsSetsRow, standIns := [], harness := (true, "933894d6cc04d4be57a0d704647130e8c87e919a12dc45bc28f812f1126a30c4"), looks := true }, kinds := [], alts := [], laidByText := true, laidKinds := [.data, .data, .data], laidTests := true, laidLooks := .later }
def BitsSetsCardSaid : Prop := Claim7.holds Tryd.pinned (.plain (OpenSpec.ofChange bitsSetsSpec)) bitsSetsCard

/-- THE TIED CARD OF 'dragnetlaw02.BitsOnes'. -/
def bitsOnesCard : Claim7 := { stood := { row := bitsOnesRow, standIns := [], harness := (true, "933894d6cc04d4be57a0d704647130e8c87e919a12dc45bc28f812f1126a30c4"), looks := true }, kinds := [], alts := [], laidByText := true, laidKinds := [.data, .data, .data], laidTests := true, laidLooks := .later }
def BitsOnesCardSaid : Prop := Claim7.holds Tryd.pinned (.plain (OpenSpec.ofChange bitsOnesSpec)) bitsOnesCard

/-- THE TIED CARD OF 'dragnetlaw02.BitsTexts'. -/
def bitsTextsCard : Claim7 := { stood := { row := bitsTextsRow, standIns := [], harness := (true, "933894d6cc04d4be57a0d704647130e8c87e919a12dc45bc28f812f1126a30c4"), looks := true }, kinds := [], alts := [], laidByText := true, laidKinds := [.data, .data, .data, .data, .sentinel, .sentinel, .pinned, .pinned], laidTests := true, laidLooks := .later }
def BitsTextsCardSaid : Prop := Claim7.holds Tryd.pinned (.plain (OpenSpec.ofChange bitsTextsSpec)) bitsTextsCard

/-- THE SECOND FORM's CARD OF 'dragnetlaw02.BitsShifts'. -/
def bitsShiftsUptoCard : Claim7 := { stood := { row := bitsShiftsUptoRow, standIns := [], harness := (true, "933894d6cc04d4be57a0d704647130e8c87e919a12dc45bc28f812f1126a30c4"), looks := true }, kinds := [], alts := [], laidByText := true, laidKinds := [.data, .data, .data], laidTests := true, laidLooks := .later }
def BitsShiftsUptoCardSaid : Prop := Claim7.holds Tryd.pinned (.plain (OpenSpec.upto bitsShiftsSpec)) bitsShiftsUptoCard

/-- THE SECOND FORM's CARD OF 'dragnetlaw02.BitsThrough'. -/
def bitsThroughUptoCard : Claim7 := { stood := { row := bitsThroughUptoRow, standIns := [], harness := (true, "933894d6cc04d4be57a0d704647130e8c87e919a12dc45bc28f812f1126a30c4"), looks := true }, kinds := [], alts := [], laidByText := true, laidKinds := [.data, .data, .data], laidTests := true, laidLooks := .later }
def BitsThroughUptoCardSaid : Prop := Claim7.holds Tryd.pinned (.plain (OpenSpec.upto bitsThroughSpec)) bitsThroughUptoCard

/-- THE SECOND FORM's CARD OF 'dragnetlaw02.BitsPairs'. -/
def bitsPairsUptoCard : Claim7 := { stood := { row := bitsPairsUptoRow, standIns := [], harness := (true, "933894d6cc04d4be57a0d704647130e8c87e919a12dc45bc28f812f1126a30c4"), looks := true }, kinds := [], alts := [], laidByText := true, laidKinds := [.data, .data, .data], laidTests := true, laidLooks := .later }
def BitsPairsUptoCardSaid : Prop := Claim7.holds Tryd.pinned (.plain (OpenSpec.upto bitsPairsSpec)) bitsPairsUptoCard

/-- THE SECOND FORM's CARD OF 'dragnetlaw02.BitsLaws'. -/
def bitsLawsUptoCard : Claim7 := { stood := { row := bitsLawsUptoRow, standIns := [], harness := (true, "933894d6cc04d4be57a0d704647130e8c87e919a12dc45bc28f812f1126a30c4"), looks := true }, kinds := [], alts := [], laidByText := true, laidKinds := [.data, .data, .data], laidTests := true, laidLooks := .later }
def BitsLawsUptoCardSaid : Prop := Claim7.holds Tryd.pinned (.plain (OpenSpec.upto bitsLawsSpec)) bitsLawsUptoCard

/-- THE SECOND FORM's CARD OF 'dragnetlaw02.BitsMoves'. -/
def bitsMovesUptoCard : Claim7 := { stood := { row := bitsMovesUptoRow, standIns := [], harness := (true, "933894d6cc04d4be57a0d704647130e8c87e919a12dc45bc28f812f1126a30c4"), looks := true }, kinds := [], alts := [], laidByText := true, laidKinds := [.data, .data, .data], laidTests := true, laidLooks := .later }
def BitsMovesUptoCardSaid : Prop := Claim7.holds Tryd.pinned (.plain (OpenSpec.upto bitsMovesSpec)) bitsMovesUptoCard

/-- THE SECOND FORM's CARD OF 'dragnetlaw02.BitsSets'. -/
def bitsSetsUptoCard : Claim7 := { stood := { row := bitsSetsUptoRow, standIns := [], harness := (true, "933894d6cc04d4be57a0d704647130e8c87e919a12dc45bc28f812f1126a30c4"), looks := true }, kinds := [], alts := [], laidByText := true, laidKinds := [.data, .data, .data], laidTests := true, laidLooks := .later }
def BitsSetsUptoCardSaid : Prop := Claim7.holds Tryd.pinned (.plain (OpenSpec.upto bitsSetsSpec)) bitsSetsUptoCard

/-- THE SECOND FORM's CARD OF 'dragnetlaw02.BitsOnes'. -/
def bitsOnesUptoCard : Claim7 := { stood := { row := bitsOnesUptoRow, standIns := [], harness := (true, "933894d6cc04d4be57a0d704647130e8c87e919a12dc45bc28f812f1126a30c4"), looks := true }, kinds := [], alts := [], laidByText := true, laidKinds := [.data, .data, .data], laidTests := true, laidLooks := .later }
def BitsOnesUptoCardSaid : Prop := Claim7.holds Tryd.pinned (.plain (OpenSpec.upto bitsOnesSpec)) bitsOnesUptoCard

/-- THE SECOND FORM's CARD OF 'dragnetlaw02.BitsTexts'. -/
def bitsTextsUptoCard : Claim7 := { stood := { row := bitsTextsUptoRow, standIns := [], harness := (true, "933894d6cc04d4be57a0d704647130e8c87e919a12dc45bc28f812f1126a30c4"), looks := true }, kinds := [], alts := [], laidByText := true, laidKinds := [.data, .data, .data, .data, .sentinel, .sentinel, .pinned, .pinned], laidTests := true, laidLooks := .later }
def BitsTextsUptoCardSaid : Prop := Claim7.holds Tryd.pinned (.plain (OpenSpec.upto bitsTextsSpec)) bitsTextsUptoCard
end Rows
end Go.Proofs.YtibnegheabhbdaaDoor
