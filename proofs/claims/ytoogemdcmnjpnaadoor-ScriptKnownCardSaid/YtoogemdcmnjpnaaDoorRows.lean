/-
  NARROWER THAN 'FOR EVERY INPUT', by the rows' own cells (each row's printed sentence says how): ScriptMasks: laid · ScriptShapes: laid · ScriptPublic: laid · ScriptCuts: laid · ScriptStreams: laid · ScriptJoins: laid · ScriptTexts: laid · ScriptBack: laid · ScriptKnown: laid.
  DERIVED. THE GIVEN ROWS OF THIS SEAT. 9 by the template 'for every input the law returns true; each argument reads behind the call as it read before'; 0 by the template 'total and deterministic' (their statements: YtoogemdcmnjpnaaDoorTotals.lean).
  GIVEN WITH THE SEED: the statements are not yours to turn. If you find one false, say at which input.
  Laid BY PROGRAM, IN A SANDBOX (cutbox-rows.mjs): the forced cells as the released guide's own fill.sh prints them over the translation 25ae5edc3403bd7a… (all of the seat's roots in one cut). By AI agents, Wed Nov 11 2026. No macro, syntax, notation, axiom, sorry.
-/
import Derived.Test.YtoogemdcmnjpnaaDoorChecked
import GoSem.PinnedTables
import GoSem.Claim
import GoSem.ClaimJoined
import GoSem.ClaimMapViews
import Derived.JoinedTies
import Derived.KernelRfl
namespace Go.Proofs.YtoogemdcmnjpnaaDoor
/- THE CELL 'sum', in the pinned program and in every row, IS THE sha256 OF THE DUMP (.gsa) THAT YtoogemdcmnjpnaaDoorProg.lean LOADS. Nothing in Lean hashes anything: it is a label: what it is worth is what the hold of that sum in a sandbox is worth. -/
noncomputable def Tryd.pinned : Pinned := { name := "ytoogemdcmnjpnaadoor", sum := "25ae5edc3403bd7a73b9817167df8375af432f305ef34f99c288beb33a9719a0", checked := Tryd.checked }
namespace Rows
def none {H : Type} : Left H := { results := [], args := [] }

/- WHAT THE LISTED PACKAGE-LEVEL VARIABLES READ AS WHEN THE CALL BEGINS. Each datum BY PROGRAM (the guide's laid-datum.mjs) off the statement by which the dump's own 'gosem.cut.vars' lays the variable. In a bare row this is a premise. The card (YtoogemdcmnjpnaaDoorCards.lean) ties it to the program's text. -/
def laid_dragnet_words_escapes {H : Type} : DataW H := .agg [.agg [.lit (.int .u8 34), .lit (.int .u8 34)], .agg [.lit (.int .u8 92), .lit (.int .u8 92)], .agg [.lit (.int .u8 10), .lit (.int .u8 110)], .agg [.lit (.int .u8 13), .lit (.int .u8 114)], .agg [.lit (.int .u8 9), .lit (.int .u8 116)]]
def laid_unicode_utf8_acceptRanges {H : Type} : DataW H := .agg [.agg [.lit (.int .u8 128), .lit (.int .u8 191)], .agg [.lit (.int .u8 160), .lit (.int .u8 191)], .agg [.lit (.int .u8 128), .lit (.int .u8 159)], .agg [.lit (.int .u8 144), .lit (.int .u8 191)], .agg [.lit (.int .u8 128), .lit (.int .u8 143)], .agg [.lit (.int .u8 0), .lit (.int .u8 0)], .agg [.lit (.int .u8 0), .lit (.int .u8 0)], .agg [.lit (.int .u8 0), .lit (.int .u8 0)], .agg [.lit (.int .u8 0), .lit (.int .u8 0)], .agg [.lit (.int .u8 0), .lit (.int .u8 0)], .agg [.lit (.int .u8 0), .lit (.int .u8 0)], .agg [.lit (.int .u8 0), .lit (.int .u8 0)], .agg [.lit (.int .u8 0), .lit (.int .u8 0)], .agg [.lit (.int .u8 0), .lit (.int .u8 0)], .agg [.lit (.int .u8 0), .lit (.int .u8 0)], .agg [.lit (.int .u8 0), .lit (.int .u8 0)]]
/-- One of Go's own tables, pinned by name: the form's constant. -/
def laid_unicode_utf8_first : DataW Unit := Go.Pinned.utf8First

/-- 'dragnetlaw32.ScriptMasks': WHATEVER THE INPUT: true; the input reads as it did. -/
def scriptMasksSpec : ChangeSpec := { name := "scriptMasks", fn := fun _ => fun
  | [d1, d2] => { results := [.lit (.bool true)], args := [d1, d2] }
  | _ => none }
def scriptMasksRow : OpenClaim := { program := "ytoogemdcmnjpnaadoor", sum := "25ae5edc3403bd7a73b9817167df8375af432f305ef34f99c288beb33a9719a0", func := "dragnet/dragnetlaw32.ScriptMasks", spec := "scriptMasks", inPlace := ["internal/abi.NoEscape"], unfollowed := true, recurses := true, named := ["dragnet/words.escapes"], apart := false, laid := [("dragnet/words.escapes", laid_dragnet_words_escapes)] }
def ScriptMasksSaid : Prop := scriptMasksRow.holds Tryd.pinned (OpenSpec.ofChange scriptMasksSpec)

/-- ITS FALSE NEIGHBOUR: 'it returns false'. Refute it at one input. -/
def scriptMasksWrong : ChangeSpec := { name := "scriptMasks", fn := fun _ => fun
  | [d1, d2] => { results := [.lit (.bool false)], args := [d1, d2] }
  | _ => none }
def ScriptMasksWrongFalsely : Prop := scriptMasksRow.holds Tryd.pinned (OpenSpec.ofChange scriptMasksWrong)

/-- 'dragnetlaw32.ScriptShapes': WHATEVER THE INPUT: true; the input reads as it did. -/
def scriptShapesSpec : ChangeSpec := { name := "scriptShapes", fn := fun _ => fun
  | [d1, d2] => { results := [.lit (.bool true)], args := [d1, d2] }
  | _ => none }
def scriptShapesRow : OpenClaim := { program := "ytoogemdcmnjpnaadoor", sum := "25ae5edc3403bd7a73b9817167df8375af432f305ef34f99c288beb33a9719a0", func := "dragnet/dragnetlaw32.ScriptShapes", spec := "scriptShapes", inPlace := ["internal/abi.NoEscape"], unfollowed := true, recurses := true, named := ["dragnet/words.escapes"], apart := false, laid := [("dragnet/words.escapes", laid_dragnet_words_escapes)] }
def ScriptShapesSaid : Prop := scriptShapesRow.holds Tryd.pinned (OpenSpec.ofChange scriptShapesSpec)

/-- ITS FALSE NEIGHBOUR: 'it returns false'. Refute it at one input. -/
def scriptShapesWrong : ChangeSpec := { name := "scriptShapes", fn := fun _ => fun
  | [d1, d2] => { results := [.lit (.bool false)], args := [d1, d2] }
  | _ => none }
def ScriptShapesWrongFalsely : Prop := scriptShapesRow.holds Tryd.pinned (OpenSpec.ofChange scriptShapesWrong)

/-- 'dragnetlaw32.ScriptPublic': WHATEVER THE INPUT: true; the input reads as it did. -/
def scriptPublicSpec : ChangeSpec := { name := "scriptPublic", fn := fun _ => fun
  | [d1, d2, d3] => { results := [.lit (.bool true)], args := [d1, d2, d3] }
  | _ => none }
def scriptPublicRow : OpenClaim := { program := "ytoogemdcmnjpnaadoor", sum := "25ae5edc3403bd7a73b9817167df8375af432f305ef34f99c288beb33a9719a0", func := "dragnet/dragnetlaw32.ScriptPublic", spec := "scriptPublic", inPlace := ["internal/abi.NoEscape"], unfollowed := true, recurses := true, named := ["dragnet/words.escapes"], apart := false, laid := [("dragnet/words.escapes", laid_dragnet_words_escapes)] }
def ScriptPublicSaid : Prop := scriptPublicRow.holds Tryd.pinned (OpenSpec.ofChange scriptPublicSpec)

/-- ITS FALSE NEIGHBOUR: 'it returns false'. Refute it at one input. -/
def scriptPublicWrong : ChangeSpec := { name := "scriptPublic", fn := fun _ => fun
  | [d1, d2, d3] => { results := [.lit (.bool false)], args := [d1, d2, d3] }
  | _ => none }
def ScriptPublicWrongFalsely : Prop := scriptPublicRow.holds Tryd.pinned (OpenSpec.ofChange scriptPublicWrong)

/-- 'dragnetlaw32.ScriptCuts': WHATEVER THE INPUT: true; the input reads as it did. -/
def scriptCutsSpec : ChangeSpec := { name := "scriptCuts", fn := fun _ => fun
  | [d1, d2, d3] => { results := [.lit (.bool true)], args := [d1, d2, d3] }
  | _ => none }
def scriptCutsRow : OpenClaim := { program := "ytoogemdcmnjpnaadoor", sum := "25ae5edc3403bd7a73b9817167df8375af432f305ef34f99c288beb33a9719a0", func := "dragnet/dragnetlaw32.ScriptCuts", spec := "scriptCuts", inPlace := ["internal/abi.NoEscape"], unfollowed := true, recurses := true, named := ["dragnet/words.escapes"], apart := false, laid := [("dragnet/words.escapes", laid_dragnet_words_escapes)] }
def ScriptCutsSaid : Prop := scriptCutsRow.holds Tryd.pinned (OpenSpec.ofChange scriptCutsSpec)

/-- ITS FALSE NEIGHBOUR: 'it returns false'. Refute it at one input. -/
def scriptCutsWrong : ChangeSpec := { name := "scriptCuts", fn := fun _ => fun
  | [d1, d2, d3] => { results := [.lit (.bool false)], args := [d1, d2, d3] }
  | _ => none }
def ScriptCutsWrongFalsely : Prop := scriptCutsRow.holds Tryd.pinned (OpenSpec.ofChange scriptCutsWrong)

/-- 'dragnetlaw32.ScriptStreams': WHATEVER THE INPUT: true; the input reads as it did. -/
def scriptStreamsSpec : ChangeSpec := { name := "scriptStreams", fn := fun _ => fun
  | [d1, d2, d3] => { results := [.lit (.bool true)], args := [d1, d2, d3] }
  | _ => none }
def scriptStreamsRow : OpenClaim := { program := "ytoogemdcmnjpnaadoor", sum := "25ae5edc3403bd7a73b9817167df8375af432f305ef34f99c288beb33a9719a0", func := "dragnet/dragnetlaw32.ScriptStreams", spec := "scriptStreams", inPlace := ["internal/abi.NoEscape"], unfollowed := true, recurses := true, named := ["dragnet/words.escapes"], apart := false, laid := [("dragnet/words.escapes", laid_dragnet_words_escapes)] }
def ScriptStreamsSaid : Prop := scriptStreamsRow.holds Tryd.pinned (OpenSpec.ofChange scriptStreamsSpec)

/-- ITS FALSE NEIGHBOUR: 'it returns false'. Refute it at one input. -/
def scriptStreamsWrong : ChangeSpec := { name := "scriptStreams", fn := fun _ => fun
  | [d1, d2, d3] => { results := [.lit (.bool false)], args := [d1, d2, d3] }
  | _ => none }
def ScriptStreamsWrongFalsely : Prop := scriptStreamsRow.holds Tryd.pinned (OpenSpec.ofChange scriptStreamsWrong)

/-- 'dragnetlaw32.ScriptJoins': WHATEVER THE INPUT: true; the input reads as it did. -/
def scriptJoinsSpec : ChangeSpec := { name := "scriptJoins", fn := fun _ => fun
  | [d1, d2] => { results := [.lit (.bool true)], args := [d1, d2] }
  | _ => none }
def scriptJoinsRow : OpenClaim := { program := "ytoogemdcmnjpnaadoor", sum := "25ae5edc3403bd7a73b9817167df8375af432f305ef34f99c288beb33a9719a0", func := "dragnet/dragnetlaw32.ScriptJoins", spec := "scriptJoins", inPlace := ["internal/abi.NoEscape"], unfollowed := true, recurses := true, named := ["dragnet/words.escapes"], apart := false, laid := [("dragnet/words.escapes", laid_dragnet_words_escapes)] }
def ScriptJoinsSaid : Prop := scriptJoinsRow.holds Tryd.pinned (OpenSpec.ofChange scriptJoinsSpec)

/-- ITS FALSE NEIGHBOUR: 'it returns false'. Refute it at one input. -/
def scriptJoinsWrong : ChangeSpec := { name := "scriptJoins", fn := fun _ => fun
  | [d1, d2] => { results := [.lit (.bool false)], args := [d1, d2] }
  | _ => none }
def ScriptJoinsWrongFalsely : Prop := scriptJoinsRow.holds Tryd.pinned (OpenSpec.ofChange scriptJoinsWrong)

/-- 'dragnetlaw32.ScriptTexts': WHATEVER THE INPUT: true; the input reads as it did. -/
def scriptTextsSpec : ChangeSpec := { name := "scriptTexts", fn := fun _ => fun
  | [d1, d2] => { results := [.lit (.bool true)], args := [d1, d2] }
  | _ => none }
def scriptTextsRow : OpenClaim := { program := "ytoogemdcmnjpnaadoor", sum := "25ae5edc3403bd7a73b9817167df8375af432f305ef34f99c288beb33a9719a0", func := "dragnet/dragnetlaw32.ScriptTexts", spec := "scriptTexts", inPlace := ["internal/abi.NoEscape", "internal/bytealg.CountString", "internal/bytealg.IndexByteString", "internal/bytealg.IndexString"], unfollowed := true, recurses := true, named := ["dragnet/words.escapes", "internal/bytealg.MaxLen", "unicode/utf8.first", "unicode/utf8.acceptRanges"], apart := false, laid := [("unicode/utf8.acceptRanges", laid_unicode_utf8_acceptRanges), ("dragnet/words.escapes", laid_dragnet_words_escapes), ("unicode/utf8.first", laid_unicode_utf8_first)] }
def ScriptTextsSaid : Prop := scriptTextsRow.holds Tryd.pinned (OpenSpec.ofChange scriptTextsSpec)

/-- ITS FALSE NEIGHBOUR: 'it returns false'. Refute it at one input. -/
def scriptTextsWrong : ChangeSpec := { name := "scriptTexts", fn := fun _ => fun
  | [d1, d2] => { results := [.lit (.bool false)], args := [d1, d2] }
  | _ => none }
def ScriptTextsWrongFalsely : Prop := scriptTextsRow.holds Tryd.pinned (OpenSpec.ofChange scriptTextsWrong)

/-- 'dragnetlaw32.ScriptBack': WHATEVER THE INPUT: true; the input reads as it did. -/
def scriptBackSpec : ChangeSpec := { name := "scriptBack", fn := fun _ => fun
  | [d1, d2] => { results := [.lit (.bool true)], args := [d1, d2] }
  | _ => none }
def scriptBackRow : OpenClaim := { program := "ytoogemdcmnjpnaadoor", sum := "25ae5edc3403bd7a73b9817167df8375af432f305ef34f99c288beb33a9719a0", func := "dragnet/dragnetlaw32.ScriptBack", spec := "scriptBack", inPlace := ["internal/abi.NoEscape", "internal/bytealg.CountString", "internal/bytealg.IndexByteString", "internal/bytealg.IndexString"], unfollowed := true, recurses := true, named := ["dragnet/words.escapes", "internal/bytealg.MaxLen", "unicode/utf8.first", "unicode/utf8.acceptRanges"], apart := false, laid := [("unicode/utf8.acceptRanges", laid_unicode_utf8_acceptRanges), ("dragnet/words.escapes", laid_dragnet_words_escapes), ("unicode/utf8.first", laid_unicode_utf8_first)] }
def ScriptBackSaid : Prop := scriptBackRow.holds Tryd.pinned (OpenSpec.ofChange scriptBackSpec)

/-- ITS FALSE NEIGHBOUR: 'it returns false'. Refute it at one input. -/
def scriptBackWrong : ChangeSpec := { name := "scriptBack", fn := fun _ => fun
  | [d1, d2] => { results := [.lit (.bool false)], args := [d1, d2] }
  | _ => none }
def ScriptBackWrongFalsely : Prop := scriptBackRow.holds Tryd.pinned (OpenSpec.ofChange scriptBackWrong)

/-- 'dragnetlaw32.ScriptKnown': WHATEVER THE INPUT: true; the input reads as it did. -/
def scriptKnownSpec : ChangeSpec := { name := "scriptKnown", fn := fun _ => fun
  | [] => { results := [.lit (.bool true)], args := [] }
  | _ => none }
def scriptKnownRow : OpenClaim := { program := "ytoogemdcmnjpnaadoor", sum := "25ae5edc3403bd7a73b9817167df8375af432f305ef34f99c288beb33a9719a0", func := "dragnet/dragnetlaw32.ScriptKnown", spec := "scriptKnown", inPlace := ["internal/abi.NoEscape", "internal/bytealg.CountString", "internal/bytealg.IndexByteString", "internal/bytealg.IndexString"], unfollowed := true, recurses := true, named := ["internal/bytealg.MaxLen", "unicode/utf8.first", "unicode/utf8.acceptRanges", "dragnet/words.escapes"], apart := false, laid := [("unicode/utf8.acceptRanges", laid_unicode_utf8_acceptRanges), ("dragnet/words.escapes", laid_dragnet_words_escapes), ("unicode/utf8.first", laid_unicode_utf8_first)] }
def ScriptKnownSaid : Prop := scriptKnownRow.holds Tryd.pinned (OpenSpec.ofChange scriptKnownSpec)

/-- ITS FALSE NEIGHBOUR: 'it returns false'. Refute it at one input. -/
def scriptKnownWrong : ChangeSpec := { name := "scriptKnown", fn := fun _ => fun
  | [] => { results := [.lit (.bool false)], args := [] }
  | _ => none }
def ScriptKnownWrongFalsely : Prop := scriptKnownRow.holds Tryd.pinned (OpenSpec.ofChange scriptKnownWrong)

/- THE SECOND FORM. 'bulk': how many values and letters a reading holds, each counted each time it is reached (what is shared counts as often as it is met; a slice's spare places count too). A statement '..UptoSaid' is the law's where the arguments, and the package variables that the reading takes, are together of bulk at most 1048576: NARROWER than '..Said'. Prove '..Said' where nothing that the law and all that it calls make is longer than what came in: it says more and counts as full. Else prove '..UptoSaid'. A law counts once. -/
mutual
def uptoBulk {H : Type} : DataW H → Nat
  | .lit (.string bytes) => bytes.length + 1
  | .lit _ => 1
  | .nil => 1
  | .ptr d => uptoBulk d + 1
  | .slice elems spare => uptoBulkAll elems + uptoBulkAll spare + 1
  | .agg parts => uptoBulkAll parts + 1
  | .iface _ d => uptoBulk d + 1
  | .map entries => uptoBulkEntries entries + 1
  | .held _ => 1
def uptoBulkAll {H : Type} : List (DataW H) → Nat
  | [] => 0
  | d :: r => uptoBulk d + uptoBulkAll r
def uptoBulkEntries {H : Type} : List (Lit × DataW H) → Nat
  | [] => 0
  | x :: r => uptoBulkEntry x + uptoBulkEntries r
def uptoBulkEntry {H : Type} : Lit × DataW H → Nat
  | (.string bytes, d) => bytes.length + uptoBulk d + 1
  | (_, d) => uptoBulk d + 1
 end
def uptoSmall : (H : Type) → List (DataW H) → Bool := fun _ ds => decide (uptoBulkAll ds ≤ 1048576)
def OpenSpec.upto (s : _root_.Go.ChangeSpec) : _root_.Go.OpenSpec := { _root_.Go.OpenSpec.ofChange s with cond := some uptoSmall }

/-- 'dragnetlaw32.ScriptMasks', WHERE WHAT IT READS IS OF BULK AT MOST 1048576: true; the input reads as it did. -/
def scriptMasksUptoRow : OpenClaim := { program := "ytoogemdcmnjpnaadoor", sum := "25ae5edc3403bd7a73b9817167df8375af432f305ef34f99c288beb33a9719a0", func := "dragnet/dragnetlaw32.ScriptMasks", spec := "scriptMasks", inPlace := ["internal/abi.NoEscape"], unfollowed := true, recurses := true, named := ["dragnet/words.escapes"], apart := false, laid := [("dragnet/words.escapes", laid_dragnet_words_escapes)], narrowed := true }
def ScriptMasksUptoSaid : Prop := scriptMasksUptoRow.holds Tryd.pinned (OpenSpec.upto scriptMasksSpec)

/-- 'dragnetlaw32.ScriptShapes', WHERE WHAT IT READS IS OF BULK AT MOST 1048576: true; the input reads as it did. -/
def scriptShapesUptoRow : OpenClaim := { program := "ytoogemdcmnjpnaadoor", sum := "25ae5edc3403bd7a73b9817167df8375af432f305ef34f99c288beb33a9719a0", func := "dragnet/dragnetlaw32.ScriptShapes", spec := "scriptShapes", inPlace := ["internal/abi.NoEscape"], unfollowed := true, recurses := true, named := ["dragnet/words.escapes"], apart := false, laid := [("dragnet/words.escapes", laid_dragnet_words_escapes)], narrowed := true }
def ScriptShapesUptoSaid : Prop := scriptShapesUptoRow.holds Tryd.pinned (OpenSpec.upto scriptShapesSpec)

/-- 'dragnetlaw32.ScriptPublic', WHERE WHAT IT READS IS OF BULK AT MOST 1048576: true; the input reads as it did. -/
def scriptPublicUptoRow : OpenClaim := { program := "ytoogemdcmnjpnaadoor", sum := "25ae5edc3403bd7a73b9817167df8375af432f305ef34f99c288beb33a9719a0", func := "dragnet/dragnetlaw32.ScriptPublic", spec := "scriptPublic", inPlace := ["internal/abi.NoEscape"], unfollowed := true, recurses := true, named := ["dragnet/words.escapes"], apart := false, laid := [("dragnet/words.escapes", laid_dragnet_words_escapes)], narrowed := true }
def ScriptPublicUptoSaid : Prop := scriptPublicUptoRow.holds Tryd.pinned (OpenSpec.upto scriptPublicSpec)

/-- 'dragnetlaw32.ScriptCuts', WHERE WHAT IT READS IS OF BULK AT MOST 1048576: true; the input reads as it did. -/
def scriptCutsUptoRow : OpenClaim := { program := "ytoogemdcmnjpnaadoor", sum := "25ae5edc3403bd7a73b9817167df8375af432f305ef34f99c288beb33a9719a0", func := "dragnet/dragnetlaw32.ScriptCuts", spec := "scriptCuts", inPlace := ["internal/abi.NoEscape"], unfollowed := true, recurses := true, named := ["dragnet/words.escapes"], apart := false, laid := [("dragnet/words.escapes", laid_dragnet_words_escapes)], narrowed := true }
def ScriptCutsUptoSaid : Prop := scriptCutsUptoRow.holds Tryd.pinned (OpenSpec.upto scriptCutsSpec)

/-- 'dragnetlaw32.ScriptStreams', WHERE WHAT IT READS IS OF BULK AT MOST 1048576: true; the input reads as it did. -/
def scriptStreamsUptoRow : OpenClaim := { program := "ytoogemdcmnjpnaadoor", sum := "25ae5edc3403bd7a73b9817167df8375af432f305ef34f99c288beb33a9719a0", func := "dragnet/dragnetlaw32.ScriptStreams", spec := "scriptStreams", inPlace := ["internal/abi.NoEscape"], unfollowed := true, recurses := true, named := ["dragnet/words.escapes"], apart := false, laid := [("dragnet/words.escapes", laid_dragnet_words_escapes)], narrowed := true }
def ScriptStreamsUptoSaid : Prop := scriptStreamsUptoRow.holds Tryd.pinned (OpenSpec.upto scriptStreamsSpec)

/-- 'dragnetlaw32.ScriptJoins', WHERE WHAT IT READS IS OF BULK AT MOST 1048576: true; the input reads as it did. -/
def scriptJoinsUptoRow : OpenClaim := { program := "ytoogemdcmnjpnaadoor", sum := "25ae5edc3403bd7a73b9817167df8375af432f305ef34f99c288beb33a9719a0", func := "dragnet/dragnetlaw32.ScriptJoins", spec := "scriptJoins", inPlace := ["internal/abi.NoEscape"], unfollowed := true, recurses := true, named := ["dragnet/words.escapes"], apart := false, laid := [("dragnet/words.escapes", laid_dragnet_words_escapes)], narrowed := true }
def ScriptJoinsUptoSaid : Prop := scriptJoinsUptoRow.holds Tryd.pinned (OpenSpec.upto scriptJoinsSpec)

/-- 'dragnetlaw32.ScriptTexts', WHERE WHAT IT READS IS OF BULK AT MOST 1048576: true; the input reads as it did. -/
def scriptTextsUptoRow : OpenClaim := { program := "ytoogemdcmnjpnaadoor", sum := "25ae5edc3403bd7a73b9817167df8375af432f305ef34f99c288beb33a9719a0", func := "dragnet/dragnetlaw32.ScriptTexts", spec := "scriptTexts", inPlace := ["internal/abi.NoEscape", "internal/bytealg.CountString", "internal/bytealg.IndexByteString", "internal/bytealg.IndexString"], unfollowed := true, recurses := true, named := ["dragnet/words.escapes", "internal/bytealg.MaxLen", "unicode/utf8.first", "unicode/utf8.acceptRanges"], apart := false, laid := [("unicode/utf8.acceptRanges", laid_unicode_utf8_acceptRanges), ("dragnet/words.escapes", laid_dragnet_words_escapes), ("unicode/utf8.first", laid_unicode_utf8_first)], narrowed := true }
def ScriptTextsUptoSaid : Prop := scriptTextsUptoRow.holds Tryd.pinned (OpenSpec.upto scriptTextsSpec)

/-- 'dragnetlaw32.ScriptBack', WHERE WHAT IT READS IS OF BULK AT MOST 1048576: true; the input reads as it did. -/
def scriptBackUptoRow : OpenClaim := { program := "ytoogemdcmnjpnaadoor", sum := "25ae5edc3403bd7a73b9817167df8375af432f305ef34f99c288beb33a9719a0", func := "dragnet/dragnetlaw32.ScriptBack", spec := "scriptBack", inPlace := ["internal/abi.NoEscape", "internal/bytealg.CountString", "internal/bytealg.IndexByteString", "internal/bytealg.IndexString"], unfollowed := true, recurses := true, named := ["dragnet/words.escapes", "internal/bytealg.MaxLen", "unicode/utf8.first", "unicode/utf8.acceptRanges"], apart := false, laid := [("unicode/utf8.acceptRanges", laid_unicode_utf8_acceptRanges), ("dragnet/words.escapes", laid_dragnet_words_escapes), ("unicode/utf8.first", laid_unicode_utf8_first)], narrowed := true }
def ScriptBackUptoSaid : Prop := scriptBackUptoRow.holds Tryd.pinned (OpenSpec.upto scriptBackSpec)

/-- 'dragnetlaw32.ScriptKnown', WHERE WHAT IT READS IS OF BULK AT MOST 1048576: true; the input reads as it did. -/
def scriptKnownUptoRow : OpenClaim := { program := "ytoogemdcmnjpnaadoor", sum := "25ae5edc3403bd7a73b9817167df8375af432f305ef34f99c288beb33a9719a0", func := "dragnet/dragnetlaw32.ScriptKnown", spec := "scriptKnown", inPlace := ["internal/abi.NoEscape", "internal/bytealg.CountString", "internal/bytealg.IndexByteString", "internal/bytealg.IndexString"], unfollowed := true, recurses := true, named := ["internal/bytealg.MaxLen", "unicode/utf8.first", "unicode/utf8.acceptRanges", "dragnet/words.escapes"], apart := false, laid := [("unicode/utf8.acceptRanges", laid_unicode_utf8_acceptRanges), ("dragnet/words.escapes", laid_dragnet_words_escapes), ("unicode/utf8.first", laid_unicode_utf8_first)], narrowed := true }
def ScriptKnownUptoSaid : Prop := scriptKnownUptoRow.holds Tryd.pinned (OpenSpec.upto scriptKnownSpec)

end Rows
end Go.Proofs.YtoogemdcmnjpnaaDoor
