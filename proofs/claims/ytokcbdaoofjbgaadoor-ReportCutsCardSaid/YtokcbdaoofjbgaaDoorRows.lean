/-
  NARROWER THAN 'FOR EVERY INPUT', by the rows' own cells (each row's printed sentence says how): ReportChecks: laid · ReportMakes: laid · ReportCuts: laid · ReportBytes: laid · ReportFixed: laid · ReportKnown: laid.
  DERIVED. THE GIVEN ROWS OF THIS SEAT. 6 by the template 'for every input the law returns true; each argument reads behind the call as it read before'; 0 by the template 'total and deterministic' (their statements: YtokcbdaoofjbgaaDoorTotals.lean).
  GIVEN WITH THE SEED: the statements are not yours to turn. If you find one false, say at which input.
  Laid BY PROGRAM, IN A SANDBOX (cutbox-rows.mjs): the forced cells as the released guide's own fill.sh prints them over the translation 1b6bc8ce6cf65e69… (all of the seat's roots in one cut). By AI agents, Wed Nov 11 2026. No macro, syntax, notation, axiom, sorry.
-/
import Derived.Test.YtokcbdaoofjbgaaDoorChecked
import GoSem.Claim
import GoSem.ClaimJoined
import GoSem.ClaimMapViews
import Derived.JoinedTies
import Derived.KernelRfl
namespace Go.Proofs.YtokcbdaoofjbgaaDoor
/- THE CELL 'sum', in the pinned program and in every row, IS THE sha256 OF THE DUMP (.gsa) THAT YtokcbdaoofjbgaaDoorProg.lean LOADS. Nothing in Lean hashes anything: it is a label: what it is worth is what the hold of that sum in a sandbox is worth. -/
noncomputable def Tryd.pinned : Pinned := { name := "ytokcbdaoofjbgaadoor", sum := "1b6bc8ce6cf65e691e0f9ea671581a9390ef6d141223aa931bb1f3a2fea96c94", checked := Tryd.checked }
namespace Rows
def none {H : Type} : Left H := { results := [], args := [] }

/- WHAT THE LISTED PACKAGE-LEVEL VARIABLES READ AS WHEN THE CALL BEGINS. Each datum BY PROGRAM (the guide's laid-datum.mjs) off the statement by which the dump's own 'gosem.cut.vars' lays the variable. In a bare row this is a premise. The card (YtokcbdaoofjbgaaDoorCards.lean) ties it to the program's text. -/
def laid_math_bits_deBruijn32tab {H : Type} : DataW H := .agg [.lit (.int .u8 0), .lit (.int .u8 1), .lit (.int .u8 28), .lit (.int .u8 2), .lit (.int .u8 29), .lit (.int .u8 14), .lit (.int .u8 24), .lit (.int .u8 3), .lit (.int .u8 30), .lit (.int .u8 22), .lit (.int .u8 20), .lit (.int .u8 15), .lit (.int .u8 25), .lit (.int .u8 17), .lit (.int .u8 4), .lit (.int .u8 8), .lit (.int .u8 31), .lit (.int .u8 27), .lit (.int .u8 13), .lit (.int .u8 23), .lit (.int .u8 21), .lit (.int .u8 19), .lit (.int .u8 16), .lit (.int .u8 7), .lit (.int .u8 26), .lit (.int .u8 12), .lit (.int .u8 18), .lit (.int .u8 6), .lit (.int .u8 11), .lit (.int .u8 5), .lit (.int .u8 10), .lit (.int .u8 9)]
def laid_math_bits_deBruijn64tab {H : Type} : DataW H := .agg [.lit (.int .u8 0), .lit (.int .u8 1), .lit (.int .u8 56), .lit (.int .u8 2), .lit (.int .u8 57), .lit (.int .u8 49), .lit (.int .u8 28), .lit (.int .u8 3), .lit (.int .u8 61), .lit (.int .u8 58), .lit (.int .u8 42), .lit (.int .u8 50), .lit (.int .u8 38), .lit (.int .u8 29), .lit (.int .u8 17), .lit (.int .u8 4), .lit (.int .u8 62), .lit (.int .u8 47), .lit (.int .u8 59), .lit (.int .u8 36), .lit (.int .u8 45), .lit (.int .u8 43), .lit (.int .u8 51), .lit (.int .u8 22), .lit (.int .u8 53), .lit (.int .u8 39), .lit (.int .u8 33), .lit (.int .u8 30), .lit (.int .u8 24), .lit (.int .u8 18), .lit (.int .u8 12), .lit (.int .u8 5), .lit (.int .u8 63), .lit (.int .u8 55), .lit (.int .u8 48), .lit (.int .u8 27), .lit (.int .u8 60), .lit (.int .u8 41), .lit (.int .u8 37), .lit (.int .u8 16), .lit (.int .u8 46), .lit (.int .u8 35), .lit (.int .u8 44), .lit (.int .u8 21), .lit (.int .u8 52), .lit (.int .u8 32), .lit (.int .u8 23), .lit (.int .u8 11), .lit (.int .u8 54), .lit (.int .u8 26), .lit (.int .u8 40), .lit (.int .u8 15), .lit (.int .u8 34), .lit (.int .u8 20), .lit (.int .u8 31), .lit (.int .u8 10), .lit (.int .u8 25), .lit (.int .u8 14), .lit (.int .u8 19), .lit (.int .u8 9), .lit (.int .u8 13), .lit (.int .u8 8), .lit (.int .u8 7), .lit (.int .u8 6)]
def laid_internal_strconv_uint64pow10 {H : Type} : DataW H := .agg [.lit (.int .u64 1), .lit (.int .u64 10), .lit (.int .u64 100), .lit (.int .u64 1000), .lit (.int .u64 10000), .lit (.int .u64 100000), .lit (.int .u64 1000000), .lit (.int .u64 10000000), .lit (.int .u64 100000000), .lit (.int .u64 1000000000), .lit (.int .u64 10000000000), .lit (.int .u64 100000000000), .lit (.int .u64 1000000000000), .lit (.int .u64 10000000000000), .lit (.int .u64 100000000000000), .lit (.int .u64 1000000000000000), .lit (.int .u64 10000000000000000), .lit (.int .u64 100000000000000000), .lit (.int .u64 1000000000000000000), .lit (.int .u64 10000000000000000000)]

/-- 'dragnetlaw26.ReportChecks': WHATEVER THE INPUT: true; the input reads as it did. -/
def reportChecksSpec : ChangeSpec := { name := "reportChecks", fn := fun _ => fun
  | [d1, d2] => { results := [.lit (.bool true)], args := [d1, d2] }
  | _ => none }
def reportChecksRow : OpenClaim := { program := "ytokcbdaoofjbgaadoor", sum := "1b6bc8ce6cf65e691e0f9ea671581a9390ef6d141223aa931bb1f3a2fea96c94", func := "dragnet/dragnetlaw26.ReportChecks", spec := "reportChecks", inPlace := ["internal/abi.NoEscape"], unfollowed := true, recurses := true, named := ["internal/strconv.uint64pow10", "math/bits.deBruijn32tab", "math/bits.deBruijn64tab"], apart := false, laid := [("math/bits.deBruijn32tab", laid_math_bits_deBruijn32tab), ("math/bits.deBruijn64tab", laid_math_bits_deBruijn64tab), ("internal/strconv.uint64pow10", laid_internal_strconv_uint64pow10)] }
def ReportChecksSaid : Prop := reportChecksRow.holds Tryd.pinned (OpenSpec.ofChange reportChecksSpec)

/-- ITS FALSE NEIGHBOUR: 'it returns false'. Refute it at one input. -/
def reportChecksWrong : ChangeSpec := { name := "reportChecks", fn := fun _ => fun
  | [d1, d2] => { results := [.lit (.bool false)], args := [d1, d2] }
  | _ => none }
def ReportChecksWrongFalsely : Prop := reportChecksRow.holds Tryd.pinned (OpenSpec.ofChange reportChecksWrong)

/-- 'dragnetlaw26.ReportMakes': WHATEVER THE INPUT: true; the input reads as it did. -/
def reportMakesSpec : ChangeSpec := { name := "reportMakes", fn := fun _ => fun
  | [d1, d2, d3] => { results := [.lit (.bool true)], args := [d1, d2, d3] }
  | _ => none }
def reportMakesRow : OpenClaim := { program := "ytokcbdaoofjbgaadoor", sum := "1b6bc8ce6cf65e691e0f9ea671581a9390ef6d141223aa931bb1f3a2fea96c94", func := "dragnet/dragnetlaw26.ReportMakes", spec := "reportMakes", inPlace := ["internal/abi.NoEscape"], unfollowed := true, recurses := true, named := ["internal/strconv.uint64pow10", "math/bits.deBruijn32tab", "math/bits.deBruijn64tab"], apart := false, laid := [("math/bits.deBruijn32tab", laid_math_bits_deBruijn32tab), ("math/bits.deBruijn64tab", laid_math_bits_deBruijn64tab), ("internal/strconv.uint64pow10", laid_internal_strconv_uint64pow10)] }
def ReportMakesSaid : Prop := reportMakesRow.holds Tryd.pinned (OpenSpec.ofChange reportMakesSpec)

/-- ITS FALSE NEIGHBOUR: 'it returns false'. Refute it at one input. -/
def reportMakesWrong : ChangeSpec := { name := "reportMakes", fn := fun _ => fun
  | [d1, d2, d3] => { results := [.lit (.bool false)], args := [d1, d2, d3] }
  | _ => none }
def ReportMakesWrongFalsely : Prop := reportMakesRow.holds Tryd.pinned (OpenSpec.ofChange reportMakesWrong)

/-- 'dragnetlaw26.ReportCuts': WHATEVER THE INPUT: true; the input reads as it did. -/
def reportCutsSpec : ChangeSpec := { name := "reportCuts", fn := fun _ => fun
  | [d1, d2, d3] => { results := [.lit (.bool true)], args := [d1, d2, d3] }
  | _ => none }
def reportCutsRow : OpenClaim := { program := "ytokcbdaoofjbgaadoor", sum := "1b6bc8ce6cf65e691e0f9ea671581a9390ef6d141223aa931bb1f3a2fea96c94", func := "dragnet/dragnetlaw26.ReportCuts", spec := "reportCuts", inPlace := ["internal/abi.NoEscape"], unfollowed := true, recurses := true, named := ["internal/strconv.uint64pow10", "math/bits.deBruijn32tab", "math/bits.deBruijn64tab"], apart := false, laid := [("math/bits.deBruijn32tab", laid_math_bits_deBruijn32tab), ("math/bits.deBruijn64tab", laid_math_bits_deBruijn64tab), ("internal/strconv.uint64pow10", laid_internal_strconv_uint64pow10)] }
def ReportCutsSaid : Prop := reportCutsRow.holds Tryd.pinned (OpenSpec.ofChange reportCutsSpec)

/-- ITS FALSE NEIGHBOUR: 'it returns false'. Refute it at one input. -/
def reportCutsWrong : ChangeSpec := { name := "reportCuts", fn := fun _ => fun
  | [d1, d2, d3] => { results := [.lit (.bool false)], args := [d1, d2, d3] }
  | _ => none }
def ReportCutsWrongFalsely : Prop := reportCutsRow.holds Tryd.pinned (OpenSpec.ofChange reportCutsWrong)

/-- 'dragnetlaw26.ReportBytes': WHATEVER THE INPUT: true; the input reads as it did. -/
def reportBytesSpec : ChangeSpec := { name := "reportBytes", fn := fun _ => fun
  | [d1, d2, d3] => { results := [.lit (.bool true)], args := [d1, d2, d3] }
  | _ => none }
def reportBytesRow : OpenClaim := { program := "ytokcbdaoofjbgaadoor", sum := "1b6bc8ce6cf65e691e0f9ea671581a9390ef6d141223aa931bb1f3a2fea96c94", func := "dragnet/dragnetlaw26.ReportBytes", spec := "reportBytes", inPlace := ["internal/abi.NoEscape"], unfollowed := true, recurses := true, named := ["internal/strconv.uint64pow10", "math/bits.deBruijn32tab", "math/bits.deBruijn64tab"], apart := false, laid := [("math/bits.deBruijn32tab", laid_math_bits_deBruijn32tab), ("math/bits.deBruijn64tab", laid_math_bits_deBruijn64tab), ("internal/strconv.uint64pow10", laid_internal_strconv_uint64pow10)] }
def ReportBytesSaid : Prop := reportBytesRow.holds Tryd.pinned (OpenSpec.ofChange reportBytesSpec)

/-- ITS FALSE NEIGHBOUR: 'it returns false'. Refute it at one input. -/
def reportBytesWrong : ChangeSpec := { name := "reportBytes", fn := fun _ => fun
  | [d1, d2, d3] => { results := [.lit (.bool false)], args := [d1, d2, d3] }
  | _ => none }
def ReportBytesWrongFalsely : Prop := reportBytesRow.holds Tryd.pinned (OpenSpec.ofChange reportBytesWrong)

/-- 'dragnetlaw26.ReportFixed': WHATEVER THE INPUT: true; the input reads as it did. -/
def reportFixedSpec : ChangeSpec := { name := "reportFixed", fn := fun _ => fun
  | [d1, d2, d3] => { results := [.lit (.bool true)], args := [d1, d2, d3] }
  | _ => none }
def reportFixedRow : OpenClaim := { program := "ytokcbdaoofjbgaadoor", sum := "1b6bc8ce6cf65e691e0f9ea671581a9390ef6d141223aa931bb1f3a2fea96c94", func := "dragnet/dragnetlaw26.ReportFixed", spec := "reportFixed", inPlace := ["internal/abi.NoEscape"], unfollowed := true, recurses := true, named := ["internal/strconv.uint64pow10", "math/bits.deBruijn32tab", "math/bits.deBruijn64tab"], apart := false, laid := [("math/bits.deBruijn32tab", laid_math_bits_deBruijn32tab), ("math/bits.deBruijn64tab", laid_math_bits_deBruijn64tab), ("internal/strconv.uint64pow10", laid_internal_strconv_uint64pow10)] }
def ReportFixedSaid : Prop := reportFixedRow.holds Tryd.pinned (OpenSpec.ofChange reportFixedSpec)

/-- ITS FALSE NEIGHBOUR: 'it returns false'. Refute it at one input. -/
def reportFixedWrong : ChangeSpec := { name := "reportFixed", fn := fun _ => fun
  | [d1, d2, d3] => { results := [.lit (.bool false)], args := [d1, d2, d3] }
  | _ => none }
def ReportFixedWrongFalsely : Prop := reportFixedRow.holds Tryd.pinned (OpenSpec.ofChange reportFixedWrong)

/-- 'dragnetlaw26.ReportKnown': WHATEVER THE INPUT: true; the input reads as it did. -/
def reportKnownSpec : ChangeSpec := { name := "reportKnown", fn := fun _ => fun
  | [] => { results := [.lit (.bool true)], args := [] }
  | _ => none }
def reportKnownRow : OpenClaim := { program := "ytokcbdaoofjbgaadoor", sum := "1b6bc8ce6cf65e691e0f9ea671581a9390ef6d141223aa931bb1f3a2fea96c94", func := "dragnet/dragnetlaw26.ReportKnown", spec := "reportKnown", inPlace := ["internal/abi.NoEscape"], unfollowed := true, recurses := true, named := ["internal/strconv.uint64pow10", "math/bits.deBruijn32tab", "math/bits.deBruijn64tab"], apart := false, laid := [("math/bits.deBruijn32tab", laid_math_bits_deBruijn32tab), ("math/bits.deBruijn64tab", laid_math_bits_deBruijn64tab), ("internal/strconv.uint64pow10", laid_internal_strconv_uint64pow10)] }
def ReportKnownSaid : Prop := reportKnownRow.holds Tryd.pinned (OpenSpec.ofChange reportKnownSpec)

/-- ITS FALSE NEIGHBOUR: 'it returns false'. Refute it at one input. -/
def reportKnownWrong : ChangeSpec := { name := "reportKnown", fn := fun _ => fun
  | [] => { results := [.lit (.bool false)], args := [] }
  | _ => none }
def ReportKnownWrongFalsely : Prop := reportKnownRow.holds Tryd.pinned (OpenSpec.ofChange reportKnownWrong)

/- THE SECOND FORM. 'bulk': how many values and letters a reading holds, each counted each time it is reached (what is shared counts as often as it is met; a slice's spare places count too). A statement '..UptoSaid' is the law's where the arguments, and the package variables that the reading takes, are together of bulk at most 1048576: NARROWER than '..Said'. Prove '..Said' where nothing that the law and all that it calls make is longer than what came in: it says more and counts as full. Else prove '..UptoSaid'. A law counts once. -/
mutual
def uptoBulk {H : Type} : DataW H → Nat
  | .lit (.string bytes) => bytes.length + 1
  | .lit _ => 1
  | .nil => 1
  | .ptr d => uptoBulk d + 1
  | .slice elems spare => uptoBulkAll elems + uptoBulkAll spare + 1
  | .agg parts => uptoBulkAll parts + 1
  | .iface _ d => uptoBulk d + 1
  | .map entries => uptoBulkEntries entries + 1
  | .held _ => 1
def uptoBulkAll {H : Type} : List (DataW H) → Nat
  | [] => 0
  | d :: r => uptoBulk d + uptoBulkAll r
def uptoBulkEntries {H : Type} : List (Lit × DataW H) → Nat
  | [] => 0
  | x :: r => uptoBulkEntry x + uptoBulkEntries r
def uptoBulkEntry {H : Type} : Lit × DataW H → Nat
  | (.string bytes, d) => bytes.length + uptoBulk d + 1
  | (_, d) => uptoBulk d + 1
 end
def uptoSmall : (H : Type) → List (DataW H) → Bool := fun _ ds => decide (uptoBulkAll ds ≤ 1048576)
def OpenSpec.upto (s : _root_.Go.ChangeSpec) : _root_.Go.OpenSpec := { _root_.Go.OpenSpec.ofChange s with cond := some uptoSmall }

/-- 'dragnetlaw26.ReportChecks', WHERE WHAT IT READS IS OF BULK AT MOST 1048576: true; the input reads as it did. -/
def reportChecksUptoRow : OpenClaim := { program := "ytokcbdaoofjbgaadoor", sum := "1b6bc8ce6cf65e691e0f9ea671581a9390ef6d141223aa931bb1f3a2fea96c94", func := "dragnet/dragnetlaw26.ReportChecks", spec := "reportChecks", inPlace := ["internal/abi.NoEscape"], unfollowed := true, recurses := true, named := ["internal/strconv.uint64pow10", "math/bits.deBruijn32tab", "math/bits.deBruijn64tab"], apart := false, laid := [("math/bits.deBruijn32tab", laid_math_bits_deBruijn32tab), ("math/bits.deBruijn64tab", laid_math_bits_deBruijn64tab), ("internal/strconv.uint64pow10", laid_internal_strconv_uint64pow10)], narrowed := true }
def ReportChecksUptoSaid : Prop := reportChecksUptoRow.holds Tryd.pinned (OpenSpec.upto reportChecksSpec)

/-- 'dragnetlaw26.ReportMakes', WHERE WHAT IT READS IS OF BULK AT MOST 1048576: true; the input reads as it did. -/
def reportMakesUptoRow : OpenClaim := { program := "ytokcbdaoofjbgaadoor", sum := "1b6bc8ce6cf65e691e0f9ea671581a9390ef6d141223aa931bb1f3a2fea96c94", func := "dragnet/dragnetlaw26.ReportMakes", spec := "reportMakes", inPlace := ["internal/abi.NoEscape"], unfollowed := true, recurses := true, named := ["internal/strconv.uint64pow10", "math/bits.deBruijn32tab", "math/bits.deBruijn64tab"], apart := false, laid := [("math/bits.deBruijn32tab", laid_math_bits_deBruijn32tab), ("math/bits.deBruijn64tab", laid_math_bits_deBruijn64tab), ("internal/strconv.uint64pow10", laid_internal_strconv_uint64pow10)], narrowed := true }
def ReportMakesUptoSaid : Prop := reportMakesUptoRow.holds Tryd.pinned (OpenSpec.upto reportMakesSpec)

/-- 'dragnetlaw26.ReportCuts', WHERE WHAT IT READS IS OF BULK AT MOST 1048576: true; the input reads as it did. -/
def reportCutsUptoRow : OpenClaim := { program := "ytokcbdaoofjbgaadoor", sum := "1b6bc8ce6cf65e691e0f9ea671581a9390ef6d141223aa931bb1f3a2fea96c94", func := "dragnet/dragnetlaw26.ReportCuts", spec := "reportCuts", inPlace := ["internal/abi.NoEscape"], unfollowed := true, recurses := true, named := ["internal/strconv.uint64pow10", "math/bits.deBruijn32tab", "math/bits.deBruijn64tab"], apart := false, laid := [("math/bits.deBruijn32tab", laid_math_bits_deBruijn32tab), ("math/bits.deBruijn64tab", laid_math_bits_deBruijn64tab), ("internal/strconv.uint64pow10", laid_internal_strconv_uint64pow10)], narrowed := true }
def ReportCutsUptoSaid : Prop := reportCutsUptoRow.holds Tryd.pinned (OpenSpec.upto reportCutsSpec)

/-- 'dragnetlaw26.ReportBytes', WHERE WHAT IT READS IS OF BULK AT MOST 1048576: true; the input reads as it did. -/
def reportBytesUptoRow : OpenClaim := { program := "ytokcbdaoofjbgaadoor", sum := "1b6bc8ce6cf65e691e0f9ea671581a9390ef6d141223aa931bb1f3a2fea96c94", func := "dragnet/dragnetlaw26.ReportBytes", spec := "reportBytes", inPlace := ["internal/abi.NoEscape"], unfollowed := true, recurses := true, named := ["internal/strconv.uint64pow10", "math/bits.deBruijn32tab", "math/bits.deBruijn64tab"], apart := false, laid := [("math/bits.deBruijn32tab", laid_math_bits_deBruijn32tab), ("math/bits.deBruijn64tab", laid_math_bits_deBruijn64tab), ("internal/strconv.uint64pow10", laid_internal_strconv_uint64pow10)], narrowed := true }
def ReportBytesUptoSaid : Prop := reportBytesUptoRow.holds Tryd.pinned (OpenSpec.upto reportBytesSpec)

/-- 'dragnetlaw26.ReportFixed', WHERE WHAT IT READS IS OF BULK AT MOST 1048576: true; the input reads as it did. -/
def reportFixedUptoRow : OpenClaim := { program := "ytokcbdaoofjbgaadoor", sum := "1b6bc8ce6cf65e691e0f9ea671581a9390ef6d141223aa931bb1f3a2fea96c94", func := "dragnet/dragnetlaw26.ReportFixed", spec := "reportFixed", inPlace := ["internal/abi.NoEscape"], unfollowed := true, recurses := true, named := ["internal/strconv.uint64pow10", "math/bits.deBruijn32tab", "math/bits.deBruijn64tab"], apart := false, laid := [("math/bits.deBruijn32tab", laid_math_bits_deBruijn32tab), ("math/bits.deBruijn64tab", laid_math_bits_deBruijn64tab), ("internal/strconv.uint64pow10", laid_internal_strconv_uint64pow10)], narrowed := true }
def ReportFixedUptoSaid : Prop := reportFixedUptoRow.holds Tryd.pinned (OpenSpec.upto reportFixedSpec)

/-- 'dragnetlaw26.ReportKnown', WHERE WHAT IT READS IS OF BULK AT MOST 1048576: true; the input reads as it did. -/
def reportKnownUptoRow : OpenClaim := { program := "ytokcbdaoofjbgaadoor", sum := "1b6bc8ce6cf65e691e0f9ea671581a9390ef6d141223aa931bb1f3a2fea96c94", func := "dragnet/dragnetlaw26.ReportKnown", spec := "reportKnown", inPlace := ["internal/abi.NoEscape"], unfollowed := true, recurses := true, named := ["internal/strconv.uint64pow10", "math/bits.deBruijn32tab", "math/bits.deBruijn64tab"], apart := false, laid := [("math/bits.deBruijn32tab", laid_math_bits_deBruijn32tab), ("math/bits.deBruijn64tab", laid_math_bits_deBruijn64tab), ("internal/strconv.uint64pow10", laid_internal_strconv_uint64pow10)], narrowed := true }
def ReportKnownUptoSaid : Prop := reportKnownUptoRow.holds Tryd.pinned (OpenSpec.upto reportKnownSpec)

end Rows
end Go.Proofs.YtokcbdaoofjbgaaDoor
