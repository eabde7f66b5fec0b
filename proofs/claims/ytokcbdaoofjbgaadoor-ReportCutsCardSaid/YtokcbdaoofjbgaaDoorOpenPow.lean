/- The table of powers that lies laid when the call begins. -/
import Derived.Test.YtokcbdaoofjbgaaDoorLaw
import Derived.Test.YtokcbdaoofjbgaaDoorPow
import Derived.Lib.SmallJoins
namespace Go.Proofs.YtokcbdaoofjbgaaDoor
open Go.ChangeShapes Go.WideShapes Go.ChangeAt Go.RowKit Go.Deep Go.Joins
theorem wf64 {n : Int} (h : (Lit.int .i64 n).wf = true) : -9223372036854775808 ≤ n ∧ n ≤ 9223372036854775807 := by
  simpa [Lit.wf, IntKind.min, IntKind.max, IntKind.signed, IntKind.bits] using h
theorem powType : (Tryd.prog.globals[0]?).map (·.type) = some 93 := by kernel_rfl
set_option maxRecDepth 100000 in
theorem pow_of {l : List (String × DataW Unit)} {W : World} (h : laidMet Tryd.prog l W) (hm : ("internal/strconv.uint64pow10", Rows.laid_internal_strconv_uint64pow10) ∈ l) : Pow W := by
  obtain ⟨ps, hv, _, _⟩ := h
  obtain ⟨g, t, cs, fuel, p, hg, ht, hvar, htr⟩ := laidVars_mem hv hm
  obtain rfl := Option.some.inj (pow_global.symm.trans hg)
  obtain rfl := Option.some.inj (powType.symm.trans ht)
  have := Lib.cells_of_tab (zs := Lib.pow10Tab) (k := .u64) Tryd.underlying93 Tryd.underlying86 (by kernel_rfl) (by kernel_rfl) htr
  unfold Pow Lib.TabIs
  rw [hvar, ← this]
end Go.Proofs.YtokcbdaoofjbgaaDoor
