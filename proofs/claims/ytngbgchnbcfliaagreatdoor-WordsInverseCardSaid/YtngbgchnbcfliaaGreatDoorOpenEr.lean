/- The error ErrRange of strconv that lies laid when the call begins; the table of powers. -/
import Derived.Test.YtngbgchnbcfliaaGreatDoorLaw
import Derived.Lib.SmallJoins
import Derived.Test.YtngbgchnbcfliaaGreatDoorN12
import Derived.Stop.LaidErr
import Derived.PinnedBridge
namespace Go.Proofs.YtngbgchnbcfliaaGreatDoor
open Go.ChangeShapes Go.WideShapes Go.ChangeAt Go.RowKit Go.Deep Go.Joins
theorem wf64 {n : Int} (h : (Lit.int .i64 n).wf = true) : -9223372036854775808 ≤ n ∧ n ≤ 9223372036854775807 := by
  simpa [Lit.wf, IntKind.min, IntKind.max, IntKind.signed, IntKind.bits] using h
theorem powType : (Tryz.prog.globals[4]?).map (·.type) = some 136 := by kernel_rfl
set_option maxRecDepth 100000 in
theorem pow_of {l : List (String × DataW Unit)} {W : World} (h : laidMet Tryz.prog l W) (hm : ("internal/strconv.uint64pow10", Rows.laid_internal_strconv_uint64pow10) ∈ l) : Pow W := by
  obtain ⟨ps, hv, _, _⟩ := h
  obtain ⟨g, t, cs, fuel, p, hg, ht, hvar, htr⟩ := laidVars_mem hv hm
  obtain rfl := Option.some.inj (pow_global.symm.trans hg)
  obtain rfl := Option.some.inj (powType.symm.trans ht)
  have := Lib.cells_of_tab (zs := Lib.pow10Tab) (k := .u64) Tryz.underlying136 Tryz.underlying111 (by kernel_rfl) (by kernel_rfl) htr
  unfold Pow Lib.TabIs
  rw [hvar, ← this]
theorem star_err : "*" ++ "errors.errorString" = "*errors.errorString" := by decide
theorem row_err (u : TypeId) (h : Tryz.prog.typeName? 3 u = some "*errors.errorString") : u = 141 :=
  typeName_ptr_named (nm := "errors.errorString") (by rw [star_err]; kernel_rfl) (by kernel_rfl) (by decide) u (by rw [star_err]; exact h)
theorem gErrRange : Tryz.prog.globalNamed "strconv.ErrRange" = some 3 := by kernel_rfl
theorem gErrRangeT : (Tryz.prog.globals[3]?).map (·.type) = some 54 := by kernel_rfl
theorem cells_err : Tryz.prog.cellsOf 143 = 1 := by kernel_rfl
theorem cells_str : Tryz.prog.cellsOf 9 = 1 := by kernel_rfl
theorem er_of {l : List (String × DataW Unit)} {W : World} (h4 : laidMet Tryz.prog (("strconv.ErrRange", Rows.laid_strconv_ErrRange) :: l) W) : ER W := by
  obtain ⟨a0, s0, hv0, _⟩ := laid_sentinel h4 gErrRange gErrRangeT Tryz.underlying54 row_err Tryz.underlying141 Tryz.underlying143 rfl rfl Tryz.underlying9 cells_err cells_str
  have hg0 : W.cell? ⟨3, 0, none⟩ = some (.iface 141 (.pointer (some a0))) := by simpa using World.var?_cell gErrRange hv0 0
  exact ⟨_, _, hg0⟩
end Go.Proofs.YtngbgchnbcfliaaGreatDoor
