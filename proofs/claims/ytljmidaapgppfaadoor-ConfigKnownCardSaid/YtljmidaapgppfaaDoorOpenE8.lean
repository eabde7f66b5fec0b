/- The error ErrRange of strconv that lies laid when the call begins. -/
import Derived.Test.YtljmidaapgppfaaDoorLaw
import Derived.Lib.SmallJoins
import Derived.Test.YtljmidaapgppfaaDoorN9
import Derived.Stop.LaidErr
import Derived.PinnedBridge
namespace Go.Proofs.YtljmidaapgppfaaDoor
open Go.ChangeShapes Go.WideShapes Go.ChangeAt Go.RowKit Go.Deep Go.Joins
theorem star_err : "*" ++ "errors.errorString" = "*errors.errorString" := by decide
theorem row_err (u : TypeId) (h : Tryd.prog.typeName? 3 u = some "*errors.errorString") : u = 133 :=
  typeName_ptr_named (nm := "errors.errorString") (by rw [star_err]; kernel_rfl) (by kernel_rfl) (by decide) u (by rw [star_err]; exact h)
theorem gErrRange : Tryd.prog.globalNamed "strconv.ErrRange" = some 3 := by kernel_rfl
theorem gErrRangeT : (Tryd.prog.globals[3]?).map (·.type) = some 74 := by kernel_rfl
theorem cells_err : Tryd.prog.cellsOf 135 = 1 := by kernel_rfl
theorem cells_str : Tryd.prog.cellsOf 9 = 1 := by kernel_rfl
theorem er_of {l : List (String × DataW Unit)} {W : World} (h4 : laidMet Tryd.prog (("strconv.ErrRange", Rows.laid_strconv_ErrRange) :: l) W) : ER W := by
  obtain ⟨a0, s0, hv0, _⟩ := laid_sentinel h4 gErrRange gErrRangeT Tryd.underlying74 row_err Tryd.underlying133 Tryd.underlying135 rfl rfl Tryd.underlying9 cells_err cells_str
  have hg0 : W.cell? ⟨3, 0, none⟩ = some (.iface 133 (.pointer (some a0))) := by simpa using World.var?_cell gErrRange hv0 0
  exact ⟨_, _, hg0⟩
end Go.Proofs.YtljmidaapgppfaaDoor
