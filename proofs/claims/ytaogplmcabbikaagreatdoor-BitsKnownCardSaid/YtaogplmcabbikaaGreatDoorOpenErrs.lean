/- The two errors of strconv that lie laid when the call begins; two laid variables change places. -/
import Derived.Test.YtaogplmcabbikaaGreatDoorBitsKnown
import Derived.Test.YtaogplmcabbikaaGreatDoorShelf
import Derived.Lib.LaidCaseMet
import Derived.Shelf.Unicode.CaseLaid
import Derived.Stop.LaidErr
import Derived.PinnedBridge
namespace Go.Proofs.YtaogplmcabbikaaGreatDoor
open Go.ChangeShapes Go.WideShapes Go.ChangeAt Go.RowKit Go.Deep Go.Joins
theorem star_err : "*" ++ "errors.errorString" = "*errors.errorString" := by decide
theorem row_err (u : TypeId) (h : Tryz.prog.typeName? 3 u = some "*errors.errorString") : u = 133 :=
  typeName_ptr_named (nm := "errors.errorString") (by rw [star_err]; kernel_rfl) (by kernel_rfl) (by decide) u (by rw [star_err]; exact h)
theorem gErrRange : Tryz.prog.globalNamed "strconv.ErrRange" = some 3 := by kernel_rfl
theorem gErrRangeT : (Tryz.prog.globals[3]?).map (·.type) = some 61 := by kernel_rfl
theorem gErrSyntax : Tryz.prog.globalNamed "strconv.ErrSyntax" = some 2 := by kernel_rfl
theorem gErrSyntaxT : (Tryz.prog.globals[2]?).map (·.type) = some 61 := by kernel_rfl
theorem cells_err : Tryz.prog.cellsOf 135 = 1 := by kernel_rfl
theorem cells_str : Tryz.prog.cellsOf 9 = 1 := by kernel_rfl
theorem errs_of {W : World} (h : laidMet Tryz.prog Rows.bitsKnownRow.laid W) : Errs W := by
  have h4 := h.tail.tail.tail.tail
  obtain ⟨a0, s0, hv0, _⟩ := laid_sentinel h4 gErrRange gErrRangeT Tryz.underlying61 row_err Tryz.underlying133 Tryz.underlying135 rfl rfl Tryz.underlying9 cells_err cells_str
  obtain ⟨a1, s1, hv1, _⟩ := laid_sentinel h4.tail gErrSyntax gErrSyntaxT Tryz.underlying61 row_err Tryz.underlying133 Tryz.underlying135 rfl rfl Tryz.underlying9 cells_err cells_str
  have hg0 : W.cell? ⟨3, 0, none⟩ = some (.iface 133 (.pointer (some a0))) := by simpa using World.var?_cell gErrRange hv0 0
  have hg1 : W.cell? ⟨2, 0, none⟩ = some (.iface 133 (.pointer (some a1))) := by simpa using World.var?_cell gErrSyntax hv1 0
  exact ⟨⟨_, hg1, .inr ⟨_, _, rfl⟩⟩, ⟨_, hg0, .inr ⟨_, _, rfl⟩⟩⟩
theorem laidVars_swap {P : Program} {w : World} (x y : String × DataW Unit) : ∀ (l : List (String × DataW Unit)) {ps : List MemPlace}, DataW.LaidVars P w (l ++ [x, y]) ps → ∃ qs, DataW.LaidVars P w (l ++ [y, x]) qs ∧ ps.Perm qs
  | [], ps, h => by
    obtain ⟨n1, d1⟩ := x
    obtain ⟨n2, d2⟩ := y
    obtain ⟨g, t, cs, fuel, p, q, a1, a2, a3, a4, hq, rfl⟩ := h
    obtain ⟨g', t', cs', fuel', p', q', b1, b2, b3, b4, hq', rfl⟩ := hq
    obtain rfl := hq'
    refine ⟨_, ⟨g', t', cs', fuel', p', _, b1, b2, b3, b4, ⟨g, t, cs, fuel, p, [], a1, a2, a3, a4, rfl, rfl⟩, rfl⟩, ?_⟩
    simp only [List.append_nil]
    refine List.Perm.trans (List.perm_append_comm) ?_
    simp only [List.append_assoc]
    refine List.Perm.trans (List.perm_append_left_iff _ |>.2 ?_) (List.Perm.refl _)
    exact List.Perm.refl _
  | z :: l, ps, h => by
    obtain ⟨n1, d1⟩ := z
    obtain ⟨g, t, cs, fuel, p, q, a1, a2, a3, a4, hq, rfl⟩ := h
    obtain ⟨qs, h1, h2⟩ := laidVars_swap x y l hq
    exact ⟨_, ⟨g, t, cs, fuel, p, qs, a1, a2, a3, a4, h1, rfl⟩, List.Perm.append_left _ h2⟩
theorem laidMet_swap {P : Program} {w : World} {x y : String × DataW Unit} {l : List (String × DataW Unit)} (h : laidMet P (l ++ [x, y]) w) : laidMet P (l ++ [y, x]) w := by
  obtain ⟨ps, hv, hnd, hrows⟩ := h
  obtain ⟨qs, h1, h2⟩ := laidVars_swap x y l hv
  exact ⟨qs, h1, h2.nodup_iff.1 hnd, fun b off hm => hrows b off (h2.mem_iff.2 hm)⟩
end Go.Proofs.YtaogplmcabbikaaGreatDoor
