/- Two truth values that come in as an argument. -/
import Derived.Test.YtibnegheabhbdaaDoorOpenBits
namespace Go.Proofs.YtibnegheabhbdaaDoor
open Go.ChangeShapes Go.WideShapes Go.ChangeAt Go.RowKit Go.Deep Go.Joins
theorem okWide_array {P : Program} {w : World} {r : Reach} {b0 : Nat} {t e : TypeId} {n : Nat} {v : Value} (ht : P.underlying t = some (.array n e)) (h : Value.okWide P w r b0 t v) : ∃ cs, v = .agg cs ∧ cs.size = P.cellsOf t := by
  unfold Value.okWide at h
  rw [ht] at h
  obtain ⟨cs, h1, h2, _⟩ := h
  exact ⟨cs, h1, h2⟩
set_option maxRecDepth 100000 in
theorem op_b2 {H : Type} {enc : TypeId × Value → H} {w : World} {base : Nat} {sp : Nat → Bool} {held : Bool} {r : Reach} {b0 : Nat} {v : Value} {d : DataW H} {ps : List MemPlace} (hval : Value.okWide Tryd.prog w r b0 38 v)
    (h : DataW.Trod enc Tryd.prog w base sp held 38 v d ps) : ∃ x y : Bool, v = .agg #[.bool x, .bool y] := by
  obtain ⟨cs, rfl, hsz⟩ := okWide_array Tryd.underlying38 hval
  rw [show Tryd.prog.cellsOf 38 = 2 by kernel_rfl] at hsz
  obtain ⟨fuel, hf⟩ := h
  simp only [Value.cells] at hf
  obtain ⟨xs, m, _, _, _, hxl, hel⟩ := DataW.trod_array Tryd.underlying38 hf
  have g0 := hel 0 (by decide)
  have g1 := hel 1 (by decide)
  rw [show Tryd.prog.cellsOf 4 = 1 by kernel_rfl] at g0 g1
  obtain ⟨cl⟩ := cs
  match cl, hsz, xs, hxl with
  | [a0, a1], _, [x0, x1], _ =>
    obtain ⟨x, e0, _⟩ := DataW.trod_bool Tryd.underlying4 g0
    obtain ⟨y, e1, _⟩ := DataW.trod_bool Tryd.underlying4 g1
    simp at e0 e1
    subst e0 e1
    exact ⟨x, y, rfl⟩
end Go.Proofs.YtibnegheabhbdaaDoor
