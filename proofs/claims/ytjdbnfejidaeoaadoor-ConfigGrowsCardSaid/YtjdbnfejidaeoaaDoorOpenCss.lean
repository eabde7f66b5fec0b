/- Two shapes that come in as an argument. -/
import Derived.Test.YtjdbnfejidaeoaaDoorOpenCf
import Derived.Test.YtjdbnfejidaeoaaDoorConfigGrows
namespace Go.Proofs.YtjdbnfejidaeoaaDoor
open Go.ChangeShapes Go.WideShapes Go.ChangeAt Go.RowKit Go.Deep Go.Joins
theorem okWide_array {P : Program} {w : World} {r : Reach} {b0 : Nat} {t e : TypeId} {n : Nat} {v : Value} (ht : P.underlying t = some (.array n e)) (h : Value.okWide P w r b0 t v) : ∃ cs, v = .agg cs ∧ cs.size = P.cellsOf t := by
  unfold Value.okWide at h
  rw [ht] at h
  obtain ⟨cs, h1, h2, _⟩ := h
  exact ⟨cs, h1, h2⟩
set_option maxRecDepth 100000 in
theorem op_css {H : Type} {enc : TypeId × Value → H} {w : World} {base : Nat} {sp : Nat → Bool} {held : Bool} {r : Reach} {b0 : Nat} {v : Value} {d : DataW H} {ps : List MemPlace} (hval : Value.okWide Tryd.prog w r b0 47 v)
    (h : DataW.Trod enc Tryd.prog w base sp held 47 v d ps) : ∃ s r s' r' : Int, v = .agg #[.int .i64 s, .int .i64 r, .int .i64 s', .int .i64 r'] := by
  obtain ⟨cs, rfl, hsz⟩ := okWide_array Tryd.underlying47 hval
  rw [show Tryd.prog.cellsOf 47 = 4 by kernel_rfl] at hsz
  obtain ⟨fuel, hf⟩ := h
  simp only [Value.cells] at hf
  obtain ⟨xs, m, _, _, _, hxl, hel⟩ := DataW.trod_array Tryd.underlying47 hf
  have g0 := hel 0 (by decide)
  have g1 := hel 1 (by decide)
  rw [show Tryd.prog.cellsOf 25 = 2 by kernel_rfl] at g0 g1
  have sh : ∀ (c0 c1 : Value) (q : DataW H × List MemPlace), DataW.trod enc Tryd.prog w base sp held m 25 [c0, c1] = some q → ∃ s r : Int, c0 = .int .i64 s ∧ c1 = .int .i64 r := by
    intro c0 c1 q hq
    obtain ⟨ys, n, _, _, _, hyl, hfl⟩ := DataW.trod_struct Tryd.underlying25 hq
    match ys, hyl with
    | [y0, y1], _ =>
      have f0 : DataW.trod enc Tryd.prog w base sp held n 3 (([c0, c1].drop 0).take (Tryd.prog.cellsOf 3)) = some y0 := hfl 0 _ rfl
      have f1 : DataW.trod enc Tryd.prog w base sp held n 3 (([c0, c1].drop 1).take (Tryd.prog.cellsOf 3)) = some y1 := hfl 1 _ rfl
      rw [show Tryd.prog.cellsOf 3 = 1 by kernel_rfl] at f0 f1
      obtain ⟨k0, e0, _, _⟩ := DataW.trod_int Tryd.underlying3 f0
      obtain ⟨k1, e1, _, _⟩ := DataW.trod_int Tryd.underlying3 f1
      simp at e0 e1
      exact ⟨k0, k1, e0, e1⟩
  obtain ⟨cl⟩ := cs
  match cl, hsz, xs, hxl with
  | [a0, a1, a2, a3], _, [x0, x1], _ =>
    obtain ⟨s, r, rfl, rfl⟩ := sh a0 a1 x0 g0
    obtain ⟨s', r', rfl, rfl⟩ := sh a2 a3 x1 g1
    exact ⟨s, r, s', r', rfl⟩
end Go.Proofs.YtjdbnfejidaeoaaDoor
