/- The variable that strings.Index reads holds a number. -/
import Derived.Test.YtljmidaapgppfaaDoorOwn
import Derived.Test.YtljmidaapgppfaaDoorShelf
namespace Go.Proofs.YtljmidaapgppfaaDoor
open Go.RowKit
def ML (w : World) : Prop := ∃ m, w.cell? ⟨1, 0, none⟩ = some (.int .i64 m)
theorem ML.below {w w' : World} (h : ML w) (hb : Below w.heap.size w w') : ML w' := by
  obtain ⟨m, hm⟩ := h
  refine ⟨m, (hb.cell ?_).trans hm⟩
  rcases Nat.lt_or_ge 1 w.heap.size with hlt | hge
  · exact hlt
  · unfold World.cell? at hm
    simp [Array.getElem?_eq_none hge] at hm
theorem ml_of {w : World} (h : w.ShapedOpen Tryd.prog) : ML w := Tryd.laysM146.s1_3 w h
end Go.Proofs.YtljmidaapgppfaaDoor
