/- The variable that strings.Index reads holds a number; strings.Cut at a space. -/
import Derived.Test.YtaainkjgnljihaaGreatDoorN3
import Derived.Test.YtaainkjgnljihaaGreatDoorShelf
namespace Go.Proofs.YtaainkjgnljihaaGreatDoor
open Go.RowKit
/-- the variable that strings.Index reads holds a number -/
def ML (w : World) : Prop := ∃ m, w.cell? ⟨1, 0, none⟩ = some (.int .i64 m)
theorem ML.below {w w' : World} (h : ML w) (hb : Below w.heap.size w w') : ML w' := by
  obtain ⟨m, hm⟩ := h
  refine ⟨m, (hb.cell ?_).trans hm⟩
  rcases Nat.lt_or_ge 1 w.heap.size with hlt | hge
  · exact hlt
  · unfold World.cell? at hm
    simp [Array.getElem?_eq_none hge] at hm
theorem ml_of {w : World} (h : w.ShapedOpen Tryz.prog) : ML w := Tryz.laysM146.s1_3 w h
theorem cut32 (s : ByteArray) (w : World) (hM : ML w) (hs : s.size ≤ 1000000) :
    Calls Tryz.prog 68 #[.string s, .string ⟨#[32]⟩] w fun e w' => (∃ a b, e = .returned (.tuple #[.string ⟨(upTo s.data.toList).toArray⟩, .string a, .bool b])) ∧ Below w.heap.size w w' := by
  obtain ⟨m, hm⟩ := hM
  refine (Tryz.strings_Cut s ⟨#[32]⟩ m w (by omega) hm).mono ?_
  rintro e w' ⟨rfl, n, rfl⟩
  refine ⟨⟨⟨(Lib.cut s.data.toList [32]).2.1.toArray⟩, (Lib.cut s.data.toList [32]).2.2, ?_⟩, drewN_below _ _⟩
  rw [← upTo_cut]
end Go.Proofs.YtaainkjgnljihaaGreatDoor
