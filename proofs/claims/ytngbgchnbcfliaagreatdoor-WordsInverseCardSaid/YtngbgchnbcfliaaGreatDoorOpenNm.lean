/- A list of numbers with a number that comes in as an argument. -/
import Derived.Test.YtngbgchnbcfliaaGreatDoorOpenInts
namespace Go.Proofs.YtngbgchnbcfliaaGreatDoor
open Go.ChangeShapes Go.WideShapes Go.ChangeAt Go.RowKit Go.Deep Go.Joins
set_option maxRecDepth 100000 in
theorem op_nm {H : Type} {enc : TypeId × Value → H} {w : World} {base : Nat} {sp : Nat → Bool} {held : Bool} {r : Reach} {b0 : Nat} {v : Value} {d : DataW H} {ps : List MemPlace}
    (hval : Value.okWide Tryz.prog w r b0 39 v) (h : DataW.Trod enc Tryz.prog w base sp held 39 v d ps) :
    ∃ (A : Option Addr) (l : List Int) (c : Nat) (n : Int), v = .agg #[.slice A l.length c, .int .i64 n] ∧ Reads w w.heap.size 1 A l.length (l.map (Value.int .i64)) ∧ l.length ≤ c ∧ c ≤ 9223372036854775807 ∧ (-9223372036854775808 ≤ n ∧ n ≤ 9223372036854775807) := by
  obtain ⟨c0, c1, y0, y1, m, rfl, _, _, h0, h1⟩ := open_agg2 Tryz.underlying39 (by kernel_rfl) (by kernel_rfl) hval h
  obtain ⟨A, l, c, hcs, g1, _, g2, g3⟩ := ints_of_trod Tryz.underlying22 Tryz.underlying3 (by kernel_rfl) h0
  obtain ⟨n, e2, _, w2⟩ := DataW.trod_int Tryz.underlying2 h1
  simp at hcs e2
  subst hcs e2
  exact ⟨A, l, c, n, rfl, g1, g2, g3, wf_i64 w2⟩
end Go.Proofs.YtngbgchnbcfliaaGreatDoor
