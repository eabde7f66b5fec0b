/- ReportMakes: Make and Merge answer as the reference does. -/
import Derived.Test.YtokcbdaoofjbgaaDoorR15
import Derived.Test.YtokcbdaoofjbgaaDoorR10
import Derived.Test.YtokcbdaoofjbgaaDoorOpenReps
namespace Go.Proofs.YtokcbdaoofjbgaaDoor
open Go.RowKit
set_option maxRecDepth 100000 in
set_option maxHeartbeats 4000000 in
theorem reportMakes_bad (w : World) (A : Option Addr) (c : Nat) (l : List Hit) (A' : Option Addr) (c' : Nat) (L : List Rp) (k : Int) (hP : Pow w)
    (hbad : (300 < l.length ∧ l.length ≤ 20000) ∨ 20005 < l.length ∨ (40 < L.length ∧ L.length ≤ 1000) ∨ 1005 < L.length) :
    Calls Tryd.prog 4 #[.slice A l.length c, .slice A' L.length c', .int .i64 k] w fun e w' => e = .returned (.bool true) ∧ Below w.heap.size w w' := by
  have HP := Lib.hid hP
  clear hP
  go_enter Tryd.func4, Tryd.ntmps4
  by_cases p1 : 300 < l.length <;> by_cases p2 : l.length ≤ 20000 <;> by_cases p3 : 20005 < l.length <;> by_cases q1 : 40 < L.length <;> by_cases q2 : L.length ≤ 1000 <;> by_cases q3 : 1005 < L.length
  all_goals first
    | (exfalso; omega)
    | skip
  all_goals
    clear hbad
    go_wp2_with fail
    (with_reducible refine (shown_ _ HP.out).mono ?_); rintro e w1 ⟨rfl, hb1⟩
    go_wp2
    go_ret
    exact ⟨rfl, hb1⟩
end Go.Proofs.YtokcbdaoofjbgaaDoor
