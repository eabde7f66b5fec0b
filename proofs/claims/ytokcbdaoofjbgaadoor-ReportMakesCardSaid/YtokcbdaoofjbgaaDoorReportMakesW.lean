/- ReportMakes: both halves joined. -/
import Derived.Test.YtokcbdaoofjbgaaDoorReportMakes
import Derived.Test.YtokcbdaoofjbgaaDoorReportMakesB
namespace Go.Proofs.YtokcbdaoofjbgaaDoor
open Go.RowKit
theorem reportMakes_walk (w : World) (A : Option Addr) (c : Nat) (l : List Hit) (h : Reads w w.heap.size 2 A l.length (hits l)) (hc : l.length ≤ c ∧ c ≤ 9223372036854775807) (A' : Option Addr) (c' : Nat) (L : List Rp) (h' : IsReps w A' L) (hc' : L.length ≤ c' ∧ c' ≤ 9223372036854775807) (k : Int) (_hk : (Lit.int .i64 k).wf = true) (hP : Pow w) :
    Calls Tryd.prog 4 #[.slice A l.length c, .slice A' L.length c', .int .i64 k] w fun e w' => e = .returned (.bool true) ∧ Below w.heap.size w w' := by
  by_cases hb : (300 < l.length ∧ l.length ≤ 20000) ∨ 20005 < l.length ∨ (40 < L.length ∧ L.length ≤ 1000) ∨ 1005 < L.length
  · exact reportMakes_bad w A c l A' c' L k hP hb
  · exact reportMakes_good w A c l h hc A' c' L h' (Nat.le_trans hc'.1 hc'.2) k hP (by omega) (by omega)
end Go.Proofs.YtokcbdaoofjbgaaDoor
