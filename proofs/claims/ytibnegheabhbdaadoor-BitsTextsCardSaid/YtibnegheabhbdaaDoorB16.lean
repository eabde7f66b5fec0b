/- Rows of bits: strconv.FormatUint to base 16, the public one. -/
import Derived.Test.YtibnegheabhbdaaDoorB15
namespace Go.Proofs.YtibnegheabhbdaaDoor
open Go.RowKit
theorem iformat_ (w : World) (x : Nat) (hxx : x < 18446744073709551616) (hT : Tz16 w) :
    Calls Tryd.prog 67 #[.int .u64 x, .int .i64 16] w fun e w' => e = .returned (.string ⟨(hexB x).toArray⟩) ∧ Below w.heap.size w w' := by
  go_enter Tryd.func67, Tryd.ntmps67
  go_wp2_with fail
  (with_reducible refine (format16_ _ x hxx hT).mono ?_); rintro e w' ⟨rfl, hb⟩
  go_wp2
  go_ret
  exact ⟨rfl, hb⟩
theorem format_ (w : World) (x : Nat) (hxx : x < 18446744073709551616) (hT : Tz16 w) :
    Calls Tryd.prog 55 #[.int .u64 x, .int .i64 16] w fun e w' => e = .returned (.string ⟨(hexB x).toArray⟩) ∧ Below w.heap.size w w' := by
  go_enter Tryd.func55, Tryd.ntmps55
  go_wp2_with fail
  (with_reducible refine (iformat_ _ x hxx hT).mono ?_); rintro e w' ⟨rfl, hb⟩
  go_wp2
  go_ret
  exact ⟨rfl, hb⟩
end Go.Proofs.YtibnegheabhbdaaDoor
