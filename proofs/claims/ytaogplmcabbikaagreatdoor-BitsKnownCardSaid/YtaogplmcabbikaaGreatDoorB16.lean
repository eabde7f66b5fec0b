/- Rows of bits: strconv.FormatUint to base 16, the public one. -/
import Derived.Test.YtaogplmcabbikaaGreatDoorB15
namespace Go.Proofs.YtaogplmcabbikaaGreatDoor
open Go.RowKit
theorem iformat_ (w : World) (x : Nat) (hxx : x < 18446744073709551616) (hT : Tz16 w) :
    Calls Tryz.prog 33 #[.int .u64 x, .int .i64 16] w fun e w' => e = .returned (.string ⟨(hexB x).toArray⟩) ∧ Below w.heap.size w w' := by
  go_enter Tryz.func33, Tryz.ntmps33
  go_wp2_with fail
  (with_reducible refine (format16_ _ x hxx hT).mono ?_); rintro e w' ⟨rfl, hb⟩
  go_wp2
  go_ret
  exact ⟨rfl, hb⟩
theorem format_ (w : World) (x : Nat) (hxx : x < 18446744073709551616) (hT : Tz16 w) :
    Calls Tryz.prog 18 #[.int .u64 x, .int .i64 16] w fun e w' => e = .returned (.string ⟨(hexB x).toArray⟩) ∧ Below w.heap.size w w' := by
  go_enter Tryz.func18, Tryz.ntmps18
  go_wp2_with fail
  (with_reducible refine (iformat_ _ x hxx hT).mono ?_); rintro e w' ⟨rfl, hb⟩
  go_wp2
  go_ret
  exact ⟨rfl, hb⟩
end Go.Proofs.YtaogplmcabbikaaGreatDoor
