/- Rows of bits: base 16: what strconv asks of the number 16. -/
import Derived.Test.YtaogplmcabbikaaGreatDoorB12
namespace Go.Proofs.YtaogplmcabbikaaGreatDoor
open Go.RowKit
/-- the one entry of the table of trailing zeros that base 16 reads -/
def Tz16 (w : World) : Prop := w.cell? ⟨0, 15, none⟩ = some (.int .u8 4)
theorem pow2_16 (w : World) : Calls Tryz.prog 76 #[.int .i64 16] w fun e w' => e = .returned (.bool true) ∧ w = w' := by
  have h : bits .and .i64 16 15 = 0 := by decide
  go_enter Tryz.func76, Tryz.ntmps76
  go_wp2
  go_ret
  exact ⟨rfl, rfl⟩
theorem tz64_16 (w : World) (hT : Tz16 w) : Calls Tryz.prog 42 #[.int .u64 16] w fun e w' => e = .returned (.int .i64 4) ∧ w = w' := by
  unfold Tz16 at hT
  have h1 : IntKind.u64.wrap (-16) = 18446744073709551600 := by decide
  have h2 : bits .and .u64 16 18446744073709551600 = 16 := by decide
  go_enter Tryz.func42, Tryz.ntmps42
  go_wp2
  go_ret
  exact ⟨rfl, rfl⟩
theorem tz_16 (w : World) (hT : Tz16 w) : Calls Tryz.prog 77 #[.int .u64 16] w fun e w' => e = .returned (.int .i64 4) ∧ w = w' := by
  go_enter Tryz.func77, Tryz.ntmps77
  go_wp2_with fail
  (with_reducible refine (tz64_16 _ hT).mono ?_); rintro e w' ⟨rfl, rfl⟩
  go_wp2
  go_ret
  exact ⟨rfl, rfl⟩
end Go.Proofs.YtaogplmcabbikaaGreatDoor
