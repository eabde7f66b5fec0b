/- Small decimal forms. No condition. -/
import Derived.Test.YtljmidaapgppfaaDoorN8
import Derived.Test.YtljmidaapgppfaaDoorStep
namespace Go.Proofs.YtljmidaapgppfaaDoor
open Go.RowKit
theorem itoa_one (i : Nat) (h : i < 10) : dgL (i : Int) = [UInt8.ofNat (48 + i)] := by
  unfold dgL; rw [Lib.itoa_nonneg, Lib.decDigits_one h]
end Go.Proofs.YtljmidaapgppfaaDoor
