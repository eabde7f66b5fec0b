/- A string comes back. No condition. -/
import Derived.Test.YtljmidaapgppfaaDoorOwn
namespace Go.Proofs.YtljmidaapgppfaaDoor
open Go.RowKit
theorem ret_str {a b : ByteArray} (h : a = b) : Ending.returned (.string a) = .returned (.string b) := by rw [h]
end Go.Proofs.YtljmidaapgppfaaDoor
