/- TraceDiffers: Differ and Digest answer as the document says. -/
import Derived.Test.YtpgojecldmcopaaDoorT16
namespace Go.Proofs.YtpgojecldmcopaaDoor
open Go.RowKit
theorem far_no {n : Nat} (h : Hid (false = decide (400 < n ∧ n ≤ 5000 ∨ 5100 < n))) : n ≤ 5100 := by
  have := of_decide_eq_false h.out.symm
  omega
end Go.Proofs.YtpgojecldmcopaaDoor
