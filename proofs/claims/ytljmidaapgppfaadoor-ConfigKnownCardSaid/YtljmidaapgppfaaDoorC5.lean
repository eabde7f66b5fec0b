/- The layout of the reference; the layout where there is none. -/
import Derived.Test.YtljmidaapgppfaaDoorC4
namespace Go.Proofs.YtljmidaapgppfaaDoor
open Go.RowKit
set_option maxRecDepth 100000 in
set_option maxHeartbeats 1000000 in
theorem layout_no (b k l s r : Int) (h : ¬ Ok2 b k l s r) (w : World) :
    Calls Tryd.prog 10 #[cfV b k l, csV s r] w (RetSl w 3 [] 0 7) := by
  have H := Lib.hid h
  clear h
  go_enter Tryd.func10, Tryd.ntmps10
  go_wp2_with fail
  (with_reducible refine (planned_no b k l s r H.out _).mono ?_); rintro e w1 ⟨rfl, hb1⟩
  have hB := bt (ba (ba (Below.refl _ _) _) _) hb1
  clear hb1
  go_wp2
  go_ret2
  exact RetSl.nil (ba hB _) rfl rfl
abbrev rzO (s r n : Int) : Obj := .cells #[.int .i64 (256 * s), .int .i64 (s), .int .i64 (r * s), .int .i64 (s), .int .i64 (s), .int .i64 (r), .int .i64 (3 * n), .int .i64 (n), .int .i64 (4)] 38 (0, 0)
end Go.Proofs.YtljmidaapgppfaaDoor
