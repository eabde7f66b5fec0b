/- The layout of the reference; the layout where there is none. -/
import Derived.Test.YtmpdgckccgbdnaaDoorC4
namespace Go.Proofs.YtmpdgckccgbdnaaDoor
open Go.RowKit
set_option maxRecDepth 100000 in
set_option maxHeartbeats 1000000 in
theorem layout_no (b k l s r : Int) (h : ¬ Ok2 b k l s r) (w : World) :
    Calls Tryd.prog 4 #[cfV b k l, csV s r] w (RetSl w 3 [] 0 7) := by
  have H := Lib.hid h
  clear h
  go_enter Tryd.func4, Tryd.ntmps4
  go_wp2_with fail
  (with_reducible refine (planned_no b k l s r H.out _).mono ?_); rintro e w1 ⟨rfl, hb1⟩
  have hB := bt (ba (ba (Below.refl _ _) _) _) hb1
  clear hb1
  go_wp2
  go_ret2
  exact RetSl.nil (ba hB _) rfl rfl
end Go.Proofs.YtmpdgckccgbdnaaDoor
