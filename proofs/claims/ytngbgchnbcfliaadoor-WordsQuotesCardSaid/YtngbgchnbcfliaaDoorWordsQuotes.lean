/- WordsQuotes: for every string the law returns true. No condition. -/
import Derived.Test.YtngbgchnbcfliaaDoorN12
namespace Go.Proofs.YtngbgchnbcfliaaDoor
open Go.RowKit
set_option maxRecDepth 100000 in
set_option maxHeartbeats 1000000 in
theorem wordsQuotes_walk (w : World) (s : ByteArray) (_hs : s.size ≤ 140737488351232) (hP : Pow w) (hR : ER w) (hE : Esc w) (hM : ML w) :
    Calls Tryd.prog 5 #[.string s] w fun e w' => e = .returned (.bool true) ∧ Below w.heap.size w w' := by
  by_cases h9 : 1000 < s.size
  · have i1 : (1000 : Int) < (s.size : Int) := by omega
    go_enter Tryd.func5, Tryd.ntmps5
    go_wp2_with fail
    (with_reducible refine (shown_ _ hE hM hR hP).mono ?_); rintro e w1 ⟨rfl, hb1⟩
    go_wp2
    go_ret
    exact ⟨rfl, hb1⟩
  have i3 : ¬ ((1000 : Int) < (s.size : Int)) := by omega
  have hs : s.size ≤ 1099511627776 := by omega
  clear h9
  go_enter Tryd.func5, Tryd.ntmps5
  go_wp2_with fail
  (with_reducible refine (unquoteW s _ hE hs).mono ?_); rintro e w1 ⟨rfl, hb1⟩
  go_wp2_with fail
  (with_reducible refine (runquote s _ hs).mono ?_); rintro e w2 ⟨rfl, hb2⟩
  have hB2 := bt hb1 hb2
  go_wp2_with fail
  (with_reducible refine (quote s _ (hE.below hB2) hs).mono ?_); rintro e w3 ⟨rfl, hb3⟩
  have hB3 := bt hB2 hb3
  go_wp2_with fail
  (with_reducible refine (rquote s _ hs).mono ?_); rintro e w4 ⟨rfl, hb4⟩
  have hB4 := bt hB3 hb4
  go_wp2_with fail
  (with_reducible refine (shown_ _ (hE.below hB4) (hM.below hB4) (hR.below hB4) (hP.below hB4)).mono ?_); rintro e w5 ⟨rfl, hb5⟩
  go_wp2
  go_ret
  exact ⟨rfl, bt hB4 hb5⟩
end Go.Proofs.YtngbgchnbcfliaaDoor
