/- WordsJoins: for all fields the law returns true. No condition. -/
import Derived.Test.YtngbgchnbcfliaaDoorN12
import Derived.Test.YtngbgchnbcfliaaDoorN19
namespace Go.Proofs.YtngbgchnbcfliaaDoor
open Go.RowKit
set_option maxRecDepth 100000 in
set_option maxHeartbeats 1000000 in
theorem wordsJoins_walk (w : World) (A : Option Addr) (c : Nat) (l : List Fd) (h : Reads w w.heap.size 2 A l.length (fds l)) (_hc : l.length ≤ c ∧ c ≤ 9223372036854775807) (hP : Pow w) (hR : ER w) (hE : Esc w) (hM : ML w) :
    Calls Tryd.prog 6 #[.slice A l.length c] w fun e w' => e = .returned (.bool true) ∧ Below w.heap.size w w' := by
  rcases hf : farP l with _ | _
  · have Hf := Lib.hid hf
    obtain ⟨r, hr⟩ : ∃ r, r = joinL l := ⟨_, rfl⟩
    have c1 := fun W (h : Reads W W.heap.size 2 A l.length (fds l)) hE => join_ W A c l h hE
    have c2 := fun W (h : Reads W W.heap.size 2 A l.length (fds l)) => rjoin_ W A c l h
    rw [← hr] at c1 c2
    obtain ⟨T, er⟩ := r
    have H1 := Lib.hid c1
    have H2 := Lib.hid c2
    clear hf hr c1 c2
    go_enter Tryd.func6, Tryd.ntmps6
    go_wp2_with fail
    (with_reducible refine (far_ w A c l h).mono ?_); rintro e w ⟨rfl, hw⟩; subst hw
    rw [Hf.out]
    go_wp2_with fail
    (with_reducible refine (H1.out _ h hE).mono ?_); rintro e w1 ⟨rfl, hb1⟩
    go_wp2_with fail
    (with_reducible refine (H2.out _ (h.go hb1)).mono ?_); rintro e w2 ⟨rfl, hb2⟩
    have hB2 := bt hb1 hb2
    go_wp2_with fail
    (with_reducible refine (shown_ _ (hE.below hB2) (hM.below hB2) (hR.below hB2) (hP.below hB2)).mono ?_); rintro e w9 ⟨rfl, hb9⟩
    go_wp2
    go_ret
    exact ⟨rfl, bt hB2 hb9⟩
  · have Hf := Lib.hid hf
    clear hf
    go_enter Tryd.func6, Tryd.ntmps6
    go_wp2_with fail
    (with_reducible refine (far_ w A c l h).mono ?_); rintro e w ⟨rfl, hw⟩; subst hw
    rw [Hf.out]
    go_wp2_with fail
    (with_reducible refine (shown_ _ hE hM hR hP).mono ?_); rintro e w9 ⟨rfl, hb9⟩
    go_wp2
    go_ret
    exact ⟨rfl, hb9⟩
end Go.Proofs.YtngbgchnbcfliaaDoor
