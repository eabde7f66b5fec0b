/- ScriptShapes: for every two scripts the law returns true. No condition. -/
import Derived.Test.YtoogemdcmnjpnaaDoorS10
namespace Go.Proofs.YtoogemdcmnjpnaaDoor
open Go.RowKit
set_option maxRecDepth 100000 in
set_option maxHeartbeats 1000000 in
theorem scriptShapes_walk (w : World) (A : Option Addr) (c : Nat) (l : List Sc) (h : IsSc w A l) (_hc : l.length ≤ c ∧ c ≤ 9223372036854775807) (A' : Option Addr) (c' : Nat) (m : List Sc) (h' : IsSc w A' m) (_hc' : m.length ≤ c' ∧ c' ≤ 9223372036854775807) (hE : Esc w) :
    Calls Tryd.prog 4 #[.slice A l.length c, .slice A' m.length c'] w fun e w' => e = .returned (.bool true) ∧ Below w.heap.size w w' := by
  by_cases hf : farB l = true
  · go_enter Tryd.func4, Tryd.ntmps4
    go_wp2_with fail
    (with_reducible refine (far w A c l h).mono ?_); rintro e w1 ⟨rfl, rfl⟩
    go_wp2_with fail
    (with_reducible refine (awake _ hE).mono ?_); rintro e w1 ⟨rfl, hb1⟩
    go_wp2
    go_ret
    exact ⟨rfl, hb1⟩
  have hf2 : farB l = false := by simpa using hf
  clear hf
  by_cases hf : farB m = true
  · go_enter Tryd.func4, Tryd.ntmps4
    go_wp2_with fail
    (with_reducible refine (far w A c l h).mono ?_); rintro e w1 ⟨rfl, rfl⟩
    go_wp2_with fail
    (with_reducible refine (far w A' c' m h').mono ?_); rintro e w1 ⟨rfl, rfl⟩
    go_wp2_with fail
    (with_reducible refine (awake _ hE).mono ?_); rintro e w1 ⟨rfl, hb1⟩
    go_wp2
    go_ret
    exact ⟨rfl, hb1⟩
  have hf3 : farB m = false := by simpa using hf
  clear hf
  have hsl := shape_len l
  have e1 : ((chk l).1 != (chk l).1) = false := by simp
  have e2 : ((chk l).2 != (chk l).2) = false := by simp
  go_enter Tryd.func4, Tryd.ntmps4
  go_wp2_with fail
  (with_reducible refine (far w A c l h).mono ?_); rintro e w1 ⟨rfl, rfl⟩
  go_wp2_with fail
  (with_reducible refine (far w A' c' m h').mono ?_); rintro e w1 ⟨rfl, rfl⟩
  go_wp2_with fail
  (with_reducible refine (scheck w A c l h).mono ?_); rintro e w1 ⟨rfl, hb1⟩
  have h1 := h.below hb1
  have h1' := h'.below hb1
  go_wp2_with fail
  (with_reducible refine (rcheck w1 A c l h1).mono ?_); rintro e w2 ⟨rfl, hb2⟩
  have hB2 := bt hb1 hb2
  have h2 := h1.below hb2
  have h2' := h1'.below hb2
  go_wp2_with fail
  (with_reducible refine (sshape w2 A c l h2).mono ?_); rintro e w3 ⟨A3, c3, rfl, hb3, hr3, _, _⟩
  have hB3 := bt hB2 hb3
  have h3 := h2.below hb3
  have h3' := h2'.below hb3
  go_wp2_with fail
  (with_reducible refine (rshape w3 A c l h3).mono ?_); rintro e w4 ⟨A4, c4, rfl, hb4, hr4, _, _⟩
  have hB4 := bt hB3 hb4
  have h4 := h3.below hb4
  have h4' := h3'.below hb4
  have hr3 := hr3.go hb4
  go_wp2_with fail
  (with_reducible refine (shape_same w4 A3 A4 c3 c4 _ hr3 hr4 (by omega)).mono ?_); rintro e w5 ⟨rfl, hb5⟩
  have hB5 := bt hB4 hb5
  have h5 := h4.below hb5
  have h5' := h4'.below hb5
  go_wp2_with fail
  (with_reducible refine (ssame w5 A A' c c' l m h5 h5').mono ?_); rintro e w6 ⟨rfl, hb6⟩
  have hB6 := bt hB5 hb6
  have h6 := h5.below hb6
  have h6' := h5'.below hb6
  go_wp2_with fail
  (with_reducible refine (rsame w6 A A' c c' l m h6 h6').mono ?_); rintro e w7 ⟨rfl, hb7⟩
  have hB7 := bt hB6 hb7
  have h7 := h6.below hb7
  go_wp2_with fail
  (with_reducible refine (stotal w7 A c l h7).mono ?_); rintro e w8 ⟨rfl, hb8⟩
  have hB8 := bt hB7 hb8
  have h8 := h7.below hb8
  go_wp2_with fail
  (with_reducible refine (rtotal w8 A c l h8).mono ?_); rintro e w9 ⟨rfl, hb9⟩
  have hB9 := bt hB8 hb9
  go_wp2_with fail
  (with_reducible refine (awake _ (hE.below hB9)).mono ?_); rintro e w10 ⟨rfl, hb10⟩
  have hB10 := bt hB9 hb10
  go_wp2
  go_ret
  exact ⟨rfl, hB10⟩
end Go.Proofs.YtoogemdcmnjpnaaDoor
