/- ScriptMasks: for every script and every string the law returns true. No condition. -/
import Derived.Test.YtoogemdcmnjpnaaDoorS10
namespace Go.Proofs.YtoogemdcmnjpnaaDoor
open Go.RowKit
set_option maxRecDepth 100000 in
set_option maxHeartbeats 1000000 in
theorem scriptMasks_walk (w : World) (A : Option Addr) (c : Nat) (l : List Sc) (h : IsSc w A l) (_hc : l.length ≤ c ∧ c ≤ 9223372036854775807) (s : ByteArray) (_hs : s.size ≤ 140737488351232) (hE : Esc w) :
    Calls Tryd.prog 3 #[.slice A l.length c, .string s] w fun e w' => e = .returned (.bool true) ∧ Below w.heap.size w w' := by
  by_cases hf : farB l = true
  · go_enter Tryd.func3, Tryd.ntmps3
    go_wp2_with fail
    (with_reducible refine (far w A c l h).mono ?_); rintro e w1 ⟨rfl, rfl⟩
    go_wp2_with fail
    (with_reducible refine (awake _ hE).mono ?_); rintro e w1 ⟨rfl, hb1⟩
    go_wp2
    go_ret
    exact ⟨rfl, hb1⟩
  have hf2 : farB l = false := by simpa using hf
  clear hf
  by_cases hs : 300 < s.size
  · go_enter Tryd.func3, Tryd.ntmps3
    go_wp2_with fail
    (with_reducible refine (far w A c l h).mono ?_); rintro e w1 ⟨rfl, rfl⟩
    go_wp2_with fail
    (with_reducible refine (awake _ hE).mono ?_); rintro e w1 ⟨rfl, hb1⟩
    go_wp2
    go_ret
    exact ⟨rfl, hb1⟩
  have hl := h.len
  have hml := mask_len (l := l) (s := s)
  have hsl := streams_len l
  have hl2 : l.length ≤ 210 := by
    unfold farB at hf2
    simp at hf2
    exact hf2.1
  go_enter Tryd.func3, Tryd.ntmps3
  go_wp2_with fail
  (with_reducible refine (far w A c l h).mono ?_); rintro e w1 ⟨rfl, rfl⟩
  go_wp2_with fail
  (with_reducible refine (smask w A c l h s (by omega)).mono ?_); rintro e w1 ⟨A1, c1, rfl, hb1, hr1, _, _⟩
  have h1 := h.below hb1
  go_wp2_with fail
  (with_reducible refine (rmask w1 A c l h1 s (by omega)).mono ?_); rintro e w2 ⟨A2, c2, rfl, hb2, hr2, _, _⟩
  have h2 := h1.below hb2
  have hB2 := bt hb1 hb2
  have hr1 := hr1.go hb2
  go_wp2_with fail
  (with_reducible refine (sstreams w2 A c l h2).mono ?_); rintro e w3 ⟨A3, c3, rfl, hb3, hr3, _, _⟩
  have h3 := h2.below hb3
  have hB3 := bt hB2 hb3
  have hr1 := hr1.go hb3
  have hr2 := hr2.go hb3
  go_wp2_with fail
  (with_reducible refine (rstreams w3 A c l h3).mono ?_); rintro e w4 ⟨A4, c4, rfl, hb4, hr4, _, _⟩
  have hB4 := bt hB3 hb4
  have hr1 := hr1.go hb4
  have hr2 := hr2.go hb4
  have hr3 := hr3.go hb4
  go_wp2_with fail
  (with_reducible refine (equal_same w4 A1 A2 c1 c2 _ hr1 hr2 (by omega)).mono ?_); rintro e w5 ⟨rfl, hb5⟩
  have hB5 := bt hB4 hb5
  have hr3 := hr3.go hb5
  have hr4 := hr4.go hb5
  go_wp2_with fail
  (with_reducible refine (strings_same w5 A3 A4 c3 c4 _ hr3 hr4 (by omega)).mono ?_); rintro e w6 ⟨rfl, hb6⟩
  have hB6 := bt hB5 hb6
  go_wp2_with fail
  (with_reducible refine (awake _ (hE.below hB6)).mono ?_); rintro e w7 ⟨rfl, hb7⟩
  have hB7 := bt hB6 hb7
  go_wp2
  go_ret
  exact ⟨rfl, hB7⟩
end Go.Proofs.YtoogemdcmnjpnaaDoor
