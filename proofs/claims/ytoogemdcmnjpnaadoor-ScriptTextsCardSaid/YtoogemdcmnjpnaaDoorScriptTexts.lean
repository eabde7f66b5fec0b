/- ScriptTexts: for every script and every string the law returns true. No condition. -/
import Derived.Test.YtoogemdcmnjpnaaDoorS24
namespace Go.Proofs.YtoogemdcmnjpnaaDoor
open Go.RowKit
set_option maxRecDepth 100000 in
set_option maxHeartbeats 1000000 in
theorem scriptTexts_walk (w : World) (A : Option Addr) (c : Nat) (l : List Sc) (h : IsSc w A l) (_hc : l.length ≤ c ∧ c ≤ 9223372036854775807) (s : ByteArray) (_hs : s.size ≤ 140737488351232) (hE : Esc w) (hM : ML w) :
    Calls Tryd.prog 9 #[.slice A l.length c, .string s] w fun e w' => e = .returned (.bool true) ∧ Below w.heap.size w w' := by
  by_cases hf : farB l = true
  · go_enter Tryd.func9, Tryd.ntmps9
    go_wp2_with fail
    (with_reducible refine (far w A c l h).mono ?_); rintro e w1 ⟨rfl, rfl⟩
    go_wp2_with fail
    (with_reducible refine (awake _ hE).mono ?_); rintro e w1 ⟨rfl, hb1⟩
    go_wp2
    go_ret
    exact ⟨rfl, hb1⟩
  have hf2 : farB l = false := by simpa using hf
  clear hf
  by_cases hs : 6000 < s.size
  · go_enter Tryd.func9, Tryd.ntmps9
    go_wp2_with fail
    (with_reducible refine (far w A c l h).mono ?_); rintro e w1 ⟨rfl, rfl⟩
    go_wp2_with fail
    (with_reducible refine (awake _ hE).mono ?_); rintro e w1 ⟨rfl, hb1⟩
    go_wp2
    go_ret
    exact ⟨rfl, hb1⟩
  have hpl := parse_len s
  go_enter Tryd.func9, Tryd.ntmps9
  go_wp2_with fail
  (with_reducible refine (far w A c l h).mono ?_); rintro e w ⟨rfl, rfl⟩
  go_wp2_with fail
  (with_reducible refine (sprint w A c l h hE).mono ?_); rintro e w1 ⟨rfl, hb1⟩
  have h1 := h.below hb1
  go_wp2_with fail
  (with_reducible refine (rprint w1 A c l h1).mono ?_); rintro e w2 ⟨rfl, hb2⟩
  have hB2 := bt hb1 hb2
  go_wp2_with fail
  (with_reducible refine (sparseM s w2 (by omega) (hE.below hB2) (hM.below hB2)).mono ?_); rintro e w3 ⟨A3, c3, rfl, hb3, hr3, _, _⟩
  have hB3 := bt hB2 hb3
  go_wp2_with fail
  (with_reducible refine (rparse s w3 (by omega)).mono ?_); rintro e w4 ⟨A4, c4, rfl, hb4, hr4, _, _⟩
  have hB4 := bt hB3 hb4
  have hr3 := hr3.go hb4
  go_wp2_with fail
  (with_reducible refine (equal_same w4 A3 A4 c3 c4 _ hr3 hr4 (by omega)).mono ?_); rintro e w5 ⟨rfl, hb5⟩
  have hB5 := bt hB4 hb5
  go_wp2_with fail
  (with_reducible refine (awake _ (hE.below hB5)).mono ?_); rintro e w7 ⟨rfl, hb7⟩
  have hB7 := bt hB5 hb7
  go_wp2
  go_ret
  exact ⟨rfl, hB7⟩
end Go.Proofs.YtoogemdcmnjpnaaDoor
