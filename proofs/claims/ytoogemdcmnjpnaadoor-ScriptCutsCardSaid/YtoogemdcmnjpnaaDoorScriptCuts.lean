/- ScriptCuts: for every script and all numbers the law returns true. No condition. -/
import Derived.Test.YtoogemdcmnjpnaaDoorS15
namespace Go.Proofs.YtoogemdcmnjpnaaDoor
open Go.RowKit
theorem cut_len (l : List Sc) (k a : Int) : (cut l k a).length ≤ l.length + 2 := by
  by_cases h : cutErr l k a = 0
  · rw [cut_pos h, cutOk]
    simp
    omega
  · rw [cut_neg h]; simp
theorem join_len (l : List Sc) (k : Int) : (join l k).length ≤ l.length + 1 := by
  by_cases h : joinErr l k = 0
  · rw [join_pos h, joinOk]
    simp
    omega
  · rw [join_neg h]; simp
set_option maxRecDepth 100000 in
set_option maxHeartbeats 1000000 in
theorem scriptCuts_walk (w : World) (A : Option Addr) (c : Nat) (l : List Sc) (h : IsSc w A l) (hc : l.length ≤ c ∧ c ≤ 9223372036854775807) (k : Int) (hk : (Lit.int .i64 k).wf = true) (a : Int) (ha : (Lit.int .i64 a).wf = true) (hE : Esc w) :
    Calls Tryd.prog 6 #[.slice A l.length c, .int .i64 k, .int .i64 a] w fun e w' => e = .returned (.bool true) ∧ Below w.heap.size w w' := by
  obtain ⟨hk1, hk2⟩ := wf64 hk
  obtain ⟨ha1, ha2⟩ := wf64 ha
  clear hk ha
  by_cases hf : farB l = true
  · go_enter Tryd.func6, Tryd.ntmps6
    go_wp2_with fail
    (with_reducible refine (far w A c l h).mono ?_); rintro e w1 ⟨rfl, rfl⟩
    go_wp2_with fail
    (with_reducible refine (awake _ hE).mono ?_); rintro e w1 ⟨rfl, hb1⟩
    go_wp2
    go_ret
    exact ⟨rfl, hb1⟩
  have hf2 : farB l = false := by simpa using hf
  have hl := farB_len hf2
  clear hf
  have hcl := cut_len l k a
  have hjl := join_len l k
  go_enter Tryd.func6, Tryd.ntmps6
  go_wp2_with fail
  (with_reducible refine (far w A c l h).mono ?_); rintro e w1 ⟨rfl, rfl⟩
  go_wp2_with fail
  (with_reducible refine (scut w A c l h hc k a hk1 hk2 ha1 ha2).mono ?_); rintro e w1 ⟨A1, c1, rfl, hb1, hr1, _, _⟩
  have h1 := h.below hb1
  go_wp2_with fail
  (with_reducible refine (rcut w1 A c l h1 hc k a hk1 hk2 ha1 ha2).mono ?_); rintro e w2 ⟨A2, c2, rfl, hb2, hr2, _, _⟩
  have h2 := h1.below hb2
  have hB2 := bt hb1 hb2
  have hr1 := hr1.go hb2
  go_wp2_with fail
  (with_reducible refine (sjoin w2 A c l h2 hc k hk1 hk2).mono ?_); rintro e w3 ⟨A3, c3, rfl, hb3, hr3, _, _⟩
  have h3 := h2.below hb3
  have hB3 := bt hB2 hb3
  have hr1 := hr1.go hb3
  have hr2 := hr2.go hb3
  go_wp2_with fail
  (with_reducible refine (rjoin w3 A c l h3 hc k hk1 hk2).mono ?_); rintro e w4 ⟨A4, c4, rfl, hb4, hr4, _, _⟩
  have hB4 := bt hB3 hb4
  have hr1 := hr1.go hb4
  have hr2 := hr2.go hb4
  have hr3 := hr3.go hb4
  go_wp2_with fail
  (with_reducible refine (equal_same w4 A1 A2 c1 c2 _ hr1 hr2 (by omega)).mono ?_); rintro e w5 ⟨rfl, hb5⟩
  have hB5 := bt hB4 hb5
  have hr3 := hr3.go hb5
  have hr4 := hr4.go hb5
  go_wp2_with fail
  (with_reducible refine (equal_same w5 A3 A4 c3 c4 _ hr3 hr4 (by omega)).mono ?_); rintro e w6 ⟨rfl, hb6⟩
  have hB6 := bt hB5 hb6
  go_wp2_with fail
  (with_reducible refine (awake _ (hE.below hB6)).mono ?_); rintro e w7 ⟨rfl, hb7⟩
  have hB7 := bt hB6 hb7
  go_wp2
  go_ret
  exact ⟨rfl, hB7⟩
end Go.Proofs.YtoogemdcmnjpnaaDoor
