/- WordsSplits: for every string the law returns true. No condition. -/
import Derived.Test.YtngbgchnbcfliaaDoorN12
namespace Go.Proofs.YtngbgchnbcfliaaDoor
open Go.RowKit
set_option maxRecDepth 100000 in
set_option maxHeartbeats 1000000 in
theorem wordsSplits_walk (w : World) (s : ByteArray) (_hs : s.size ≤ 140737488351232) (hP : Pow w) (hR : ER w) (hE : Esc w) (hM : ML w) :
    Calls Tryd.prog 3 #[.string s] w fun e w' => e = .returned (.bool true) ∧ Below w.heap.size w w' := by
  by_cases h9 : 9000 < s.size
  · have i1 : (3000 : Int) < (s.size : Int) := by omega
    have i2 : ¬ ((s.size : Int) ≤ 8192) := by omega
    have i3 : (9000 : Int) < (s.size : Int) := by omega
    go_enter Tryd.func3, Tryd.ntmps3
    go_wp2_with fail
    (with_reducible refine (shown_ _ hE hM hR hP).mono ?_); rintro e w1 ⟨rfl, hb1⟩
    go_wp2
    go_ret
    exact ⟨rfl, hb1⟩
  have i3 : ¬ ((9000 : Int) < (s.size : Int)) := by omega
  by_cases h3 : 3000 < s.size ∧ s.size ≤ 8192
  · have i1 : (3000 : Int) < (s.size : Int) := by omega
    have i2 : (s.size : Int) ≤ 8192 := by omega
    go_enter Tryd.func3, Tryd.ntmps3
    go_wp2_with fail
    (with_reducible refine (shown_ _ hE hM hR hP).mono ?_); rintro e w1 ⟨rfl, hb1⟩
    go_wp2
    go_ret
    exact ⟨rfl, hb1⟩
  obtain ⟨r, hr⟩ : ∃ r, r = splitL s.data.toList := ⟨_, rfl⟩
  have hc1 := split_ s
  have hc2 := rsplit s
  rw [← hr] at hc1 hc2
  have hlen : r.1.length ≤ 64 := by
    rw [hr]; unfold splitL
    split
    · simp
    split
    · simp
    split
    · simp
    split
    · simp
    · rename_i h; simp only [not_or] at h ⊢; omega
  obtain ⟨fs, er⟩ := r
  simp only at hlen
  have H1 := Lib.hid hc1
  have H2 := Lib.hid hc2
  clear hc1 hc2 hr
  have hs : s.size ≤ 1099511627776 := by omega
  by_cases h1 : 3000 < s.size
  · have i1 : (3000 : Int) < (s.size : Int) := by omega
    have i2 : ¬ ((s.size : Int) ≤ 8192) := by omega
    clear h3 h9 h1
    go_enter Tryd.func3, Tryd.ntmps3
    go_wp2_with fail
    (with_reducible refine (H1.out _ hE hM).mono ?_); rintro e w1 ⟨A1, c1, rfl, hb1, hr1, _, _⟩
    go_wp2_with fail
    (with_reducible refine (H2.out _ hs).mono ?_); rintro e w2 ⟨A2, c2, rfl, hb2, hr2, _, _⟩
    have hB2 := bt hb1 hb2
    go_wp2_with fail
    (with_reducible refine (same_any _ _ _ A1 A2 c1 c2 fs fs (hr1.go hb2) hr2 (by omega)).mono ?_); rintro e w3 ⟨rfl, hb3⟩
    have hB3 := bt hB2 hb3
    rw [show decide (fs = fs) = true by simp]
    go_wp2_with fail
    (with_reducible refine (shown_ _ (hE.below hB3) (hM.below hB3) (hR.below hB3) (hP.below hB3)).mono ?_); rintro e w4 ⟨rfl, hb4⟩
    go_wp2
    go_ret
    exact ⟨rfl, bt hB3 hb4⟩
  · have i1 : ¬ ((3000 : Int) < (s.size : Int)) := by omega
    clear h3 h9 h1
    go_enter Tryd.func3, Tryd.ntmps3
    go_wp2_with fail
    (with_reducible refine (H1.out _ hE hM).mono ?_); rintro e w1 ⟨A1, c1, rfl, hb1, hr1, _, _⟩
    go_wp2_with fail
    (with_reducible refine (H2.out _ hs).mono ?_); rintro e w2 ⟨A2, c2, rfl, hb2, hr2, _, _⟩
    have hB2 := bt hb1 hb2
    go_wp2_with fail
    (with_reducible refine (same_any _ _ _ A1 A2 c1 c2 fs fs (hr1.go hb2) hr2 (by omega)).mono ?_); rintro e w3 ⟨rfl, hb3⟩
    have hB3 := bt hB2 hb3
    rw [show decide (fs = fs) = true by simp]
    go_wp2_with fail
    (with_reducible refine (shown_ _ (hE.below hB3) (hM.below hB3) (hR.below hB3) (hP.below hB3)).mono ?_); rintro e w4 ⟨rfl, hb4⟩
    go_wp2
    go_ret
    exact ⟨rfl, bt hB3 hb4⟩
end Go.Proofs.YtngbgchnbcfliaaDoor
