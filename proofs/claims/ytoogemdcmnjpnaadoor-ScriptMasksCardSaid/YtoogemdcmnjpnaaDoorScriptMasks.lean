/- ScriptMasks: for every script and every string the law returns true. No condition. -/
import Derived.Test.YtoogemdcmnjpnaaDoorOpenSc
import Derived.Test.YtoogemdcmnjpnaaDoorS9
namespace Go.Proofs.YtoogemdcmnjpnaaDoor
open Go.RowKit
theorem far (w : World) (A : Option Addr) (c : Nat) (l : List Sc) (h : IsSc w A l) :
    Calls Tryd.prog 12 #[.slice A l.length c] w fun e w' => e = .returned (.bool (farB l)) ∧ w = w' := far_any w _ A c l h.rd h.len h.sz
theorem equal_ (w : World) (A A' : Option Addr) (c c' : Nat) (l m : List Sc) (h : Reads w w.heap.size 2 A l.length (scs l)) (h' : Reads w w.heap.size 2 A' m.length (scs m)) (hl : l.length ≤ 9223372036854775807) :
    Calls Tryd.prog 18 #[.slice A l.length c, .slice A' m.length c'] w fun e w' => e = .returned (.bool (decide (l = m))) ∧ Below w.heap.size w w' := equal_any w _ _ A A' c c' l m h h' hl
theorem strings_ (w : World) (A A' : Option Addr) (c c' : Nat) (l m : List ByteArray) (h : Reads w w.heap.size 1 A l.length (l.map Value.string)) (h' : Reads w w.heap.size 1 A' m.length (m.map Value.string)) (hl : l.length ≤ 9223372036854775807) :
    Calls Tryd.prog 19 #[.slice A l.length c, .slice A' m.length c'] w fun e w' => e = .returned (.bool (decide (l = m))) ∧ Below w.heap.size w w' := strings_any w _ _ A A' c c' l m h h' hl
theorem equal_same (w : World) (A A' : Option Addr) (c c' : Nat) (l : List Sc) (h : Reads w w.heap.size 2 A l.length (scs l)) (h' : Reads w w.heap.size 2 A' l.length (scs l)) (hl : l.length ≤ 9223372036854775807) :
    Calls Tryd.prog 18 #[.slice A l.length c, .slice A' l.length c'] w fun e w' => e = .returned (.bool true) ∧ Below w.heap.size w w' := by
  have := equal_ w A A' c c' l l h h' hl
  rw [decide_eq_true rfl] at this
  exact this
theorem strings_same (w : World) (A A' : Option Addr) (c c' : Nat) (l : List ByteArray) (h : Reads w w.heap.size 1 A l.length (l.map Value.string)) (h' : Reads w w.heap.size 1 A' l.length (l.map Value.string)) (hl : l.length ≤ 9223372036854775807) :
    Calls Tryd.prog 19 #[.slice A l.length c, .slice A' l.length c'] w fun e w' => e = .returned (.bool true) ∧ Below w.heap.size w w' := by
  have := strings_ w A A' c c' l l h h' hl
  rw [decide_eq_true rfl] at this
  exact this
theorem mask_len {l : List Sc} {s : ByteArray} : (mask l s).length ≤ l.length := by
  by_cases h : maskErr l s = 0
  · rw [mask_pos h, maskFrom_length]; exact Nat.le_refl _
  · rw [mask_neg h]; simp
theorem streamsFrom_len (c : ByteArray) (l : List Sc) : (streamsFrom c l).length ≤ l.length + 1 := by
  induction l generalizing c with
  | nil => simp [streamsFrom]
  | cons x r ih =>
    rw [streamsFrom]
    split
    · simp
    · split
      · have := ih x.2; simp; omega
      · have := ih (c ++ x.2); simp; omega
theorem streams_len (l : List Sc) : (streams l).length ≤ l.length + 1 := by
  unfold streams
  split
  · exact streamsFrom_len _ _
  · simp
set_option maxRecDepth 100000 in
set_option maxHeartbeats 1000000 in
theorem scriptMasks_walk (w : World) (A : Option Addr) (c : Nat) (l : List Sc) (h : IsSc w A l) (s : ByteArray) (_hs : s.size ≤ 140737488351232) (hE : Esc w) :
    Calls Tryd.prog 3 #[.slice A l.length c, .string s] w fun e w' => e = .returned (.bool true) ∧ Below w.heap.size w w' := by
  by_cases hf : farB l = true
  · go_enter Tryd.func3, Tryd.ntmps3
    go_wp2_with fail
    (with_reducible refine (far w A c l h).mono ?_); rintro e w1 ⟨rfl, rfl⟩
    go_wp2_with fail
    (with_reducible refine (awake _ hE).mono ?_); rintro e w1 ⟨rfl, hb1⟩
    go_wp2
    go_ret
    exact ⟨rfl, hb1⟩
  have hf2 : farB l = false := by simpa using hf
  clear hf
  by_cases hs : 300 < s.size
  · go_enter Tryd.func3, Tryd.ntmps3
    go_wp2_with fail
    (with_reducible refine (far w A c l h).mono ?_); rintro e w1 ⟨rfl, rfl⟩
    go_wp2_with fail
    (with_reducible refine (awake _ hE).mono ?_); rintro e w1 ⟨rfl, hb1⟩
    go_wp2
    go_ret
    exact ⟨rfl, hb1⟩
  have hl := h.len
  have hml := mask_len (l := l) (s := s)
  have hsl := streams_len l
  have hl2 : l.length ≤ 210 := by
    unfold farB at hf2
    simp at hf2
    exact hf2.1
  go_enter Tryd.func3, Tryd.ntmps3
  go_wp2_with fail
  (with_reducible refine (far w A c l h).mono ?_); rintro e w1 ⟨rfl, rfl⟩
  go_wp2_with fail
  (with_reducible refine (smask w A c l h s (by omega)).mono ?_); rintro e w1 ⟨A1, c1, rfl, hb1, hr1, _, _⟩
  have h1 := h.below hb1
  go_wp2_with fail
  (with_reducible refine (rmask w1 A c l h1 s (by omega)).mono ?_); rintro e w2 ⟨A2, c2, rfl, hb2, hr2, _, _⟩
  have h2 := h1.below hb2
  have hB2 := bt hb1 hb2
  have hr1 := hr1.go hb2
  go_wp2_with fail
  (with_reducible refine (sstreams w2 A c l h2).mono ?_); rintro e w3 ⟨A3, c3, rfl, hb3, hr3, _, _⟩
  have h3 := h2.below hb3
  have hB3 := bt hB2 hb3
  have hr1 := hr1.go hb3
  have hr2 := hr2.go hb3
  go_wp2_with fail
  (with_reducible refine (rstreams w3 A c l h3).mono ?_); rintro e w4 ⟨A4, c4, rfl, hb4, hr4, _, _⟩
  have hB4 := bt hB3 hb4
  have hr1 := hr1.go hb4
  have hr2 := hr2.go hb4
  have hr3 := hr3.go hb4
  go_wp2_with fail
  (with_reducible refine (equal_same w4 A1 A2 c1 c2 _ hr1 hr2 (by omega)).mono ?_); rintro e w5 ⟨rfl, hb5⟩
  have hB5 := bt hB4 hb5
  have hr3 := hr3.go hb5
  have hr4 := hr4.go hb5
  go_wp2_with fail
  (with_reducible refine (strings_same w5 A3 A4 c3 c4 _ hr3 hr4 (by omega)).mono ?_); rintro e w6 ⟨rfl, hb6⟩
  have hB6 := bt hB5 hb6
  go_wp2_with fail
  (with_reducible refine (awake _ (hE.below hB6)).mono ?_); rintro e w7 ⟨rfl, hb7⟩
  have hB7 := bt hB6 hb7
  go_wp2
  go_ret
  exact ⟨rfl, hB7⟩
end Go.Proofs.YtoogemdcmnjpnaaDoor
