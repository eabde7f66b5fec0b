/- WordsLists: for every list of numbers and every string the law returns true. No condition. -/
import Derived.Test.YtngbgchnbcfliaaGreatDoorP14
import Derived.Test.YtngbgchnbcfliaaGreatDoorP13
import Derived.Test.YtngbgchnbcfliaaGreatDoorP12
import Derived.Test.YtngbgchnbcfliaaGreatDoorN12
namespace Go.Proofs.YtngbgchnbcfliaaGreatDoor
open Go.RowKit
set_option maxRecDepth 100000 in
set_option maxHeartbeats 1000000 in
theorem wordsLists_walk (w : World) (A : Option Addr) (c : Nat) (l : List Int) (h : Reads w w.heap.size 1 A l.length (ivs l)) (_hx : ∀ x ∈ l, -9223372036854775808 ≤ x ∧ x ≤ 9223372036854775807) (_hc : l.length ≤ c ∧ c ≤ 9223372036854775807)
    (s : ByteArray) (_hs : s.size ≤ 140737488351232) (hP : Pow w) (hR : ER w) (hE : Esc w) (hM : ML w) :
    Calls Tryz.prog 3 #[.slice A l.length c, .string s] w fun e w' => e = .returned (.bool true) ∧ Below w.heap.size w w' := by
  by_cases h5 : 510 < l.length
  · have i1 : (510 : Int) < (l.length : Int) := by omega
    clear h
    go_enter Tryz.func3, Tryz.ntmps3
    go_wp2_with fail
    (with_reducible refine (shown_ _ hE hM hR hP).mono ?_); rintro e w1 ⟨rfl, hb1⟩
    go_wp2
    go_ret
    exact ⟨rfl, hb1⟩
  have i1 : ¬ ((510 : Int) < (l.length : Int)) := by omega
  by_cases h2 : 2000 < s.size
  · have i2 : (2000 : Int) < (s.size : Int) := by omega
    clear h
    go_enter Tryz.func3, Tryz.ntmps3
    go_wp2_with fail
    (with_reducible refine (shown_ _ hE hM hR hP).mono ?_); rintro e w1 ⟨rfl, hb1⟩
    go_wp2
    go_ret
    exact ⟨rfl, hb1⟩
  have i2 : ¬ ((2000 : Int) < (s.size : Int)) := by omega
  obtain ⟨r, hr⟩ : ∃ r, r = listL l := ⟨_, rfl⟩
  obtain ⟨q, hq⟩ : ∃ q, q = plL s.data.toList := ⟨_, rfl⟩
  have H1 := Lib.hid (fun W : World => fun h => list_ W A c l h)
  have H2 := Lib.hid (fun W : World => fun h => rlist_ W A c l h)
  have H3 := Lib.hid (fun W : World => fun hM hP => plist_ s W hM hP (by omega))
  have H4 := Lib.hid (fun W : World => rplist_ s W (by omega))
  rw [← hr] at H1 H2
  rw [← hq] at H3 H4
  have hn5 : q.1.length ≤ 500 := by rw [hq]; exact plL_len _
  obtain ⟨t, e0⟩ := r
  obtain ⟨ns, e1⟩ := q
  simp only at hn5
  clear hr hq
  have HRd := Lib.hid h
  clear h
  go_enter Tryz.func3, Tryz.ntmps3
  go_wp2_with fail
  (with_reducible refine (H1.out _ HRd.out hP).mono ?_); rintro e w1 ⟨rfl, hb1⟩
  go_wp2_with fail
  (with_reducible refine (H2.out _ (HRd.out.go hb1)).mono ?_); rintro e w2 ⟨rfl, hb2⟩
  have hB2 := bt hb1 hb2
  go_wp2_with fail
  (with_reducible refine (H3.out _ (hM.below hB2) (hP.below hB2)).mono ?_); rintro e w3 ⟨A3, c3, rfl, hb3, hr3, _, _⟩
  have hB3 := bt hB2 hb3
  go_wp2_with fail
  (with_reducible refine (H4.out _).mono ?_); rintro e w4 ⟨A4, c4, rfl, hb4, hr4, _, _⟩
  have hB4 := bt hB3 hb4
  have hr3' := hr3.go hb4
  go_wp2_with fail
  (with_reducible refine (lists_same _ _ _ _ _ _ _ _ _ ns hr3' hr4 (by omega)).mono ?_); rintro e w5 ⟨rfl, hb5⟩
  have hB5 := bt hB4 hb5
  go_wp2_with fail
  (with_reducible refine (shown_ _ (hE.below hB5) (hM.below hB5) (hR.below hB5) (hP.below hB5)).mono ?_); rintro e w6 ⟨rfl, hb6⟩
  go_wp2
  go_ret
  exact ⟨rfl, bt hB5 hb6⟩
end Go.Proofs.YtngbgchnbcfliaaGreatDoor
