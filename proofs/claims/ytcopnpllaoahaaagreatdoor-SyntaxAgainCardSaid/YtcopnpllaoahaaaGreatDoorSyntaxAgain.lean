/- SyntaxAgain: what was parsed and printed is parsed as the same rules. No condition. -/
import Derived.Test.YtcopnpllaoahaaaGreatDoorE18
import Derived.Test.YtcopnpllaoahaaaGreatDoorE17
namespace Go.Proofs.YtcopnpllaoahaaaGreatDoor
open Go.RowKit
set_option maxRecDepth 100000 in
set_option maxHeartbeats 8000000 in
theorem syntaxAgain_walk (w : World) (s : ByteArray) (hsz : s.size ≤ 140737488351232) (hL : LxW w) (hH : Hd w) (hM : ML w) :
    Calls Tryz.prog 3 #[.string s] w fun e w' => e = .returned (.bool true) ∧ Below w.heap.size w w' := by
  have HW := Lib.hid (show SyW w from ⟨hL, hH, hM⟩)
  have HSh := Lib.hid shown_
  have hsl : s.data.toList.length = s.size := by simp
  clear hL hH hM
  by_cases h6 : 600 < s.size
  · have i1 : (600 : Int) < (s.size : Int) := by omega
    clear h6 hsl
    go_enter Tryz.func3, Tryz.ntmps3
    go_wp2_with fail
    (with_reducible refine (HSh.out _ HW.out).mono ?_); rintro e w1 ⟨rfl, hb1⟩
    go_wp2
    go_ret
    exact ⟨rfl, hb1⟩
  have i1 : ¬ ((600 : Int) < (s.size : Int)) := by omega
  rcases hp : psK s.data.toList with ⟨l, p, q, er⟩
  have HP := Lib.hid (fun W (hW : SyW W) => ps_ s _ rfl hsz l p q er (Lib.hid hp) W hW)
  by_cases he : er = 0
  case neg =>
    obtain ⟨rfl, h1, h2, h3⟩ := psK_fault hp he
    rw [hsl] at h1 h3
    have e1 : (er != 0) = true := by simpa using he
    have i2 : (0 : Int) ≤ (p : Int) := by omega
    have i3 : (p : Int) ≤ (s.size : Int) := by omega
    clear hp he hsl h1 h6
    go_enter Tryz.func3, Tryz.ntmps3
    go_wp2_with fail
    (with_reducible refine (HP.out _ HW.out).mono ?_); rintro e w1 ⟨A, c, Rs, rfl, hb1, _, _, hl, _⟩
    have i4 : ((Rs.length : Int) == 0) = true := by rw [hl]; rfl
    clear hl
    go_wp2_with fail
    (with_reducible refine (HSh.out _ (HW.out.below hb1)).mono ?_); rintro e w2 ⟨rfl, hb2⟩
    have hb3 := bt hb1 hb2
    clear hb1 hb2
    go_wp2
    go_ret
    exact ⟨rfl, hb3⟩
  subst he
  have hag := again_law hp
  clear hp hsl h6
  rcases hag with ⟨T, m, a1, a2, a3, a4, a5⟩ | ⟨i, k, a1⟩
  · have hTs : (⟨T.toArray⟩ : ByteArray).size ≤ 140737488351232 := by
      have e : (⟨T.toArray⟩ : ByteArray).size = T.length := (by show T.toArray.size = _; simp)
      omega
    have H1 := Lib.hid a1
    have H3 := Lib.hid a3
    have H4 := Lib.hid a4
    have H5 := Lib.hid a5
    clear a1 a3 a4 a5
    go_enter Tryz.func3, Tryz.ntmps3
    go_wp2_with fail
    (with_reducible refine (HP.out _ HW.out).mono ?_); rintro e w1 ⟨A, c, Rs, rfl, hb1, hI1, hm1, hl1, _⟩
    have HB1 := Lib.hid hb1
    have HI1 := Lib.hid hI1
    have HM1 := Lib.hid hm1
    clear hb1 hI1 hm1 hl1
    go_wp2_with fail
    (with_reducible refine (sprint_ Rs _ A c HI1.out (HW.out.below HB1.out).hd (HW.out.below HB1.out).lx T 0 0 0 (Lib.hid (by rw [HM1.out]; exact H1.out))).mono ?_); rintro e w2 ⟨rfl, hb2⟩
    have HB2 := Lib.hid (bt HB1.out hb2)
    have HI2 := Lib.hid (HI1.out.go hb2)
    clear hb2
    go_wp2_with fail
    (with_reducible refine (ps_ ⟨T.toArray⟩ T rfl (hTs) m 0 0 0 H3 _ (HW.out.below HB2.out)).mono ?_); rintro e w3 ⟨A3, c3, R3, rfl, hb3, hI3, hm3, hl3, hc3⟩
    have HB3 := Lib.hid (bt HB2.out hb3)
    have HI2' := Lib.hid (HI2.out.go hb3)
    have HI3 := Lib.hid hI3
    have HM3 := Lib.hid hm3
    have hR3 : R3.length ≤ 9223372036854775807 := by rw [hl3]; exact Nat.le_trans hc3.1 hc3.2
    clear hb3 hI3 hm3 hl3 hc3
    go_wp2_with fail
    (with_reducible refine (sprint_ R3 _ A3 c3 HI3.out (HW.out.below HB3.out).hd (HW.out.below HB3.out).lx T 0 0 0 (Lib.hid (by rw [HM3.out]; exact H5.out))).mono ?_); rintro e w4 ⟨rfl, hb4⟩
    have HB4 := Lib.hid (bt HB3.out hb4)
    have HI4 := Lib.hid (HI2'.out.go hb4)
    have HI5 := Lib.hid (HI3.out.go hb4)
    clear hb4
    go_wp2_with fail
    (with_reducible refine (allR_ R3 Rs _ A3 A c3 c HI5.out HI4.out hR3 true (Lib.hid (by rw [HM3.out, HM1.out]; exact H4.out))).mono ?_); rintro e w5 ⟨rfl, hb5⟩
    have HB5 := Lib.hid (bt HB4.out hb5)
    clear hb5
    go_wp2_with fail
    (with_reducible refine (HSh.out _ (HW.out.below HB5.out)).mono ?_); rintro e w6 ⟨rfl, hb6⟩
    have HB6 := Lib.hid (bt HB5.out hb6)
    clear hb6
    go_wp2
    go_ret
    exact ⟨rfl, HB6.out⟩
  · have H1 := Lib.hid a1
    clear a1
    go_enter Tryz.func3, Tryz.ntmps3
    go_wp2_with fail
    (with_reducible refine (HP.out _ HW.out).mono ?_); rintro e w1 ⟨A, c, Rs, rfl, hb1, hI1, hm1, hl1, _⟩
    have HB1 := Lib.hid hb1
    have HI1 := Lib.hid hI1
    have HM1 := Lib.hid hm1
    clear hb1 hI1 hm1 hl1
    go_wp2_with fail
    (with_reducible refine (sprint_ Rs _ A c HI1.out (HW.out.below HB1.out).hd (HW.out.below HB1.out).lx [] i k 3 (Lib.hid (by rw [HM1.out]; exact H1.out))).mono ?_); rintro e w2 ⟨rfl, hb2⟩
    have HB2 := Lib.hid (bt HB1.out hb2)
    clear hb2
    go_wp2_with fail
    (with_reducible refine (HSh.out _ (HW.out.below HB2.out)).mono ?_); rintro e w6 ⟨rfl, hb6⟩
    have HB6 := Lib.hid (bt HB2.out hb6)
    clear hb6
    go_wp2
    go_ret
    exact ⟨rfl, HB6.out⟩
end Go.Proofs.YtcopnpllaoahaaaGreatDoor
