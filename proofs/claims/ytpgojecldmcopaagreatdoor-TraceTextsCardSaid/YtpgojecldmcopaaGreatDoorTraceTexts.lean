/- TraceTexts: Print and Parse answer as the document says. -/
import Derived.Test.YtpgojecldmcopaaGreatDoorT28
namespace Go.Proofs.YtpgojecldmcopaaGreatDoor
open Go.RowKit
set_option maxRecDepth 100000 in
set_option maxHeartbeats 4000000 in
theorem traceTexts_walk (w : World) (A : Option Addr) (c : Nat) (l : List Ev) (h : Reads w w.heap.size 2 A l.length (evs l)) (ho : Ok32 l) (hc : l.length ≤ c ∧ c ≤ 9223372036854775807) (s : ByteArray) (_ : s.size ≤ 140737488351232) (hP : Pow w) (hR : ER w) (hM : ML w) :
    Calls Tryz.prog 3 #[.slice A l.length c, .string s] w fun e w' => e = .returned (.bool true) ∧ Below w.heap.size w w' := by
  obtain ⟨va, hva⟩ : ∃ v, Hid (v = decide (400 < l.length ∧ l.length ≤ 5000 ∨ 5100 < l.length)) := ⟨_, Lib.hid rfl⟩
  have HP := Lib.hid hP
  have HM := Lib.hid hM
  have HRr := Lib.hid hR
  have HR := Lib.hid h
  have Ho := Lib.hid ho
  have Hc := Lib.hid hc
  have HF0 := Lib.hid (Fr.start w)
  clear hP h hM hR ho hc
  rcases va with _ | _
  · have hl := Lib.hid (far_no hva)
    by_cases h6 : 600 < s.size
    · have i1 : (600 : Int) < (s.size : Int) := by omega
      go_enter Tryz.func3, Tryz.ntmps3
      go_wp2_with fail
      (with_reducible refine (far_ _ A c _ _ hva).mono ?_); rintro e w1 ⟨rfl, hw1⟩; subst w1
      go_wp2_with fail
      (with_reducible refine (awake_ w (by exact HP.out)).mono ?_); rintro e wz ⟨rfl, hbz⟩
      have hB := (HF0.out.go hbz).bel
      go_wp2
      go_ret
      exact ⟨rfl, hB⟩
    have i1 : ¬ ((600 : Int) < (s.size : Int)) := by omega
    obtain ⟨T, E, hT⟩ : ∃ T E, Hid (prS l = T ∧ prE l = E) := ⟨_, _, Lib.hid ⟨rfl, rfl⟩⟩
    obtain ⟨m, k, er, hq⟩ : ∃ m k er, Hid (psT s = (m, k, er)) := ⟨_, _, _, Lib.hid rfl⟩
    go_enter Tryz.func3, Tryz.ntmps3
    go_wp2_with fail
    (with_reducible refine (far_ _ A c _ _ hva).mono ?_); rintro e w1 ⟨rfl, hw1⟩; subst w1
    go_wp2_with fail
    (with_reducible refine (printQ _ A c l T E hT HR.out Hc.out.1 Ho.out (by have := hl.out; omega) HP.out).mono ?_); rintro e w1 ⟨rfl, hb1⟩
    have HF1 := Lib.hid (HF0.out.go hb1)
    clear hb1 HF0
    go_wp2_with fail
    (with_reducible refine (rprintQ _ A c l T E hT (HR.out.go HF1.out.bel) Ho.out (by have := hl.out; omega)).mono ?_); rintro e w2 ⟨rfl, hb2⟩
    have HF2 := Lib.hid (HF1.out.go hb2)
    clear hb2 HF1
    go_wp2_with fail
    (with_reducible refine (parseQ s _ m k er hq (HM.out.below HF2.out.bel) (HRr.out.below HF2.out.bel) (by omega)).mono ?_); rintro e w3 ⟨A2, c2, rfl, hb3, hr3, hc3, hd3⟩
    have HF3 := Lib.hid (HF2.out.go hb3)
    have HR3 := Lib.hid hr3
    clear hb3 HF2 hr3
    go_wp2_with fail
    (with_reducible refine (rparseQ s _ m k er hq (by omega)).mono ?_); rintro e w4 ⟨A4, c4, rfl, hb4, hr4, hc4, hd4⟩
    have HF4 := Lib.hid (HF3.out.go hb4)
    have HR4 := Lib.hid hr4
    have HR34 := Lib.hid (HR3.out.go hb4)
    clear hb4 HF3 hr4 HR3
    go_wp2_with fail
    (with_reducible refine (sameQ _ _ _ A2 A4 c2 c4 m HR34.out HR4.out (by omega)).mono ?_); rintro e w5 ⟨rfl, hb5⟩
    have HF5 := Lib.hid (HF4.out.go hb5)
    clear hb5 HF4 HR34 HR4
    go_wp2_with fail
    (with_reducible refine (awake_ _ (by exact HP.out.below HF5.out.bel)).mono ?_); rintro e wz ⟨rfl, hbz⟩
    have hB := (HF5.out.go hbz).bel
    go_wp2
    go_ret
    exact ⟨rfl, hB⟩
  · go_enter Tryz.func3, Tryz.ntmps3
    go_wp2_with fail
    (with_reducible refine (far_ _ A c _ _ hva).mono ?_); rintro e w1 ⟨rfl, hw1⟩; subst w1
    go_wp2_with fail
    (with_reducible refine (awake_ w (by exact HP.out)).mono ?_); rintro e wz ⟨rfl, hbz⟩
    have hB := (HF0.out.go hbz).bel
    go_wp2
    go_ret
    exact ⟨rfl, hB⟩
end Go.Proofs.YtpgojecldmcopaaGreatDoor
