/- TraceBack: Parse of Print is the trace, Print of Parse the text. -/
import Derived.Test.YtpgojecldmcopaaGreatDoorT28
namespace Go.Proofs.YtpgojecldmcopaaGreatDoor
open Go.RowKit
set_option maxRecDepth 100000 in
set_option maxHeartbeats 4000000 in
theorem traceBack_walk (w : World) (A : Option Addr) (c : Nat) (l : List Ev) (h : Reads w w.heap.size 2 A l.length (evs l)) (ho : Ok32 l) (hc : l.length ≤ c ∧ c ≤ 9223372036854775807) (s : ByteArray) (_ : s.size ≤ 140737488351232) (hP : Pow w) (hR : ER w) (hM : ML w) :
    Calls Tryz.prog 4 #[.slice A l.length c, .string s] w fun e w' => e = .returned (.bool true) ∧ Below w.heap.size w w' := by
  obtain ⟨va, hva⟩ : ∃ v, Hid (v = decide (400 < l.length ∧ l.length ≤ 5000 ∨ 5100 < l.length)) := ⟨_, Lib.hid rfl⟩
  have HP := Lib.hid hP
  have HM := Lib.hid hM
  have HRr := Lib.hid hR
  have HR := Lib.hid h
  have Ho := Lib.hid ho
  have Hc := Lib.hid hc
  have HF0 := Lib.hid (Fr.start w)
  clear hP h hM hR ho hc
  rcases va with _ | _
  · have hl := Lib.hid (far_no hva)
    by_cases h6 : 600 < s.size
    · have i1 : (600 : Int) < (s.size : Int) := by omega
      go_enter Tryz.func4, Tryz.ntmps4
      go_wp2_with fail
      (with_reducible refine (far_ _ A c _ _ hva).mono ?_); rintro e w1 ⟨rfl, hw1⟩; subst w1
      go_wp2_with fail
      (with_reducible refine (awake_ w (by exact HP.out)).mono ?_); rintro e wz ⟨rfl, hbz⟩
      have hB := (HF0.out.go hbz).bel
      go_wp2
      go_ret
      exact ⟨rfl, hB⟩
    have i1 : ¬ ((600 : Int) < (s.size : Int)) := by omega
    obtain ⟨T, E, hT⟩ : ∃ T E, Hid (prS l = T ∧ prE l = E) := ⟨_, _, Lib.hid ⟨rfl, rfl⟩⟩
    obtain ⟨m, k, er, hq⟩ : ∃ m k er, Hid (psT s = (m, k, er)) := ⟨_, _, _, Lib.hid rfl⟩
    go_enter Tryz.func4, Tryz.ntmps4
    go_wp2_with fail
    (with_reducible refine (far_ _ A c _ _ hva).mono ?_); rintro e w1 ⟨rfl, hw1⟩; subst w1
    go_wp2_with fail
    (with_reducible refine (printQ _ A c l T E hT HR.out Hc.out.1 Ho.out (by have := hl.out; omega) HP.out).mono ?_); rintro e w1 ⟨rfl, hb1⟩
    have HF1 := Lib.hid (HF0.out.go hb1)
    clear hb1 HF0
    go_upto_if 28 with (fail)
    go_cut [7] (fun s7 wx => s7 = s7 ∧ Fr w [] wx)
    case first =>
      by_cases hE : E = 0
      case neg =>
        have e0 : (E == 0) = false := by simpa using hE
        have hF := HF1.out
        go_wp2
        go_meet
        exact ⟨trivial, hF⟩
      case pos =>
        have hbk := Lib.hid (back_of (l := l) (T := T) ⟨hT.out.1, hT.out.2.trans hE⟩)
        subst hE
        go_wp2_with fail
        (with_reducible refine (parseQ T _ l 0 0 (Lib.hid hbk.out.1) (HM.out.below HF1.out.bel) (HRr.out.below HF1.out.bel) hbk.out.2).mono ?_); rintro e w2 ⟨A2, c2, rfl, hb2, hr2, hc2, hd2⟩
        have HF2 := Lib.hid (HF1.out.go hb2)
        have HR2 := Lib.hid hr2
        clear hb2 HF1 hr2
        go_wp2_with fail
        (with_reducible refine (sameQ _ _ _ A2 A c2 c l HR2.out (HR.out.go HF2.out.bel) (by have := hl.out; omega)).mono ?_); rintro e w3 ⟨rfl, hb3⟩
        have hF := HF2.out.go hb3
        clear hb3
        go_wp2
        go_meet
        exact ⟨trivial, hF⟩
    case rest =>
    obtain ⟨_, hFx⟩ := hcut
    have HFx := Lib.hid hFx
    clear hFx HF1
    go_wp2_with fail
    (with_reducible refine (parseQ s _ m k er hq (HM.out.below HFx.out.bel) (HRr.out.below HFx.out.bel) (by omega)).mono ?_); rintro e w3 ⟨A2, c2, rfl, hb3, hr3, hc3, hd3⟩
    have HF3 := Lib.hid (HFx.out.go hb3)
    have HR3 := Lib.hid hr3
    clear hb3 HFx hr3
    by_cases he : er = 0
    case neg =>
      have e0 : (er != 0) = true := by simpa using he
      obtain rfl : m = [] := by
        have := psT_no (s := s) (by rw [hq.out]; exact he)
        rw [hq.out] at this; exact this
      go_wp2_with fail
      (with_reducible refine (awake_ _ (by exact HP.out.below HF3.out.bel)).mono ?_); rintro e wz ⟨rfl, hbz⟩
      have hB := (HF3.out.go hbz).bel
      go_wp2
      go_ret
      exact ⟨rfl, hB⟩
    case pos =>
    subst he
    have Hf := Lib.hid (forth_of hq.out)
    have Hm := Lib.hid (ok_of_chk Hf.out.2)
    go_wp2_with fail
    (with_reducible refine (printQ _ A2 c2 m s 0 (Lib.hid Hf.out.1) HR3.out hc3 Hm.out.1 (by have := Hm.out.2; omega) (HP.out.below HF3.out.bel)).mono ?_); rintro e w4 ⟨rfl, hb4⟩
    have HF4 := Lib.hid (HF3.out.go hb4)
    have HR4 := Lib.hid (HR3.out.go hb4)
    have Hchk := Lib.hid (check_ w4 A2 c2 m HR4.out Hm.out.1 (by have := Hm.out.2; omega) 65536)
    rw [Hf.out.2] at Hchk
    clear hb4 HF3 HR3
    go_wp2_with fail
    (with_reducible refine Hchk.out.mono ?_); rintro e w5 ⟨rfl, hb5⟩
    have HF5 := Lib.hid (HF4.out.go hb5)
    clear hb5 HF4 HR4 Hchk
    go_wp2_with fail
    (with_reducible refine (awake_ _ (by exact HP.out.below HF5.out.bel)).mono ?_); rintro e wz ⟨rfl, hbz⟩
    have hB := (HF5.out.go hbz).bel
    go_wp2
    go_ret
    exact ⟨rfl, hB⟩
  · go_enter Tryz.func4, Tryz.ntmps4
    go_wp2_with fail
    (with_reducible refine (far_ _ A c _ _ hva).mono ?_); rintro e w1 ⟨rfl, hw1⟩; subst w1
    go_wp2_with fail
    (with_reducible refine (awake_ w (by exact HP.out)).mono ?_); rintro e wz ⟨rfl, hbz⟩
    have hB := (HF0.out.go hbz).bel
    go_wp2
    go_ret
    exact ⟨rfl, hB⟩
end Go.Proofs.YtpgojecldmcopaaGreatDoor
