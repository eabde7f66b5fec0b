/- LexerBack: the stage's theorem. -/
import Derived.Test.YtfleamgncodkpaaDoorJ16
namespace Go.Proofs.YtfleamgncodkpaaDoor
open Go.RowKit
set_option maxRecDepth 100000 in
set_option maxHeartbeats 8000000 in
theorem lexerBack_walk (w : World) (A : Option Addr) (c : Nat) (l : List T9) (hR : Reads w w.heap.size 9 A l.length (tks l)) (hS : ∀ t ∈ l, t.2.2.2.2.1.size ≤ 140737488351232) (hlc : l.length ≤ c ∧ c ≤ 9223372036854775807) (hW : LxW w) (hM : ML w) :
    Calls Tryd.prog 4 #[.slice A l.length c] w fun e w' => e = .returned (.bool true) ∧ Below w.heap.size w w' := by
  have hcap : l.length ≤ 9223372036854775807 := by omega
  have hfar := far_ l w A c hR hcap hS
  have Hfar := Lib.hid hfar
  obtain ⟨s, q, er, hp⟩ : ∃ s q er, prnL l = (s, q, er) := ⟨_, _, _, rfl⟩
  have HC := Lib.hid (prnL_cases hp)
  have HP : Hid (∃ q' : Nat, prnL l = (s, q', er) ∧ (q : Int) = (q' : Int)) := Lib.hid ⟨q, hp, rfl⟩
  have HF0 := Lib.hid (Fr.start w)
  have HW := Lib.hid hW
  have HM := Lib.hid hM
  have HR := Lib.hid hR
  clear hfar hp hW hM hR hS hcap hlc
  go_enter Tryd.func4, Tryd.ntmps4
  go_wp2_with fail
  (with_reducible refine Hfar.out.mono ?_); rintro e w1 ⟨b, rfl, h100, hb⟩
  have HF1 := Lib.hid (HF0.out.go hb)
  have HR1 := Lib.hid (HR.out.go hb)
  clear hb HF0 HR Hfar
  rcases b with _ | _
  case true =>
    go_wp2_with fail
    (with_reducible refine (shown_ _ (HW.out.below HF1.out.bel) (HM.out.below HF1.out.bel)).mono ?_); rintro e w6 ⟨rfl, hb⟩
    have HB := Lib.hid (bt HF1.out.bel hb)
    clear hb HF1
    go_wp2
    go_ret
    exact ⟨rfl, HB.out⟩
  have hl := h100 rfl
  have hl2 : l.length ≤ 100000 := by omega
  clear h100
  go_wp2_with fail
  (with_reducible refine (pr_at l l.length rfl _ A c HR1.out hl2 s q er HP (HW.out.below HF1.out.bel)).mono ?_); rintro e w2 ⟨rfl, hb⟩
  have HF2 := Lib.hid (HF1.out.go hb)
  have HR2 := Lib.hid (HR1.out.go hb)
  clear hb HF1 HR1
  rcases HC.out with ⟨he, rfl⟩ | ⟨rfl, rfl, hs, h1, h2, h3⟩
  · have e1 : (er != 0) = true := by rw [bne_iff_ne]; exact he
    clear he HC
    go_wp2_with fail
    (with_reducible refine (shown_ _ (HW.out.below HF2.out.bel) (HM.out.below HF2.out.bel)).mono ?_); rintro e w6 ⟨rfl, hb⟩
    have HB := Lib.hid (bt HF2.out.bel hb)
    clear hb HF2
    go_wp2
    go_ret
    exact ⟨rfl, HB.out⟩
  obtain ⟨m, k1, k2, k3⟩ := back_law h1 h2 h3
  rw [← hs] at k1 k3 h3
  have hm : m.length ≤ 100000 := by
    have := (sameL_mem k2).1
    rw [List.length_map] at this
    omega
  have hsz : s.size ≤ 100000 := by omega
  have HL : Hid (∃ q : Nat, lineK s.data.toList = (m, q, 0) ∧ (0 : Int) = (q : Int)) := Lib.hid ⟨0, k1, rfl⟩
  have HS2 := Lib.hid k2
  have HP2 : Hid (∃ q : Nat, prnL (m.map t9) = (s, q, 0) ∧ (0 : Int) = (q : Int)) := Lib.hid ⟨0, k3, rfl⟩
  clear hs h1 h2 h3 k1 k2 k3 HC HP
  go_wp2_with fail
  (with_reducible refine (ln_at s hsz s.data.toList rfl m 0 0 HL _ (HW.out.below HF2.out.bel).esc (HM.out.below HF2.out.bel)).mono ?_); rintro e w3 ⟨A3, c3, rfl, hb, hr⟩
  have HF3 := Lib.hid (HF2.out.go hb)
  have HR3 := Lib.hid (HR2.out.go hb)
  have HX3 := Lib.hid hr
  clear hb hr HF2 HR2
  go_wp2_with fail
  (with_reducible refine (pr_at (m.map t9) m.length (List.length_map _) _ A3 c3 HX3.out hm s 0 0 HP2 (HW.out.below HF3.out.bel)).mono ?_); rintro e w4 ⟨rfl, hb⟩
  have HF4 := Lib.hid (HF3.out.go hb)
  have HR4 := Lib.hid (HR3.out.go hb)
  have HX4 := Lib.hid (HX3.out.go hb)
  clear hb HF3 HR3 HX3
  have e1 : (s == s) = true := bytes_self s
  go_wp2_with fail
  (with_reducible refine (sm_at false (m.map t9) l m.length l.length (List.length_map _) rfl _ A3 A c3 c HX4.out HR4.out hm hl2 true HS2).mono ?_); rintro e w5 ⟨rfl, hb⟩
  have HF5 := Lib.hid (HF4.out.go hb)
  clear hb HF4 HR4 HX4
  go_wp2_with fail
  (with_reducible refine (shown_ _ (HW.out.below HF5.out.bel) (HM.out.below HF5.out.bel)).mono ?_); rintro e w6 ⟨rfl, hb⟩
  have HB := Lib.hid (bt HF5.out.bel hb)
  clear hb HF5
  go_wp2
  go_ret
  exact ⟨rfl, HB.out⟩
end Go.Proofs.YtfleamgncodkpaaDoor
