/- BitsShifts: Shift and Back of the program answer as the reference does. -/
import Derived.Test.YtibnegheabhbdaaDoorOpenBits
namespace Go.Proofs.YtibnegheabhbdaaDoor
open Go.RowKit
set_option maxRecDepth 100000 in
set_option maxHeartbeats 4000000 in
theorem bitsShifts_nat (w : World) (A : Option Addr) (c : Nat) (l : List Nat) (h : Reads w w.heap.size 1 A l.length (u64s l)) (hw : W64 l) (hl : l.length ≤ 9223372036854775807) (v : Bool) (hT : Tz16 w) :
    Calls Tryd.prog 3 #[.slice A l.length c, .bool v] w fun e w' => e = .returned (.bool true) ∧ Below w.heap.size w w' := by
  have HT := Lib.hid hT
  have HR := Lib.hid h
  have Hw := Lib.hid hw
  clear hT h hw
  by_cases hf : 20 < l.length
  · have Hf := Lib.hid (show true = decide (20 < l.length) by simp [hf])
    go_enter Tryd.func3, Tryd.ntmps3
    go_wp2_with fail
    (with_reducible refine (far_ _ A c l.length true Hf hl).mono ?_); rintro e w' ⟨rfl, rfl⟩
    go_wp2_with fail
    (with_reducible refine (awake_ _ HT.out).mono ?_); rintro e w1 ⟨rfl, hb1⟩
    go_wp2
    go_ret
    exact ⟨rfl, hb1⟩
  · have Hf := Lib.hid (show false = decide (20 < l.length) by simp [hf])
    have hs1 := shift_ w A c l HR.out Hw.out hl v
    obtain ⟨LS, hLS⟩ : ∃ LS, LS = shL l v := ⟨_, rfl⟩
    obtain ⟨OS, hOS⟩ : ∃ OS, OS = shO l := ⟨_, rfl⟩
    obtain ⟨LB, hLB⟩ : ∃ LB, LB = bkL l v := ⟨_, rfl⟩
    obtain ⟨OB, hOB⟩ : ∃ OB, OB = bkO l := ⟨_, rfl⟩
    obtain ⟨E, hE⟩ : ∃ E, E = chkB l.length := ⟨_, rfl⟩
    have H1 := Lib.hid (fun W (hb : Below w.heap.size w W) => shift_ W A c l (HR.out.go hb) Hw.out hl v)
    have H2 := Lib.hid (fun W (hb : Below w.heap.size w W) => rshift_ W A c l (HR.out.go hb) Hw.out hl v)
    have H3 := Lib.hid (fun W (hb : Below w.heap.size w W) => back_ W A c l (HR.out.go hb) Hw.out hl v)
    have H4 := Lib.hid (fun W (hb : Below w.heap.size w W) => rback_ W A c l (HR.out.go hb) Hw.out hl v)
    rw [← hLS, ← hOS, ← hE] at H1 H2
    rw [← hLB, ← hOB, ← hE] at H3 H4
    have hls : LS.length ≤ 9223372036854775807 := by rw [hLS]; unfold shL; split; · rw [rowOf_len]; exact hl
                                                     · simp
    have hlb : LB.length ≤ 9223372036854775807 := by rw [hLB]; unfold bkL; split; · rw [rowOf_len]; exact hl
                                                     · simp
    clear hs1 hLS hOS hLB hOB hE
    go_enter Tryd.func3, Tryd.ntmps3
    go_wp2_with fail
    (with_reducible refine (far_ _ A c l.length false Hf hl).mono ?_); rintro e w' ⟨rfl, rfl⟩
    go_wp2_with fail
    (with_reducible refine (H1.out _ (Below.refl _ _)).mono ?_); rintro e w1 ⟨A1, c1, rfl, hb1, hr1, hc1, hm1⟩
    have HR1 := Lib.hid hr1
    have HB1 := Lib.hid hb1
    clear hr1 hb1 hc1 hm1
    go_wp2_with fail
    (with_reducible refine (H2.out _ HB1.out).mono ?_); rintro e w2 ⟨A2, c2, rfl, hb2, hr2, hc2, hm2⟩
    have HR1 := Lib.hid (HR1.out.go hb2)
    have HR2 := Lib.hid hr2
    have HB2 := Lib.hid (bt HB1.out hb2)
    clear hr2 hb2 hc2 hm2
    go_wp2_with fail
    (with_reducible refine (H3.out _ HB2.out).mono ?_); rintro e w3 ⟨A3, c3, rfl, hb3, hr3, hc3, hm3⟩
    have HR1 := Lib.hid (HR1.out.go hb3)
    have HR2 := Lib.hid (HR2.out.go hb3)
    have HR3 := Lib.hid hr3
    have HB3 := Lib.hid (bt HB2.out hb3)
    clear hr3 hb3 hc3 hm3
    go_wp2_with fail
    (with_reducible refine (H4.out _ HB3.out).mono ?_); rintro e w4 ⟨A4, c4, rfl, hb4, hr4, hc4, hm4⟩
    have HR1 := Lib.hid (HR1.out.go hb4)
    have HR2 := Lib.hid (HR2.out.go hb4)
    have HR3 := Lib.hid (HR3.out.go hb4)
    have HR4 := Lib.hid hr4
    have HB4 := Lib.hid (bt HB3.out hb4)
    clear hr4 hb4 hc4 hm4 H1 H2 H3 H4
    go_wp2_with fail
    (with_reducible refine (same_ _ _ _ A1 A2 c1 c2 LS LS HR1.out HR2.out hls true (Lib.hid (by simp))).mono ?_); rintro e w5 ⟨rfl, hb5⟩
    have HR3 := Lib.hid (HR3.out.below' hb5 (Nat.le_refl _))
    have HR4 := Lib.hid (HR4.out.below' hb5 (Nat.le_refl _))
    have HB5 := Lib.hid (bt HB4.out hb5)
    clear hb5
    go_wp2_with fail
    (with_reducible refine (same_ _ _ _ A3 A4 c3 c4 LB LB HR3.out HR4.out hlb true (Lib.hid (by simp))).mono ?_); rintro e w6 ⟨rfl, hb6⟩
    have HB6 := Lib.hid (bt HB5.out hb6)
    clear hb6
    go_wp2_with fail
    (with_reducible refine (awake_ _ (tz16_below HT.out HB6.out)).mono ?_); rintro e w7 ⟨rfl, hb7⟩
    have hB := bt HB6.out hb7
    go_wp2
    go_ret
    exact ⟨rfl, hB⟩
theorem bitsShifts_walk (W : World) (A : Option Addr) (c : Nat) (L : List Int) (h : Reads W W.heap.size 1 A L.length (L.map (Value.int .u64))) (hx : ∀ x ∈ L, 0 ≤ x ∧ x ≤ 18446744073709551615) (hc : L.length ≤ c ∧ c ≤ 9223372036854775807) (v : Bool) (hT : Tzt W) :
    Calls Tryd.prog 3 #[.slice A L.length c, .bool v] W fun e w' => e = .returned (.bool true) ∧ Below W.heap.size W w' := by
  obtain ⟨l, e1, hw, e2⟩ := nats_of hx
  rw [e1] at h
  rw [← e2] at h hc ⊢
  exact bitsShifts_nat W A c l h hw (by omega) v hT.of16
end Go.Proofs.YtibnegheabhbdaaDoor
