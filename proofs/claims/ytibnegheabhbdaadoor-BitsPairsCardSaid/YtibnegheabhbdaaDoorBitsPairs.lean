/- BitsPairs: And, Or and Not of the program answer as the reference does. -/
import Derived.Test.YtibnegheabhbdaaDoorOpenBits
namespace Go.Proofs.YtibnegheabhbdaaDoor
open Go.RowKit
theorem andL_len (l m : List Nat) : (andL l m).length ≤ l.length := by unfold andL; split <;> simp [rowOf_len]
theorem orL_len (l m : List Nat) : (orL l m).length ≤ l.length := by unfold orL; split <;> simp [rowOf_len]
theorem notL_len (l : List Nat) : (notL l).length ≤ l.length := by unfold notL; split <;> simp [rowOf_len]
set_option maxRecDepth 100000 in
set_option maxHeartbeats 4000000 in
theorem bitsPairs_nat (w : World) (A A' : Option Addr) (c c' : Nat) (l m : List Nat) (h : Reads w w.heap.size 1 A l.length (u64s l)) (h' : Reads w w.heap.size 1 A' m.length (u64s m)) (hw : W64 l) (hw' : W64 m) (hl : l.length ≤ 9223372036854775807) (hl' : m.length ≤ 9223372036854775807) (hT : Tz16 w) :
    Calls Tryd.prog 5 #[.slice A l.length c, .slice A' m.length c'] w fun e w' => e = .returned (.bool true) ∧ Below w.heap.size w w' := by
  have HT := Lib.hid hT
  have HR := Lib.hid h
  have HR' := Lib.hid h'
  have Hw := Lib.hid hw
  have Hw' := Lib.hid hw'
  clear hT h hw h' hw'
  by_cases hf : 20 < l.length
  · have Hf := Lib.hid (show true = decide (20 < l.length) by simp [hf])
    go_enter Tryd.func5, Tryd.ntmps5
    go_wp2_with fail
    (with_reducible refine (far_ _ A c l.length true Hf hl).mono ?_); rintro e w' ⟨rfl, rfl⟩
    go_wp2_with fail
    (with_reducible refine (awake_ _ HT.out).mono ?_); rintro e w1 ⟨rfl, hb1⟩
    go_wp2
    go_ret
    exact ⟨rfl, hb1⟩
  have Hf := Lib.hid (show false = decide (20 < l.length) by simp [hf])
  clear hf
  by_cases hf : 20 < m.length
  · have Hf' := Lib.hid (show true = decide (20 < m.length) by simp [hf])
    go_enter Tryd.func5, Tryd.ntmps5
    go_wp2_with fail
    (with_reducible refine (far_ _ A c l.length false Hf hl).mono ?_); rintro e w' ⟨rfl, rfl⟩
    go_wp2_with fail
    (with_reducible refine (far_ _ A' c' m.length true Hf' hl').mono ?_); rintro e w' ⟨rfl, rfl⟩
    go_wp2_with fail
    (with_reducible refine (awake_ _ HT.out).mono ?_); rintro e w1 ⟨rfl, hb1⟩
    go_wp2
    go_ret
    exact ⟨rfl, hb1⟩
  · have Hf' := Lib.hid (show false = decide (20 < m.length) by simp [hf])
    obtain ⟨LA, hLA⟩ : ∃ LA, LA = andL l m := ⟨_, rfl⟩
    obtain ⟨LO, hLO⟩ : ∃ LO, LO = orL l m := ⟨_, rfl⟩
    obtain ⟨LN, hLN⟩ : ∃ LN, LN = notL l := ⟨_, rfl⟩
    obtain ⟨E, hE⟩ : ∃ E, E = chkB l.length := ⟨_, rfl⟩
    obtain ⟨T, hTT⟩ : ∃ T, T = twoE l.length m.length := ⟨_, rfl⟩
    have H1 := Lib.hid (fun W (hb : Below w.heap.size w W) => and_ W A A' c c' l m (HR.out.go hb) (HR'.out.go hb) Hw.out Hw'.out hl hl')
    have H2 := Lib.hid (fun W (hb : Below w.heap.size w W) => rand_ W A A' c c' l m (HR.out.go hb) (HR'.out.go hb) Hw.out Hw'.out hl hl')
    have H3 := Lib.hid (fun W (hb : Below w.heap.size w W) => or_ W A A' c c' l m (HR.out.go hb) (HR'.out.go hb) Hw.out Hw'.out hl hl')
    have H4 := Lib.hid (fun W (hb : Below w.heap.size w W) => ror_ W A A' c c' l m (HR.out.go hb) (HR'.out.go hb) Hw.out Hw'.out hl hl')
    have H5 := Lib.hid (fun W (hb : Below w.heap.size w W) => not_ W A c l (HR.out.go hb) Hw.out hl)
    have H6 := Lib.hid (fun W (hb : Below w.heap.size w W) => rnot_ W A c l (HR.out.go hb) Hw.out hl)
    rw [← hLA, ← hTT] at H1 H2
    rw [← hLO, ← hTT] at H3 H4
    rw [← hLN, ← hE] at H5 H6
    have hla : LA.length ≤ 9223372036854775807 := by rw [hLA]; exact Nat.le_trans (andL_len l m) hl
    have hlo : LO.length ≤ 9223372036854775807 := by rw [hLO]; exact Nat.le_trans (orL_len l m) hl
    have hln : LN.length ≤ 9223372036854775807 := by rw [hLN]; exact Nat.le_trans (notL_len l) hl
    clear hLA hLO hLN hE hTT
    go_enter Tryd.func5, Tryd.ntmps5
    go_wp2_with fail
    (with_reducible refine (far_ _ A c l.length false Hf hl).mono ?_); rintro e w' ⟨rfl, rfl⟩
    go_wp2_with fail
    (with_reducible refine (far_ _ A' c' m.length false Hf' hl').mono ?_); rintro e w' ⟨rfl, rfl⟩
    go_wp2_with fail
    (with_reducible refine (H1.out _ (Below.refl _ _)).mono ?_); rintro e w1 ⟨A1, c1, rfl, hb1, hr1, hc1, hm1⟩
    have HR1 := Lib.hid hr1
    have HB1 := Lib.hid hb1
    clear hr1 hb1 hc1 hm1
    go_wp2_with fail
    (with_reducible refine (H2.out _ HB1.out).mono ?_); rintro e w2 ⟨A2, c2, rfl, hb2, hr2, hc2, hm2⟩
    have HR1 := Lib.hid (HR1.out.go hb2)
    have HR2 := Lib.hid hr2
    have HB2 := Lib.hid (bt HB1.out hb2)
    clear hr2 hb2 hc2 hm2
    go_wp2_with fail
    (with_reducible refine (H3.out _ HB2.out).mono ?_); rintro e w3 ⟨A3, c3, rfl, hb3, hr3, hc3, hm3⟩
    have HR1 := Lib.hid (HR1.out.go hb3)
    have HR2 := Lib.hid (HR2.out.go hb3)
    have HR3 := Lib.hid hr3
    have HB3 := Lib.hid (bt HB2.out hb3)
    clear hr3 hb3 hc3 hm3
    go_wp2_with fail
    (with_reducible refine (H4.out _ HB3.out).mono ?_); rintro e w4 ⟨A4, c4, rfl, hb4, hr4, hc4, hm4⟩
    have HR1 := Lib.hid (HR1.out.go hb4)
    have HR2 := Lib.hid (HR2.out.go hb4)
    have HR3 := Lib.hid (HR3.out.go hb4)
    have HR4 := Lib.hid hr4
    have HB4 := Lib.hid (bt HB3.out hb4)
    clear hr4 hb4 hc4 hm4
    go_wp2_with fail
    (with_reducible refine (H5.out _ HB4.out).mono ?_); rintro e w5 ⟨A5, c5, rfl, hb5, hr5, hc5, hm5⟩
    have HR1 := Lib.hid (HR1.out.go hb5)
    have HR2 := Lib.hid (HR2.out.go hb5)
    have HR3 := Lib.hid (HR3.out.go hb5)
    have HR4 := Lib.hid (HR4.out.go hb5)
    have HR5 := Lib.hid hr5
    have HB5 := Lib.hid (bt HB4.out hb5)
    clear hr5 hb5 hc5 hm5
    go_wp2_with fail
    (with_reducible refine (H6.out _ HB5.out).mono ?_); rintro e w6 ⟨A6, c6, rfl, hb6, hr6, hc6, hm6⟩
    have HR1 := Lib.hid (HR1.out.go hb6)
    have HR2 := Lib.hid (HR2.out.go hb6)
    have HR3 := Lib.hid (HR3.out.go hb6)
    have HR4 := Lib.hid (HR4.out.go hb6)
    have HR5 := Lib.hid (HR5.out.go hb6)
    have HR6 := Lib.hid hr6
    have HB6 := Lib.hid (bt HB5.out hb6)
    clear hr6 hb6 hc6 hm6 H1 H2 H3 H4 H5 H6
    go_wp2_with fail
    (with_reducible refine (same_ _ _ _ A1 A2 c1 c2 LA LA HR1.out HR2.out hla true (Lib.hid (by simp))).mono ?_); rintro e w7 ⟨rfl, hb7⟩
    have HR3 := Lib.hid (HR3.out.go hb7)
    have HR4 := Lib.hid (HR4.out.go hb7)
    have HR5 := Lib.hid (HR5.out.go hb7)
    have HR6 := Lib.hid (HR6.out.go hb7)
    have HB7 := Lib.hid (bt HB6.out hb7)
    clear hb7
    go_wp2_with fail
    (with_reducible refine (same_ _ _ _ A3 A4 c3 c4 LO LO HR3.out HR4.out hlo true (Lib.hid (by simp))).mono ?_); rintro e w8 ⟨rfl, hb8⟩
    have HR5 := Lib.hid (HR5.out.go hb8)
    have HR6 := Lib.hid (HR6.out.go hb8)
    have HB8 := Lib.hid (bt HB7.out hb8)
    clear hb8
    go_wp2_with fail
    (with_reducible refine (same_ _ _ _ A5 A6 c5 c6 LN LN HR5.out HR6.out hln true (Lib.hid (by simp))).mono ?_); rintro e w9 ⟨rfl, hb9⟩
    have HB9 := Lib.hid (bt HB8.out hb9)
    clear hb9
    go_wp2_with fail
    (with_reducible refine (awake_ _ (tz16_below HT.out HB9.out)).mono ?_); rintro e wA ⟨rfl, hbA⟩
    have hB := bt HB9.out hbA
    go_wp2
    go_ret
    exact ⟨rfl, hB⟩
theorem bitsPairs_walk (W : World) (A : Option Addr) (c : Nat) (L : List Int) (h : Reads W W.heap.size 1 A L.length (L.map (Value.int .u64))) (hx : ∀ x ∈ L, 0 ≤ x ∧ x ≤ 18446744073709551615) (hc : L.length ≤ c ∧ c ≤ 9223372036854775807)
    (A' : Option Addr) (c' : Nat) (L' : List Int) (h' : Reads W W.heap.size 1 A' L'.length (L'.map (Value.int .u64))) (hx' : ∀ x ∈ L', 0 ≤ x ∧ x ≤ 18446744073709551615) (hc' : L'.length ≤ c' ∧ c' ≤ 9223372036854775807) (hT : Tzt W) :
    Calls Tryd.prog 5 #[.slice A L.length c, .slice A' L'.length c'] W fun e w' => e = .returned (.bool true) ∧ Below W.heap.size W w' := by
  obtain ⟨l, e1, hw, e2⟩ := nats_of hx
  obtain ⟨l', e1', hw', e2'⟩ := nats_of hx'
  rw [e1] at h
  rw [e1'] at h'
  rw [← e2] at h hc ⊢
  rw [← e2'] at h' hc' ⊢
  exact bitsPairs_nat W A A' c c' l l' h h' hw hw' (by omega) (by omega) hT.of16
end Go.Proofs.YtibnegheabhbdaaDoor
