/- BitsTexts: Print and Parse of the program answer as the reference does; each undoes the other. -/
import Derived.Test.YtibnegheabhbdaaDoorB38
import Derived.Test.YtibnegheabhbdaaDoorOpenBits
namespace Go.Proofs.YtibnegheabhbdaaDoor
open Go.RowKit
theorem rprint_ (w : World) (A : Option Addr) (c : Nat) (l : List Nat) (h : Reads w w.heap.size 1 A l.length (u64s l)) (hw : W64 l) (hl : l.length ≤ 9223372036854775807) :
    Calls Tryd.prog 39 #[.slice A l.length c] w fun e w' => e = .returned (.tuple #[.string ⟨(prtV l).toArray⟩, .int .i64 (chkB l.length)]) ∧ Below w.heap.size w w' := by
  by_cases h0 : chkB l.length = 0
  · have := rprint_ok w A c l h hw h0
    unfold prtV
    rw [if_pos h0, h0]
    exact this
  · obtain ⟨x, hx⟩ : ∃ x, x = chkB l.length := ⟨_, rfl⟩
    have HX := Lib.hid hx
    have HV := Lib.hid (show prtV l = [] from if_neg h0)
    rw [← hx] at h0 ⊢
    have e1 : (x != 0) = true := by simpa using h0
    clear hx h0 h
    go_enter Tryd.func39, Tryd.ntmps39
    go_wp2_with fail
    (with_reducible refine (rcheck_ _ A c l.length hl x HX).mono ?_); rintro e w' ⟨rfl, rfl⟩
    go_wp2
    go_ret2
    rw [HV.out]
    exact ⟨rfl, Below.refl _ _⟩
theorem prtV_len (l : List Nat) : (prtV l).length ≤ 136 := by
  unfold prtV
  split
  next h =>
    have := prtB_len l
    have := chkB_ok.1 h
    omega
  · simp
set_option maxRecDepth 100000 in
set_option maxHeartbeats 4000000 in
theorem bitsTexts_far (w : World) (A : Option Addr) (c : Nat) (l : List Nat) (hl : l.length ≤ 9223372036854775807) (s : ByteArray) (hs : s.size ≤ 140737488351232) (hT : Tz16 w) (hf : 20 < l.length ∨ 200 < s.size) :
    Calls Tryd.prog 10 #[.slice A l.length c, .string s] w fun e w' => e = .returned (.bool true) ∧ Below w.heap.size w w' := by
  have HA := Lib.hid (fun W (h : Tz16 W) => awake_ W h)
  have HT := Lib.hid hT
  by_cases h1 : 20 < l.length
  · have Hf := Lib.hid (show true = decide (20 < l.length) by simp [h1])
    clear hf hT
    go_enter Tryd.func10, Tryd.ntmps10
    go_wp2_with fail
    (with_reducible refine (far_ _ A c l.length true Hf hl).mono ?_); rintro e w' ⟨rfl, rfl⟩
    go_wp2_with fail
    (with_reducible refine (HA.out _ HT.out).mono ?_); rintro e w1 ⟨rfl, hb1⟩
    go_wp2
    go_ret
    exact ⟨rfl, hb1⟩
  · have h2 : 200 < s.size := by omega
    have Hf := Lib.hid (show false = decide (20 < l.length) by simp; omega)
    clear hf hT
    go_enter Tryd.func10, Tryd.ntmps10
    go_wp2_with fail
    (with_reducible refine (far_ _ A c l.length false Hf hl).mono ?_); rintro e w' ⟨rfl, rfl⟩
    go_wp2_with fail
    (with_reducible refine (HA.out _ HT.out).mono ?_); rintro e w1 ⟨rfl, hb1⟩
    go_wp2
    go_ret
    exact ⟨rfl, hb1⟩
set_option maxRecDepth 100000 in
set_option maxHeartbeats 4000000 in
theorem bitsTexts_near (w : World) (A : Option Addr) (c : Nat) (l : List Nat) (h : Reads w w.heap.size 1 A l.length (u64s l)) (hw : W64 l) (s : ByteArray) (hT : Tz16 w) (hE : Errs w) (hM : ML w) (h1 : l.length ≤ 20) (h2 : s.size ≤ 200) :
    Calls Tryd.prog 10 #[.slice A l.length c, .string s] w fun e w' => e = .returned (.bool true) ∧ Below w.heap.size w w' := by
  have HT := Lib.hid hT
  have HE := Lib.hid hE
  have HM := Lib.hid hM
  have HR := Lib.hid h
  have Hw := Lib.hid hw
  have Hf := Lib.hid (show false = decide (20 < l.length) by simp; omega)
  obtain ⟨T, hTt⟩ : ∃ T : ByteArray, T = ⟨(prtV l).toArray⟩ := ⟨_, rfl⟩
  obtain ⟨C, hC⟩ : ∃ C, C = chkB l.length := ⟨_, rfl⟩
  obtain ⟨PL, hPL⟩ : ∃ PL, PL = psV s.data.toList := ⟨_, rfl⟩
  obtain ⟨PE, hPE⟩ : ∃ PE, PE = psE s.data.toList := ⟨_, rfl⟩
  have hTl : T.size ≤ 1000 := by rw [hTt]; have := prtV_len l; show (prtV l).toArray.size ≤ 1000; rw [List.size_toArray]; omega
  have hTd : T.data.toList = prtV l := by rw [hTt]
  have P1 := Lib.hid (fun W (hb : Below w.heap.size w W) => by
    have := print_ W A c l (h.go hb) hw (by omega) (tz16_below hT hb)
    rw [← hTt, ← hC] at this
    exact this)
  have P2 := Lib.hid (fun W (hb : Below w.heap.size w W) => by
    have := rprint_ W A c l (h.go hb) hw (by omega)
    rw [← hTt, ← hC] at this
    exact this)
  have P3 := Lib.hid (fun W (hb : Below w.heap.size w W) => by
    have := parse_ s _ rfl W (by omega) (hM.below hb) (hE.below hb)
    rw [← hPL, ← hPE] at this
    exact this)
  have P4 := Lib.hid (fun W => by
    have := rparse_ s _ rfl W (by omega)
    rw [← hPL, ← hPE] at this
    exact this)
  have P5 := Lib.hid (fun (hc : C = 0) W (hb : Below w.heap.size w W) => (by
    have hc' : chkB l.length = 0 := by rw [← hC]; exact hc
    have hv : prtV l = prtB l := if_pos hc'
    obtain ⟨q1, q2⟩ := ps_prt hw hc'
    have := parse_ T (prtV l) hTd W hTl (hM.below hb) (hE.below hb)
    rw [hv, q1, q2] at this
    exact this : Calls Tryd.prog 40 #[.string T] W (RetSl W 1 (u64s l) l.length 0)))
  have P6 := Lib.hid (fun (hc : PE = 0) W A3 c3 (hb : Below w.heap.size w W) (hr : Reads W W.heap.size 1 A3 PL.length (u64s PL)) => (by
    have hc' : psE s.data.toList = 0 := by rw [← hPE]; exact hc
    have hw3 : W64 PL := by rw [hPL]; exact psV_w _
    have hk := psV_len hc'
    have hp := prt_ps hc'
    rw [← hPL] at hk hp
    have hk8 := chkB_ok.1 hk
    have hv : prtV PL = s.data.toList := by unfold prtV; rw [if_pos hk]; exact hp
    have := print_ W A3 c3 PL hr hw3 (by omega) (tz16_below hT hb)
    rw [hv, hk] at this
    exact this : Calls Tryd.prog 38 #[.slice A3 PL.length c3] W fun e w' => e = .returned (.tuple #[.string s, .int .i64 0]) ∧ Below W.heap.size W w'))
  have P7 := Lib.hid (fun W (hb : Below w.heap.size w W) => awake_ W (tz16_below hT hb))
  have hPn : PL.length ≤ 1000 := by
    rw [hPL]
    rcases psE_cases s.data.toList with h0 | h0 | h0
    · have := chkB_ok.1 (psV_len h0); omega
    · unfold psV; rw [if_neg (by rw [h0]; decide)]; simp
    · unfold psV; rw [if_neg (by rw [h0]; decide)]; simp
  clear hT hE hM h hw hTt hC hPL hPE hTl hTd
  go_enter Tryd.func10, Tryd.ntmps10
  go_wp2_with fail
  (with_reducible refine (far_ _ A c l.length false Hf (by omega)).mono ?_); rintro e w' ⟨rfl, rfl⟩
  go_wp2_with fail
  (with_reducible refine (P1.out _ (Below.refl _ _)).mono ?_); rintro e w1 ⟨rfl, hb⟩
  have HB := Lib.hid hb
  clear hb
  go_wp2_with fail
  (with_reducible refine (P2.out _ HB.out).mono ?_); rintro e w2 ⟨rfl, hb⟩
  have HB := Lib.hid (bt HB.out hb)
  clear hb P1 P2
  go_wp2_with fail
  (with_reducible refine (P3.out _ HB.out).mono ?_); rintro e w3 ⟨A3, c3, rfl, hb, hr3, _, _⟩
  have HB := Lib.hid (bt HB.out hb)
  have HR3 := Lib.hid hr3
  clear hb hr3 P3
  go_wp2_with fail
  (with_reducible refine (P4.out _).mono ?_); rintro e w4 ⟨A4, c4, rfl, hb, hr4, _, _⟩
  have HB := Lib.hid (bt HB.out hb)
  have HR3 := Lib.hid (HR3.out.go hb)
  have HR4 := Lib.hid hr4
  clear hb hr4 P4
  go_wp2_with fail
  (with_reducible refine (same_ _ _ _ A3 A4 c3 c4 PL PL HR3.out HR4.out (by omega) true (Lib.hid (by simp))).mono ?_); rintro e w5 ⟨rfl, hb⟩
  have HB := Lib.hid (bt HB.out hb)
  have HR3 := Lib.hid (HR3.out.go hb)
  clear hb HR4
  go_upto_if 65 with (fail)
  go_cut [13, 14] (fun _ _ wx => Below w5.heap.size w5 wx)
  case first =>
    by_cases hC : C = 0
    · have p5 := P5.out hC
      have HP := Lib.hid p5
      clear p5 P5 P6 P7
      subst hC
      go_wp2_with fail
      (with_reducible refine (HP.out _ HB.out).mono ?_); rintro e w6 ⟨A6, c6, rfl, hb, hr6, _, _⟩
      have HB6 := Lib.hid hb
      have HR6 := Lib.hid hr6
      have HRL := Lib.hid (HR.out.go (bt HB.out hb))
      clear hb hr6
      go_wp2_with fail
      (with_reducible refine (same_ _ _ _ A6 A c6 c l l HR6.out HRL.out (by omega) true (Lib.hid (by simp))).mono ?_); rintro e w7 ⟨rfl, hb⟩
      have hB7 := bt HB6.out hb
      clear hb
      go_wp2
      go_meet
      exact hB7
    · have e1 : (C == 0) = false := by simpa using hC
      have hBz := Below.refl w5.heap.size w5
      clear P5 P6 P7 hC
      go_wp2
      go_meet
      exact hBz
  case rest =>
    have HB6 := Lib.hid (bt HB.out hcut)
    have HR6 := Lib.hid (HR3.out.go hcut)
    clear hcut P5 HR3 HB
    by_cases hC : PE = 0
    · have p6 := P6.out hC
      have HP := Lib.hid p6
      clear p6 P6
      subst hC
      go_wp2_with fail
      (with_reducible refine (HP.out _ A3 c3 HB6.out HR6.out).mono ?_); rintro e w7 ⟨rfl, hb⟩
      have HB7 := Lib.hid (bt HB6.out hb)
      clear hb
      go_wp2_with fail
      (with_reducible refine (P7.out _ HB7.out).mono ?_); rintro e w8 ⟨rfl, hb⟩
      have hB8 := bt HB7.out hb
      clear hb
      go_wp2
      go_ret
      exact ⟨rfl, hB8⟩
    · have e1 : (PE == 0) = false := by simpa using hC
      clear P6 hC
      go_wp2_with fail
      (with_reducible refine (P7.out _ HB6.out).mono ?_); rintro e w8 ⟨rfl, hb⟩
      have hB8 := bt HB6.out hb
      clear hb
      go_wp2
      go_ret
      exact ⟨rfl, hB8⟩
theorem bitsTexts_walk (W : World) (A : Option Addr) (c : Nat) (L : List Int) (h : Reads W W.heap.size 1 A L.length (L.map (Value.int .u64))) (hx : ∀ x ∈ L, 0 ≤ x ∧ x ≤ 18446744073709551615) (hc : L.length ≤ c ∧ c ≤ 9223372036854775807)
    (s : ByteArray) (hs : s.size ≤ 140737488351232) (hT : Tzt W) (hE : Errs W) (hM : ML W) :
    Calls Tryd.prog 10 #[.slice A L.length c, .string s] W fun e w' => e = .returned (.bool true) ∧ Below W.heap.size W w' := by
  obtain ⟨l, e1, hw, e2⟩ := nats_of hx
  rw [e1] at h
  rw [← e2] at h hc ⊢
  by_cases hf : 20 < l.length ∨ 200 < s.size
  · exact bitsTexts_far W A c l (by omega) s hs hT.of16 hf
  · exact bitsTexts_near W A c l h hw s hT.of16 hE hM (by omega) (by omega)
end Go.Proofs.YtibnegheabhbdaaDoor
