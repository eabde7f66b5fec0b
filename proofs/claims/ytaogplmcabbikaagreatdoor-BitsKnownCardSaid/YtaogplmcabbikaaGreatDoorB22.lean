/- Rows of bits: what every law of the chapter asks first. -/
import Derived.Test.YtaogplmcabbikaaGreatDoorB21
import Derived.Test.YtaogplmcabbikaaGreatDoorB18
namespace Go.Proofs.YtaogplmcabbikaaGreatDoor
open Go.RowKit
def prtV (l : List Nat) : List UInt8 := if chkB l.length = 0 then prtB l else []
theorem print_ (w : World) (A : Option Addr) (c : Nat) (l : List Nat) (h : Reads w w.heap.size 1 A l.length (u64s l)) (hw : W64 l) (hl : l.length ≤ 9223372036854775807) (hT : Tz16 w) :
    Calls Tryz.prog 6 #[.slice A l.length c] w fun e w' => e = .returned (.tuple #[.string ⟨(prtV l).toArray⟩, .int .i64 (chkB l.length)]) ∧ Below w.heap.size w w' := by
  by_cases h0 : chkB l.length = 0
  · have := print_ok w A c l h hw h0 hT
    unfold prtV
    rw [if_pos h0, h0]
    exact this
  · obtain ⟨x, hx⟩ : ∃ x, x = chkB l.length := ⟨_, rfl⟩
    have HX := Lib.hid hx
    have HV := Lib.hid (show prtV l = [] from if_neg h0)
    rw [← hx] at h0 ⊢
    have e1 : (x != 0) = true := by simpa using h0
    clear hx h0 h hT
    go_enter Tryz.func6, Tryz.ntmps6
    go_wp2_with fail
    (with_reducible refine (check_ _ A c l.length hl x HX).mono ?_); rintro e w' ⟨rfl, rfl⟩
    go_wp2
    go_ret2
    rw [HV.out]
    exact ⟨rfl, Below.refl _ _⟩
theorem aw_of : ofL 2 [0, 63, 64] = [9223372036854775809, 1] ∧ ofE 2 [0, 63, 64] = 0 := by decide +kernel
theorem aw_sh : shL [9223372036854775809, 1] false = [2, 3] ∧ shO [9223372036854775809, 1] = false := by decide +kernel
theorem aw_pr : prtV [9223372036854775809, 1] = [48, 48, 48, 48, 48, 48, 48, 48, 48, 48, 48, 48, 48, 48, 48, 49, 46, 56, 48, 48, 48, 48, 48, 48, 48, 48, 48, 48, 48, 48, 48, 48, 49] ∧ prtV [2, 3] = [48, 48, 48, 48, 48, 48, 48, 48, 48, 48, 48, 48, 48, 48, 48, 51, 46, 48, 48, 48, 48, 48, 48, 48, 48, 48, 48, 48, 48, 48, 48, 48, 50] := by decide +kernel
theorem aw_cn : cntV [9223372036854775809, 1] = 3 := by decide +kernel
theorem aw_w1 : W64 [9223372036854775809, 1] := by intro x hx; simp at hx; omega
theorem aw_w2 : W64 [2, 3] := by intro x hx; simp at hx; omega
set_option maxRecDepth 100000 in
set_option maxHeartbeats 2000000 in
theorem awake_ (w : World) (hT : Tz16 w) : Calls Tryz.prog 14 #[] w fun e w' => e = .returned (.bool true) ∧ Below w.heap.size w w' := by
  have HT := Lib.hid hT
  have hR0 : Reads (w.alloc (.cells #[.int .i64 0, .int .i64 63, .int .i64 64] 3)) (w.alloc (.cells #[.int .i64 0, .int .i64 63, .int .i64 64] 3)).heap.size 1 (some ⟨w.heap.size, 0, none⟩) 3 (i64s [0, 63, 64]) := reads_blkN (t := 3) (alloc1_new _ _) rfl
  have h1 := of_ _ (some ⟨w.heap.size, 0, none⟩) 3 2 (by omega) [0, 63, 64] hR0 (by simp)
  rw [aw_of.1, aw_of.2] at h1
  have H1 : Hid (Calls Tryz.prog 4 #[.int .i64 2, .slice (some ⟨w.heap.size, 0, none⟩) 3 3] (w.alloc (.cells #[.int .i64 0, .int .i64 63, .int .i64 64] 3)) (RetSl (w.alloc (.cells #[.int .i64 0, .int .i64 63, .int .i64 64] 3)) 1 (u64s [9223372036854775809, 1]) 2 0)) := Lib.hid h1
  have hB0 : Below w.heap.size w (w.alloc (.cells #[.int .i64 0, .int .i64 63, .int .i64 64] 3)) := ba (Below.refl _ _) _
  clear hT hR0 h1
  go_enter Tryz.func14, Tryz.ntmps14
  go_wp2_with fail
  (with_reducible refine (H1.out).mono ?_); rintro e w1 ⟨A1, c1, rfl, hb1, hr1, hc1, hm1⟩
  have HB1 := Lib.hid (bt hB0 hb1)
  have HR1 := Lib.hid hr1
  clear hB0 hb1 hr1 hc1 H1
  have p1 := print_ w1 A1 c1 [9223372036854775809, 1] HR1.out aw_w1 (by decide) (tz16_below HT.out HB1.out)
  rw [aw_pr.1] at p1
  have P1 : Hid (Calls Tryz.prog 6 #[.slice A1 2 c1] w1 fun e w' => e = .returned (.tuple #[.string ⟨#[48, 48, 48, 48, 48, 48, 48, 48, 48, 48, 48, 48, 48, 48, 48, 49, 46, 56, 48, 48, 48, 48, 48, 48, 48, 48, 48, 48, 48, 48, 48, 48, 49]⟩, .int .i64 0]) ∧ Below w1.heap.size w1 w') := Lib.hid p1
  clear p1
  go_wp2_with fail
  (with_reducible refine (P1.out).mono ?_); rintro e w2 ⟨rfl, hb2⟩
  have s2 := shift_ w2 A1 c1 [9223372036854775809, 1] (HR1.out.go hb2) aw_w1 (by decide) false
  rw [aw_sh.1, aw_sh.2] at s2
  have S2 : Hid (Calls Tryz.prog 30 #[.slice A1 2 c1, .bool false] w2 (RetSh w2 [2, 3] false 0)) := Lib.hid s2
  have HR2 := Lib.hid (HR1.out.go hb2)
  have HB2 := Lib.hid (bt HB1.out hb2)
  clear s2 P1 hb2
  go_wp2_with fail
  (with_reducible refine (S2.out).mono ?_); rintro e w3 ⟨A3, c3, rfl, hb3, hr3, hc3, hm3⟩
  have HR3 := Lib.hid (HR2.out.go hb3)
  have HB3 := Lib.hid (bt HB2.out hb3)
  have p3 := print_ w3 A3 c3 [2, 3] hr3 aw_w2 (by decide) (tz16_below HT.out HB3.out)
  rw [aw_pr.2] at p3
  have P3 : Hid (Calls Tryz.prog 6 #[.slice A3 2 c3] w3 fun e w' => e = .returned (.tuple #[.string ⟨#[48, 48, 48, 48, 48, 48, 48, 48, 48, 48, 48, 48, 48, 48, 48, 51, 46, 48, 48, 48, 48, 48, 48, 48, 48, 48, 48, 48, 48, 48, 48, 48, 50]⟩, .int .i64 0]) ∧ Below w3.heap.size w3 w') := Lib.hid p3
  clear p3 S2 hb3 hr3 hc3
  go_wp2_with fail
  (with_reducible refine (P3.out).mono ?_); rintro e w4 ⟨rfl, hb4⟩
  have c4 := count_ w4 A1 c1 [9223372036854775809, 1] (HR3.out.go hb4) aw_w1 (by decide)
  rw [aw_cn] at c4
  have C4 : Hid (Calls Tryz.prog 31 #[.slice A1 2 c1] w4 fun e w' => e = .returned (.tuple #[.int .i64 3, .int .i64 0]) ∧ Below w4.heap.size w4 w') := Lib.hid c4
  have HB4 := Lib.hid (bt HB3.out hb4)
  clear c4 P3 hb4
  go_wp2_with fail
  (with_reducible refine (C4.out).mono ?_); rintro e w5 ⟨rfl, hb5⟩
  have hB := bt HB4.out hb5
  clear C4 hb5
  go_wp2
  go_ret
  exact ⟨rfl, hB⟩
end Go.Proofs.YtaogplmcabbikaaGreatDoor
