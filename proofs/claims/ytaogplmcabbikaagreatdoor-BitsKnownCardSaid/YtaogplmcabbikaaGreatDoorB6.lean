/- Rows of bits: Get of the program and of the reference. -/
import Derived.Test.YtaogplmcabbikaaGreatDoorB5
namespace Go.Proofs.YtaogplmcabbikaaGreatDoor
open Go.RowKit
def getE (n : Nat) (i : Int) : Int := if chkB n ≠ 0 then chkB n else if i < 0 ∨ 64 * (n : Int) ≤ i then 7 else 0
def getV (l : List Nat) (i : Int) : Bool := if getE l.length i = 0 then rbit l i.toNat else false
theorem and63 (i : Nat) (hi : i < 1000) : bits .and .i64 (i : Int) 63 = ((i % 64 : Nat) : Int) := by
  have hx : i &&& 63 = i % 64 := Nat.and_two_pow_sub_one_eq_mod i 6
  show IntKind.i64.wrap ((BitVec.ofInt 64 (i : Int) &&& BitVec.ofInt 64 ((63 : Nat) : Int)).toNat : Int) = _
  rw [BitVec.toNat_and, ofInt_u64 i (by omega), ofInt_u64 63 (by omega), hx]
  exact IntWalk.i64_in _ (by omega)
theorem and_pow (x n : Nat) : x &&& 2 ^ n = if x.testBit n then 2 ^ n else 0 := by
  refine Nat.eq_of_testBit_eq fun j => ?_
  rw [Nat.testBit_and, Nat.testBit_two_pow]
  by_cases h : n = j
  · subst h
    cases hb : x.testBit n <;> simp
  · rw [decide_eq_false h, Bool.and_false]
    split
    · rw [Nat.testBit_two_pow, decide_eq_false h]
    · simp
theorem wrap_pow (n : Nat) (hn : n < 64) : IntKind.u64.wrap (2 ^ n) = ((2 ^ n : Nat) : Int) := by
  have hp : (2 : Nat) ^ n < 18446744073709551616 := Nat.lt_of_lt_of_le (Nat.pow_lt_pow_right (by omega) hn) (by decide)
  rw [show ((2 : Int) ^ n) = ((2 ^ n : Nat) : Int) by simp]
  exact wrap_u64 _ hp
theorem bit_test2 (x n : Nat) (hx : x < 18446744073709551616) (hn : n < 64) : (bits .and .u64 (x : Int) (IntKind.u64.wrap (2 ^ n)) != 0) = x.testBit n := by
  have hp : (2 : Nat) ^ n < 18446744073709551616 := Nat.lt_of_lt_of_le (Nat.pow_lt_pow_right (by omega) hn) (by decide)
  rw [wrap_pow n hn, u64_and_nat x (2 ^ n) hx hp, and_pow]
  have hpos : 2 ^ n ≠ 0 := by have := Nat.pow_pos (n := n) (show 0 < 2 by omega); omega
  cases x.testBit n
  · rfl
  · rw [if_pos rfl, bne_iff_ne]
    omega
set_option maxRecDepth 100000 in
set_option maxHeartbeats 2000000 in
theorem pget_ (w : World) (A : Option Addr) (c : Nat) (l : List Nat) (h : Reads w w.heap.size 1 A l.length (u64s l)) (hw : W64 l) (hl : l.length ≤ 9223372036854775807) (i : Int) (hi : -9223372036854775808 ≤ i ∧ i ≤ 9223372036854775807) :
    Calls Tryz.prog 7 #[.slice A l.length c, .int .i64 i] w fun e w' => e = .returned (.tuple #[.bool (getV l i), .int .i64 (getE l.length i)]) ∧ Below w.heap.size w w' := by
  obtain ⟨x, hx⟩ : ∃ x, x = chkB l.length := ⟨_, rfl⟩
  have Hx := Lib.hid hx
  by_cases h0 : x = 0
  · subst h0
    obtain ⟨h1, h8⟩ := chkB_ok.1 hx.symm
    by_cases hr : i < 0 ∨ 64 * (l.length : Int) ≤ i
    · have HE := Lib.hid (show getE l.length i = 7 by unfold getE; rw [← hx, if_neg (by decide), if_pos hr])
      have HV := Lib.hid (show getV l i = false by unfold getV; rw [HE.out]; rfl)
      clear hx h
      rcases hr with hr | hr
      all_goals
        go_enter Tryz.func7, Tryz.ntmps7
        go_wp2_with fail
        (with_reducible refine (check_ _ A c l.length hl 0 Hx).mono ?_); rintro e w' ⟨rfl, rfl⟩
        go_wp2
        go_ret2
        rw [HE.out, HV.out]
        exact ⟨rfl, Below.refl _ _⟩
    · have HE := Lib.hid (show getE l.length i = 0 by unfold getE; rw [← hx, if_neg (by decide), if_neg hr])
      obtain ⟨k, rfl⟩ : ∃ k : Nat, i = k := ⟨i.toNat, by omega⟩
      have HV := Lib.hid (show getV l k = (l.getD (k / 64) 0).testBit (k % 64) by unfold getV; rw [HE.out, if_pos rfl]; rfl)
      obtain ⟨b, off, rfl, hb, hc⟩ := u64At h (k := k / 64) (by omega)
      have hX := wget hw (k / 64)
      have h63 := and63 k (by omega)
      have hbt := bit_test2 (l.getD (k / 64) 0) (k % 64) hX (by omega)
      generalize l.getD (k / 64) 0 = X at *
      have hq : ((k : Int) / 64).toNat = k / 64 := by omega
      have hq0 : (0 : Int) ≤ (k : Int) / 64 := by omega
      have hq1 : (k : Int) / 64 < (l.length : Int) := by omega
      clear hx h hw hr
      go_enter Tryz.func7, Tryz.ntmps7
      go_wp2_with fail
      (with_reducible refine (check_ _ _ c l.length hl 0 Hx).mono ?_); rintro e w' ⟨rfl, rfl⟩
      go_wp2
      go_quiet (fail)
      go_wp2
      go_ret2
      rw [HE.out, HV.out]
      exact ⟨rfl, drewN_below _ _⟩
  · have HE := Lib.hid (show getE l.length i = x by unfold getE; rw [← hx, if_pos h0])
    have HV := Lib.hid (show getV l i = false by unfold getV; rw [HE.out, if_neg h0])
    have e1 : (x != 0) = true := by simpa using h0
    clear hx h0 h
    go_enter Tryz.func7, Tryz.ntmps7
    go_wp2_with fail
    (with_reducible refine (check_ _ A c l.length hl x Hx).mono ?_); rintro e w' ⟨rfl, rfl⟩
    go_wp2
    go_ret2
    rw [HE.out, HV.out]
    exact ⟨rfl, Below.refl _ _⟩
end Go.Proofs.YtaogplmcabbikaaGreatDoor
