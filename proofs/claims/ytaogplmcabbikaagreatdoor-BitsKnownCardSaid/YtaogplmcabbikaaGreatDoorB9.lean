/- Rows of bits: And, Or and Not of the program answer as the reference does. -/
import Derived.Test.YtaogplmcabbikaaGreatDoorB8
namespace Go.Proofs.YtaogplmcabbikaaGreatDoor
open Go.RowKit
theorem twoE_self (n : Nat) : twoE n n = chkB n := by
  unfold twoE
  by_cases h : chkB n ≠ 0
  · rw [if_pos h]
  · rw [if_neg h, if_neg h, if_neg (by simp)]; have : chkB n = 0 := by simpa using h
    exact this.symm
theorem both_and {l m : List Nat} (hw : W64 l) (hw' : W64 m) : bothL fAnd l m = andL l m := by
  unfold bothL andL
  by_cases h : twoE l.length m.length = 0
  · rw [if_pos h, if_pos h]
    exact zip_row (g := fun a b => a && b) (twoE_ok h).2 hw hw' (fun x y => fAnd_lt) (fun x y j _ _ _ => by unfold fAnd; rw [Nat.testBit_and])
  · rw [if_neg h, if_neg h]
theorem both_or {l m : List Nat} (hw : W64 l) (hw' : W64 m) : bothL fOr l m = orL l m := by
  unfold bothL orL
  by_cases h : twoE l.length m.length = 0
  · rw [if_pos h, if_pos h]
    exact zip_row (g := fun a b => a || b) (twoE_ok h).2 hw hw' (fun x y => fOr_lt) (fun x y j _ _ _ => by unfold fOr; rw [Nat.testBit_or])
  · rw [if_neg h, if_neg h]
theorem both_not {l : List Nat} (hw : W64 l) : bothL fNot l l = notL l := by
  unfold bothL notL
  rw [twoE_self]
  by_cases h : chkB l.length = 0
  · rw [if_pos h, if_pos h]
    refine zip_row (g := fun a _ => !a) rfl hw hw (fun x y => fNot_lt) (fun x y j _ _ hj => ?_)
    unfold fNot
    rw [Nat.testBit_xor, show (18446744073709551615 : Nat) = 2 ^ 64 - 1 from rfl, Nat.testBit_two_pow_sub_one, decide_eq_true hj]
    cases x.testBit j <;> rfl
  · rw [if_neg h, if_neg h]
theorem and_ (w : World) (A A' : Option Addr) (c c' : Nat) (l m : List Nat) (h : Reads w w.heap.size 1 A l.length (u64s l)) (h' : Reads w w.heap.size 1 A' m.length (u64s m)) (hw : W64 l) (hw' : W64 m) (hl : l.length ≤ 9223372036854775807) (hl' : m.length ≤ 9223372036854775807) :
    Calls Tryz.prog 10 #[.slice A l.length c, .slice A' m.length c'] w (RetSl w 1 (u64s (andL l m)) (andL l m).length (twoE l.length m.length)) := by
  have hb := bothAnd_ w A A' c c' l m h h' hw hw' hl hl'
  rw [both_and hw hw'] at hb
  have Hb := Lib.hid hb
  clear hb h h' hw hw'
  go_enter Tryz.func10, Tryz.ntmps10
  go_wp2_with fail
  (with_reducible refine (Hb.out).mono ?_); rintro e w1 ⟨A1, c1, rfl, hb1, hr1, hc1, hm1⟩
  have H := Lib.hid (And.intro hr1 (And.intro hc1 hm1))
  clear hr1 hc1 hm1
  go_wp2
  go_ret2
  exact ⟨A1, c1, rfl, hb1, H.out.1, H.out.2⟩
end Go.Proofs.YtaogplmcabbikaaGreatDoor
