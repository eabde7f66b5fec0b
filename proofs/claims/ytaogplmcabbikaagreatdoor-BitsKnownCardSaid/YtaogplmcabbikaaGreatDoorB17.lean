/- Rows of bits, plain: Shift and Back undo each other; many Shifts. No condition. -/
import Derived.Test.YtaogplmcabbikaaGreatDoorB9
namespace Go.Proofs.YtaogplmcabbikaaGreatDoor
open Go.RowKit
theorem shL_len (l : List Nat) (v : Bool) (h : chkB l.length = 0) : (shL l v).length = l.length := by unfold shL; rw [if_pos h, rowOf_len]
theorem bkL_len (l : List Nat) (v : Bool) (h : chkB l.length = 0) : (bkL l v).length = l.length := by unfold bkL; rw [if_pos h, rowOf_len]
theorem shL_w (l : List Nat) (v : Bool) : W64 (shL l v) := by
  unfold shL; split
  · exact rowOf_w _ _
  · intro x hx; cases hx
theorem bkL_w (l : List Nat) (v : Bool) : W64 (bkL l v) := by
  unfold bkL; split
  · exact rowOf_w _ _
  · intro x hx; cases hx
theorem shL_bit {l : List Nat} {v : Bool} (h : chkB l.length = 0) {i : Nat} (hi : i < 64 * l.length) : rbit (shL l v) i = if i = 0 then v else rbit l (i - 1) := by
  unfold shL; rw [if_pos h, rowOf_bit hi]
theorem bkL_bit {l : List Nat} {v : Bool} (h : chkB l.length = 0) {i : Nat} (hi : i < 64 * l.length) : rbit (bkL l v) i = if i = 64 * l.length - 1 then v else rbit l (i + 1) := by
  unfold bkL; rw [if_pos h, rowOf_bit hi]
/-- Back of Shift -/
theorem bk_sh {l : List Nat} (hw : W64 l) (h : chkB l.length = 0) (v : Bool) : bkL (shL l v) (shO l) = l ∧ bkO (shL l v) = v := by
  have hn := chkB_ok.1 h
  have h' : chkB (shL l v).length = 0 := by rw [shL_len l v h]; exact h
  constructor
  · refine row_ext (bkL_w _ _) hw (by rw [bkL_len _ _ h', shL_len l v h]) fun i hi => ?_
    rw [bkL_len _ _ h', shL_len l v h] at hi
    rw [bkL_bit h' (by rw [shL_len l v h]; exact hi), shL_len l v h]
    by_cases e : i = 64 * l.length - 1
    · rw [if_pos e]; unfold shO; rw [if_pos h, e]
    · rw [if_neg e, shL_bit h (by omega), if_neg (by omega), Nat.add_sub_cancel]
  · unfold bkO
    rw [if_pos h', shL_bit h (by omega), if_pos rfl]
/-- Shift of Back -/
theorem sh_bk {l : List Nat} (hw : W64 l) (h : chkB l.length = 0) (v : Bool) : shL (bkL l v) (bkO l) = l ∧ shO (bkL l v) = v := by
  have hn := chkB_ok.1 h
  have h' : chkB (bkL l v).length = 0 := by rw [bkL_len l v h]; exact h
  constructor
  · refine row_ext (shL_w _ _) hw (by rw [shL_len _ _ h', bkL_len l v h]) fun i hi => ?_
    rw [shL_len _ _ h', bkL_len l v h] at hi
    rw [shL_bit h' (by rw [bkL_len l v h]; exact hi)]
    by_cases e : i = 0
    · rw [if_pos e]; unfold bkO; rw [if_pos h, e]
    · rw [if_neg e, bkL_bit h (by omega), if_neg (by omega), Nat.sub_add_cancel (by omega)]
  · unfold shO
    rw [if_pos h', bkL_len l v h, bkL_bit h (by omega), if_pos rfl]
/-- the row after k Shifts with the bits of m from its last one on -/
def thruL (l m : List Nat) (k : Nat) : List Nat := rowOf l.length fun j => if j < k then rbit m (64 * l.length - k + j) else rbit l (j - k)
theorem thruL_len (l m : List Nat) (k : Nat) : (thruL l m k).length = l.length := rowOf_len _ _
theorem thruL_w (l m : List Nat) (k : Nat) : W64 (thruL l m k) := rowOf_w _ _
theorem thruL_zero {l : List Nat} (m : List Nat) (hw : W64 l) : thruL l m 0 = l := by
  unfold thruL
  refine (row_eq hw rfl fun i hi => ?_).symm
  rw [if_neg (by omega), Nat.sub_zero]
theorem thruL_step {l m : List Nat} (h : chkB l.length = 0) {k : Nat} (hk : k < 64 * l.length) : shL (thruL l m k) (rbit m (64 * l.length - 1 - k)) = thruL l m (k + 1) ∧ shO (thruL l m k) = rbit l (64 * l.length - 1 - k) := by
  have hn := chkB_ok.1 h
  have h' : chkB (thruL l m k).length = 0 := by rw [thruL_len]; exact h
  constructor
  · refine row_ext (shL_w _ _) (thruL_w _ _ _) (by rw [shL_len _ _ h', thruL_len, thruL_len]) fun i hi => ?_
    rw [shL_len _ _ h', thruL_len] at hi
    rw [shL_bit h' (by rw [thruL_len]; exact hi)]
    unfold thruL
    rw [rowOf_bit hi]
    by_cases e : i = 0
    · subst e
      rw [if_pos rfl, if_pos (by omega)]
      congr 1
      omega
    · rw [if_neg e, rowOf_bit (by omega)]
      by_cases e2 : i - 1 < k
      · rw [if_pos e2, if_pos (by omega)]; congr 1; omega
      · rw [if_neg e2, if_neg (by omega)]; congr 1; omega
  · unfold shO
    rw [if_pos h', thruL_len]
    unfold thruL
    rw [rowOf_bit (by omega), if_neg (by omega)]
theorem thruL_all {l m : List Nat} (hm : W64 m) (hl : m.length = l.length) : thruL l m (64 * l.length) = m := by
  unfold thruL
  refine (row_eq hm hl fun i hi => ?_).symm
  rw [if_pos hi]
  congr 1
  omega
end Go.Proofs.YtaogplmcabbikaaGreatDoor
