/- Rows of bits, plain: And, Or and Not go through Shift and Back; Not of And; bits in common. No condition. -/
import Derived.Test.YtaogplmcabbikaaGreatDoorB17
namespace Go.Proofs.YtaogplmcabbikaaGreatDoor
open Go.RowKit
/-- two rows put together bit by bit -/
def zipB (g : Bool → Bool → Bool) (l m : List Nat) : List Nat := rowOf l.length fun i => g (rbit l i) (rbit m i)
theorem zipB_len (g : Bool → Bool → Bool) (l m : List Nat) : (zipB g l m).length = l.length := rowOf_len _ _
theorem zipB_w (g : Bool → Bool → Bool) (l m : List Nat) : W64 (zipB g l m) := rowOf_w _ _
theorem zipB_bit {g : Bool → Bool → Bool} {l m : List Nat} {i : Nat} (hi : i < 64 * l.length) : rbit (zipB g l m) i = g (rbit l i) (rbit m i) := rowOf_bit hi
theorem twoE_eq {n m : Nat} (h : chkB n = 0) (hl : n = m) : twoE n m = 0 := by
  subst hl
  unfold twoE
  rw [if_neg (by rw [h]; decide), if_neg (by rw [h]; decide), if_neg (by simp)]
theorem andL_zip {l m : List Nat} (h : chkB l.length = 0) (hl : l.length = m.length) : andL l m = zipB and l m := if_pos (twoE_eq h hl)
theorem orL_zip {l m : List Nat} (h : chkB l.length = 0) (hl : l.length = m.length) : orL l m = zipB or l m := if_pos (twoE_eq h hl)
theorem notL_zip {l : List Nat} (h : chkB l.length = 0) : notL l = zipB (fun a _ => !a) l l := if_pos h
theorem sh_zip (g : Bool → Bool → Bool) {l m : List Nat} (h : chkB l.length = 0) (hl : l.length = m.length) (x y : Bool) : shL (zipB g l m) (g x y) = zipB g (shL l x) (shL m y) ∧ shO (zipB g l m) = g (shO l) (shO m) := by
  have hn := chkB_ok.1 h
  have h' : chkB (zipB g l m).length = 0 := by rw [zipB_len]; exact h
  have hm : chkB m.length = 0 := by rw [← hl]; exact h
  constructor
  · refine row_ext (shL_w _ _) (zipB_w _ _ _) (by rw [shL_len _ _ h', zipB_len, zipB_len, shL_len l x h]) fun i hi => ?_
    rw [shL_len _ _ h', zipB_len] at hi
    rw [shL_bit h' (by rw [zipB_len]; exact hi), zipB_bit (l := shL l x) (m := shL m y) (by rw [shL_len l x h]; exact hi), shL_bit h hi, shL_bit hm (by omega)]
    by_cases e : i = 0
    · rw [if_pos e, if_pos e, if_pos e]
    · rw [if_neg e, if_neg e, if_neg e, zipB_bit (by omega)]
  · unfold shO
    rw [if_pos h', if_pos h, if_pos hm, zipB_len, zipB_bit (by omega), hl]
theorem bk_zip (g : Bool → Bool → Bool) {l m : List Nat} (h : chkB l.length = 0) (hl : l.length = m.length) (x y : Bool) : bkL (zipB g l m) (g x y) = zipB g (bkL l x) (bkL m y) ∧ bkO (zipB g l m) = g (bkO l) (bkO m) := by
  have hn := chkB_ok.1 h
  have h' : chkB (zipB g l m).length = 0 := by rw [zipB_len]; exact h
  have hm : chkB m.length = 0 := by rw [← hl]; exact h
  constructor
  · refine row_ext (bkL_w _ _) (zipB_w _ _ _) (by rw [bkL_len _ _ h', zipB_len, zipB_len, bkL_len l x h]) fun i hi => ?_
    rw [bkL_len _ _ h', zipB_len] at hi
    rw [bkL_bit h' (by rw [zipB_len]; exact hi), zipB_bit (l := bkL l x) (m := bkL m y) (by rw [bkL_len l x h]; exact hi), bkL_bit h hi, bkL_bit hm (by omega), zipB_len, ← hl]
    by_cases e : i = 64 * l.length - 1
    · rw [if_pos e, if_pos e, if_pos e]
    · rw [if_neg e, if_neg e, if_neg e, zipB_bit (by omega)]
  · unfold bkO
    rw [if_pos h', if_pos h, if_pos hm, zipB_bit (by omega)]
theorem not_and {l m : List Nat} (h : chkB l.length = 0) (hl : l.length = m.length) : notL (andL l m) = orL (notL l) (notL m) := by
  have hm : chkB m.length = 0 := by rw [← hl]; exact h
  rw [andL_zip h hl, notL_zip (l := zipB and l m) (by rw [zipB_len]; exact h), notL_zip h, notL_zip hm, orL_zip (by rw [zipB_len]; exact h) (by rw [zipB_len, zipB_len]; exact hl)]
  refine row_ext (zipB_w _ _ _) (zipB_w _ _ _) (by rw [zipB_len, zipB_len, zipB_len, zipB_len]) fun i hi => ?_
  rw [zipB_len, zipB_len] at hi
  rw [zipB_bit (by rw [zipB_len]; exact hi), zipB_bit hi, zipB_bit (by rw [zipB_len]; exact hi), zipB_bit hi, zipB_bit (by omega)]
  cases rbit l i <;> cases rbit m i <;> rfl
theorem and_not {l : List Nat} (h : chkB l.length = 0) : andL l (notL l) = rowOf l.length fun _ => false := by
  rw [notL_zip h, andL_zip h (by rw [zipB_len])]
  refine row_eq (zipB_w _ _ _) (zipB_len _ _ _) fun i hi => ?_
  rw [zipB_bit hi, zipB_bit hi]
  cases rbit l i <;> rfl
theorem or_not {l : List Nat} (h : chkB l.length = 0) : orL l (notL l) = rowOf l.length fun _ => true := by
  rw [notL_zip h, orL_zip h (by rw [zipB_len])]
  refine row_eq (zipB_w _ _ _) (zipB_len _ _ _) fun i hi => ?_
  rw [zipB_bit hi, zipB_bit hi]
  cases rbit l i <;> rfl
end Go.Proofs.YtaogplmcabbikaaGreatDoor
