/- words: plain words of fields, of a line's fields, of decimal forms. No condition. -/
import Derived.Test.YtaainkjgnljihaaGreatDoorQ1
namespace Go.Proofs.YtaainkjgnljihaaGreatDoor
open Go.RowKit
/-- a field: its bytes, and whether it is quoted -/
abbrev Fd := List UInt8 × Bool
def bareC (c : UInt8) : Bool := plainB c && !(c == 32)
def bareL (l : List UInt8) : Bool := l.all bareC && !l.isEmpty
def upTo (l : List UInt8) : List UInt8 := l.takeWhile fun c => !(c == 32)
/-- the field at the beginning, and how many bytes it takes -/
def headF (l : List UInt8) : Option (Fd × Nat) :=
  if (unquoteL l).2 ≠ 0 then some (((unquoteL l).1, true), (unquoteL l).2) else
  if bareL (upTo l) = true then some ((upTo l, false), (upTo l).length) else none
/-- what the iterator hands out: fields, and an end that is a fault or not -/
def seqF : Nat → List UInt8 → List Fd × Bool
  | 0, _ => ([], false)
  | n + 1, l => match headF l with
    | none => ([], false)
    | some (f, k) => match l.drop k with
      | [] => ([f], true)
      | x :: r => if x = 32 then (f :: (seqF n r).1, (seqF n r).2) else ([], false)
def seqL (l : List UInt8) : List Fd × Bool := seqF (l.length + 1) l
theorem upTo_le (l : List UInt8) : (upTo l).length ≤ l.length := (show upTo l <+: l from List.takeWhile_prefix _).length_le
theorem upTo_pre (l : List UInt8) : l = upTo l ++ l.drop (upTo l).length := by
  have h : upTo l <+: l := List.takeWhile_prefix _
  obtain ⟨t, ht⟩ := h
  conv => lhs; rw [← ht]
  rw [show l.drop (upTo l).length = (upTo l ++ t).drop (upTo l).length by rw [ht], List.drop_left]
theorem unqL_le (l : List UInt8) : (unquoteL l).2 ≤ l.length := by
  match l with
  | [] => simp [unquoteL]
  | x :: r =>
    unfold unquoteL
    simp only
    by_cases hx : x = 34
    · rw [if_pos hx]
      rcases hq : unq (r.length + 1) r with _ | ⟨b, k⟩
      · simp
      · obtain ⟨h1, h2⟩ := unq_form hq
        have := congrArg List.length h1
        simp only [List.length_append, List.length_cons] at this ⊢
        omega
    · rw [if_neg hx]; simp
theorem bareL_pos {l : List UInt8} (h : bareL l = true) : 0 < l.length := by
  cases l with
  | nil => simp [bareL] at h
  | cons x r => simp
theorem headF_pos {l : List UInt8} {f : Fd} {k : Nat} (h : headF l = some (f, k)) : 0 < k ∧ k ≤ l.length := by
  unfold headF at h
  split at h
  · rename_i hq
    injection h with h; injection h with _ h; subst h
    exact ⟨Nat.pos_of_ne_zero hq, unqL_le l⟩
  · split at h
    · rename_i hb
      injection h with h; injection h with _ h; subst h
      exact ⟨bareL_pos hb, upTo_le l⟩
    · cases h
theorem seqF_fuel : ∀ (n k : Nat) (l : List UInt8), l.length < n → l.length < k → seqF n l = seqF k l := by
  intro n
  induction n with
  | zero => intro k l h; omega
  | succ n ih =>
    intro k l h h2
    obtain ⟨k, rfl⟩ : ∃ k', k = k' + 1 := ⟨k - 1, by omega⟩
    unfold seqF
    rcases hh : headF l with _ | ⟨f, j⟩
    · rfl
    · have hp := headF_pos hh
      simp only
      rcases hd : l.drop j with _ | ⟨x, r⟩
      · rfl
      · have hl := congrArg List.length hd
        simp at hl
        simp only
        rw [ih k r (by omega) (by omega)]
theorem seqL_none {l : List UInt8} (h : headF l = none) : seqL l = ([], false) := by unfold seqL seqF; rw [h]
theorem seqL_end {l : List UInt8} {f : Fd} {k : Nat} (h : headF l = some (f, k)) (hk : l.length ≤ k) : seqL l = ([f], true) := by
  unfold seqL seqF; rw [h]; simp only; rw [List.drop_eq_nil_of_le hk]
theorem seqL_more {l r : List UInt8} {f : Fd} {k : Nat} (h : headF l = some (f, k)) (hd : l.drop k = 32 :: r) : seqL l = (f :: (seqL r).1, (seqL r).2) := by
  unfold seqL; rw [seqF, h]; simp only; rw [hd]; simp only
  have hl := congrArg List.length hd
  simp at hl
  rw [if_pos trivial, seqF_fuel l.length (r.length + 1) r (by omega) (by omega)]
theorem seqL_stop {l r : List UInt8} {f : Fd} {k : Nat} {x : UInt8} (h : headF l = some (f, k)) (hd : l.drop k = x :: r) (hx : x ≠ 32) : seqL l = ([], false) := by
  unfold seqL; rw [seqF, h]; simp only; rw [hd]; simp only; rw [if_neg hx]
/-- what Split returns: the fields, the error -/
def splitL (l : List UInt8) : List Fd × Int :=
  if 8192 < l.length then ([], 3) else if l = [] then ([], 0) else if (seqL l).2 = false then ([], 6) else
  if (seqL l).1.any (fun f => decide (2000 < f.1.length)) = true ∨ 64 < (seqL l).1.length then ([], 3) else ((seqL l).1, 0)
/-- names -/
def lowB (c : UInt8) : Bool := decide (97 ≤ c.toNat ∧ c.toNat ≤ 122)
def digB (c : UInt8) : Bool := decide (48 ≤ c.toNat ∧ c.toNat ≤ 57)
def nameC (c : UInt8) : Bool := lowB c || digB c || c == 45
def nameL (l : List UInt8) : Bool := decide (l.length ≤ 16) && (match l with | [] => false | x :: _ => lowB x) && l.all nameC
/-- decimal forms -/
def digsL (l : List UInt8) : Bool := l.all digB && (match l with | [] => false | [_] => true | x :: _ => !(x == 48))
def decL (l : List UInt8) : Bool := match l with
  | 45 :: x :: r => digsL (x :: r) && !(x == 48)
  | l => digsL l
def natL (l : List UInt8) : Nat := l.foldl (fun n c => 10 * n + (c.toNat - 48)) 0
def intL (l : List UInt8) : Int := match l with
  | 45 :: r => -(natL r : Int)
  | l => natL l
/-- what Int returns -/
def intR (l : List UInt8) (low high : Int) : Int × Int :=
  if decL l = false then (0, 6) else if intL l < -9223372036854775808 ∨ 9223372036854775807 < intL l ∨ intL l < low ∨ high < intL l then (0, 7) else (intL l, 0)
end Go.Proofs.YtaainkjgnljihaaGreatDoor
