/- Rows of bits: Print of the reference. -/
import Derived.Test.YtaogplmcabbikaaGreatDoorB22
import Derived.Deep.DeepCutAuto
namespace Go.Proofs.YtaogplmcabbikaaGreatDoor
open Go.RowKit
/-- the text of the words from place m on, the last one first -/
def prtF (l : List Nat) (m : Nat) : List UInt8 := prtB (l.drop m)
theorem join_snoc (xs : List (List UInt8)) (y : List UInt8) : Lib.join (xs ++ [y]) [46] = if xs = [] then y else Lib.join xs [46] ++ ([46] ++ y) := by
  unfold Lib.join
  induction xs with
  | nil => simp [List.intercalate]
  | cons x r ih =>
    rw [if_neg (by simp)]
    cases r with
    | nil => simp [List.intercalate]
    | cons z t =>
      rw [if_neg (by simp)] at ih
      simp only [List.intercalate, List.cons_append, List.intersperse, List.flatten_cons] at ih ⊢
      rw [ih]
      simp
theorem prtF_last (l : List Nat) (m : Nat) (h : l.length ≤ m) : prtF l m = [] := by
  unfold prtF
  rw [List.drop_of_length_le h]
  rfl
theorem prtF_step {l : List Nat} {m : Nat} (h : m < l.length) : prtF l m = (if m + 1 < l.length then prtF l (m + 1) ++ [46] else []) ++ hexD 16 (l.getD m 0) := by
  unfold prtF prtB
  have e : l.drop m = l.getD m 0 :: l.drop (m + 1) := by rw [List.drop_eq_getElem_cons h]; simp [h]
  rw [e, List.reverse_cons, List.map_append, List.map_cons, List.map_nil, join_snoc]
  by_cases h2 : m + 1 < l.length
  · rw [if_pos h2, if_neg (by intro hh; have := congrArg List.length hh; simp at this; omega)]
    simp
  · rw [if_neg h2, if_pos (by rw [List.drop_of_length_le (by omega)]; rfl)]
    rfl
theorem prtF_ne {l : List Nat} {m : Nat} (h : m < l.length) : prtF l m ≠ [] := by
  rw [prtF_step h]
  intro hh
  have := congrArg List.length hh
  rw [List.length_append, hexD_len] at this
  simp at this
theorem prtF_len (l : List Nat) (m : Nat) : (prtF l m).length ≤ 17 * l.length := by
  unfold prtF
  have := prtB_len (l.drop m)
  rw [List.length_drop] at this
  omega
/-- the first digits of a word: those down to digit q -/
def hexHi (x q : Nat) : List UInt8 := hexD (16 - q) (x / 16 ^ q)
theorem hexHi_start (x : Nat) : hexHi x 16 = [] := rfl
theorem hexHi_step (x q : Nat) (hq : q < 16) : hexHi x q = hexHi x (q + 1) ++ [hd (x / 16 ^ q % 16)] := by
  unfold hexHi
  rw [show 16 - q = 16 - (q + 1) + 1 by omega, hexD, Nat.div_div_eq_div_mul, Nat.pow_succ]
theorem hexHi_end (x : Nat) : hexHi x 0 = hexD 16 x := by unfold hexHi; rw [Nat.pow_zero, Nat.div_one]
theorem hexHi_len (x q : Nat) : (hexHi x q).length ≤ 16 := by unfold hexHi; rw [hexD_len]; omega
def hex16 : ByteArray := ⟨#[48, 49, 50, 51, 52, 53, 54, 55, 56, 57, 97, 98, 99, 100, 101, 102]⟩
theorem hex16_fin : ∀ d : Fin 16, hex16.data[d.val]? = some (hd d.val) := by decide +kernel
theorem hex16_get (i : Nat) (hi : i < 16) (h : i < hex16.size) : hex16[i]'h = hd i := by
  have h2 : hex16.data[i]? = some (hd i) := hex16_fin ⟨i, hi⟩
  rw [Array.getElem?_eq_getElem (show i < hex16.data.size from h)] at h2
  injection h2
theorem pow_16 (q : Nat) : (2 : Nat) ^ (4 * q) = 16 ^ q := by rw [Nat.pow_mul]
abbrev sB (l : List UInt8) : ByteArray := ⟨l.toArray⟩
theorem sB_app (a b : List UInt8) : sB a ++ sB b = sB (a ++ b) := by
  apply ByteArray.ext
  rw [ByteArray.data_append]
  simp
end Go.Proofs.YtaogplmcabbikaaGreatDoor
