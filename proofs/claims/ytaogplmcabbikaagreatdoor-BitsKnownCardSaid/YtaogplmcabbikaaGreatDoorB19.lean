/- Rows of bits, plain: the text of a row: 16 hexadecimal digits a word. No condition. -/
import Derived.Test.YtaogplmcabbikaaGreatDoorB16
import Derived.Lib.Join
namespace Go.Proofs.YtaogplmcabbikaaGreatDoor
open Go.RowKit
def hexD : Nat → Nat → List UInt8
  | 0, _ => []
  | n + 1, x => hexD n (x / 16) ++ [hd (x % 16)]
theorem hexD_len (n x : Nat) : (hexD n x).length = n := by
  induction n generalizing x with
  | zero => rfl
  | succ n ih => rw [hexD, List.length_append, ih]; rfl
theorem hexD_zero (n : Nat) : hexD n 0 = List.replicate n 48 := by
  induction n with
  | zero => rfl
  | succ n ih => rw [hexD, List.replicate_succ', Nat.zero_div, ih]; rfl
theorem hx_app (k u : Nat) (s : List UInt8) : hx k u s = hx k u [] ++ s := by
  induction k generalizing u s with
  | zero => rfl
  | succ k ih =>
    by_cases h : u < 16
    · rw [hx_end h, hx_end h]; rfl
    · rw [hx_step h, hx_step h, ih (u / 16) (hd (u % 16) :: s), ih (u / 16) [hd (u % 16)], List.append_assoc]; rfl
theorem hx_len (k u : Nat) (h : u < 16 ^ (k + 1)) : (hx (k + 1) u []).length ≤ k + 1 := by
  induction k generalizing u with
  | zero => rw [hx_end (by simpa using h)]; simp
  | succ k ih =>
    by_cases h2 : u < 16
    · rw [hx_end h2]; simp
    · rw [hx_step h2, hx_app, List.length_append]
      have := ih (u / 16) (by rw [Nat.pow_succ] at h; omega)
      simp only [List.length_cons, List.length_nil]
      omega
theorem hx_pad (k u : Nat) (h : u < 16 ^ (k + 1)) : List.replicate (k + 1 - (hx (k + 1) u []).length) 48 ++ hx (k + 1) u [] = hexD (k + 1) u := by
  induction k generalizing u with
  | zero =>
    have h16 : u < 16 := by simpa using h
    rw [hx_end h16]
    show List.replicate (0 + 1 - 1) 48 ++ [hd u] = hexD 0 (u / 16) ++ [hd (u % 16)]
    rw [Nat.mod_eq_of_lt h16]
    rfl
  | succ k ih =>
    by_cases h2 : u < 16
    · rw [hx_end h2, hexD, Nat.mod_eq_of_lt h2, Nat.div_eq_of_lt h2, hexD_zero]
      rfl
    · have h3 : u / 16 < 16 ^ (k + 1) := by rw [Nat.pow_succ] at h; omega
      have hl := hx_len k (u / 16) h3
      rw [hx_step h2, hx_app, hexD, ← ih (u / 16) h3, List.length_append]
      simp only [List.length_cons, List.length_nil]
      rw [show k + 1 + 1 - ((hx (k + 1) (u / 16) []).length + (0 + 1)) = k + 1 - (hx (k + 1) (u / 16) []).length by omega]
      rw [List.append_assoc]
theorem hexB_len (x : Nat) (h : x < 18446744073709551616) : (hexB x).length ≤ 16 := hx_len 15 x h
theorem hexB_pad (x : Nat) (h : x < 18446744073709551616) : List.replicate (16 - (hexB x).length) 48 ++ hexB x = hexD 16 x := hx_pad 15 x h
/-- the text of a row: its last word first -/
def prtB (l : List Nat) : List UInt8 := Lib.join (l.reverse.map (hexD 16)) [46]
theorem prtB_len (l : List Nat) : (prtB l).length ≤ 17 * l.length := by
  unfold prtB Lib.join
  have key : ∀ m : List Nat, (([46] : List UInt8).intercalate (m.map (hexD 16))).length ≤ 17 * m.length := by
    intro m
    induction m with
    | nil => simp [List.intercalate]
    | cons x r ih =>
      cases r with
      | nil => simp [List.intercalate, hexD_len]
      | cons y r =>
        simp only [List.intercalate, List.map_cons, List.intersperse, List.flatten_cons, List.length_append, hexD_len] at ih ⊢
        simp only [List.length_cons, List.length_nil] at ih ⊢
        omega
  have := key l.reverse
  rwa [List.length_reverse] at this
end Go.Proofs.YtaogplmcabbikaaGreatDoor
