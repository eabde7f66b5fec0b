/- Rows of bits, in plain words: words of 64 bits, bits of a row, a row out of its bits. No condition. -/
import Derived.Test.YtaogplmcabbikaaGreatDoorOwn
namespace Go.Proofs.YtaogplmcabbikaaGreatDoor
/-- n bits as a number -/
def nb : Nat → (Nat → Bool) → Nat
  | 0, _ => 0
  | n + 1, f => (if f n then 2 ^ n else 0) + nb n f
theorem nb_lt (n : Nat) (f : Nat → Bool) : nb n f < 2 ^ n := by
  induction n with
  | zero => simp [nb]
  | succ n ih => rw [nb, Nat.pow_succ]; split <;> omega
theorem nb_bit (n : Nat) (f : Nat → Bool) (j : Nat) : (nb n f).testBit j = (decide (j < n) && f j) := by
  induction n with
  | zero => simp [nb]
  | succ n ih =>
    rw [nb]
    have hlt := nb_lt n f
    by_cases hf : f n = true
    · rw [if_pos hf]
      rcases Nat.lt_trichotomy j n with h | h | h
      · rw [Nat.testBit_two_pow_add_gt h, ih]
        simp [h, Nat.lt_succ_of_lt h]
      · subst h
        rw [Nat.testBit_two_pow_add_eq, Nat.testBit_lt_two_pow hlt]
        simp [hf]
      · rw [Nat.testBit_lt_two_pow (Nat.lt_of_lt_of_le (show 2 ^ n + nb n f < 2 ^ (n + 1) by rw [Nat.pow_succ]; omega) (Nat.pow_le_pow_right (by omega) h))]
        simp; omega
    · rw [if_neg hf, Nat.zero_add, ih]
      have hf : f n = false := by simpa using hf
      rcases Nat.lt_trichotomy j n with h | h | h
      · simp [h, Nat.lt_succ_of_lt h]
      · subst h; simp [hf]
      · simp [show ¬ j < n by omega, show ¬ j < n + 1 by omega]
/-- words of 64 bits -/
abbrev W64 (l : List Nat) : Prop := ∀ x ∈ l, x < 18446744073709551616
def rbit (l : List Nat) (i : Nat) : Bool := (l.getD (i / 64) 0).testBit (i % 64)
/-- the row of n words with such bits -/
def rowOf (n : Nat) (f : Nat → Bool) : List Nat := (List.range n).map fun i => nb 64 fun j => f (64 * i + j)
theorem rowOf_len (n : Nat) (f : Nat → Bool) : (rowOf n f).length = n := by simp [rowOf]
theorem rowOf_get {n : Nat} {f : Nat → Bool} {i : Nat} (h : i < n) : (rowOf n f).getD i 0 = nb 64 fun j => f (64 * i + j) := by
  simp [rowOf, h]
theorem rowOf_w (n : Nat) (f : Nat → Bool) : W64 (rowOf n f) := by
  intro x hx
  obtain ⟨i, _, rfl⟩ := List.mem_map.1 hx
  exact nb_lt 64 _
theorem rowOf_bit {n : Nat} {f : Nat → Bool} {i : Nat} (h : i < 64 * n) : rbit (rowOf n f) i = f i := by
  unfold rbit
  rw [rowOf_get (by omega), nb_bit, decide_eq_true (by omega)]
  rw [Bool.true_and, show 64 * (i / 64) + i % 64 = i by omega]
theorem word_ext {x y : Nat} (hx : x < 18446744073709551616) (hy : y < 18446744073709551616) (h : ∀ j, j < 64 → x.testBit j = y.testBit j) : x = y := by
  refine Nat.eq_of_testBit_eq fun j => ?_
  by_cases hj : j < 64
  · exact h j hj
  · have hp : (2 : Nat) ^ 64 ≤ 2 ^ j := Nat.pow_le_pow_right (by omega) (by omega)
    rw [Nat.testBit_lt_two_pow (Nat.lt_of_lt_of_le hx hp), Nat.testBit_lt_two_pow (Nat.lt_of_lt_of_le hy hp)]
theorem row_ext {l m : List Nat} (hl : W64 l) (hm : W64 m) (hn : l.length = m.length) (h : ∀ i, i < 64 * l.length → rbit l i = rbit m i) : l = m := by
  refine List.ext_getElem hn fun i h1 h2 => word_ext (hl _ (List.getElem_mem h1)) (hm _ (List.getElem_mem h2)) fun j hj => ?_
  have := h (64 * i + j) (by omega)
  unfold rbit at this
  rw [show (64 * i + j) / 64 = i by omega, show (64 * i + j) % 64 = j by omega] at this
  simpa [h1, h2] using this
theorem row_eq {l : List Nat} {n : Nat} {f : Nat → Bool} (hl : W64 l) (hn : l.length = n) (h : ∀ i, i < 64 * n → rbit l i = f i) : l = rowOf n f := by
  subst hn
  exact row_ext hl (rowOf_w _ _) (rowOf_len _ _).symm fun i hi => by rw [h i hi, rowOf_bit hi]
theorem rowOf_congr {n : Nat} {f g : Nat → Bool} (h : ∀ i, i < 64 * n → f i = g i) : rowOf n f = rowOf n g :=
  row_eq (rowOf_w _ _) (rowOf_len _ _) fun i hi => by rw [rowOf_bit hi, h i hi]
theorem row_self {l : List Nat} (hl : W64 l) : l = rowOf l.length (rbit l) := row_eq hl rfl fun _ _ => rfl
/-! one bit turned -/
def setB (l : List Nat) (i : Nat) (v : Bool) : List Nat := if rbit l i = v then l else l.set (i / 64) (l.getD (i / 64) 0 ^^^ 2 ^ (i % 64))
theorem setB_len (l : List Nat) (i : Nat) (v : Bool) : (setB l i v).length = l.length := by unfold setB; split <;> simp
theorem setB_w {l : List Nat} (hl : W64 l) (i : Nat) (v : Bool) (hi : i < 64 * l.length) : W64 (setB l i v) := by
  unfold setB
  split
  · exact hl
  · intro x hx
    rcases List.mem_or_eq_of_mem_set hx with hx | hx
    · exact hl x hx
    · subst hx
      have h1 : l.getD (i / 64) 0 < 2 ^ 64 := by
        have : i / 64 < l.length := by omega
        simp only [List.getD_eq_getElem?_getD, List.getElem?_eq_getElem this]
        exact hl _ (List.getElem_mem this)
      exact Nat.xor_lt_two_pow h1 (Nat.pow_lt_pow_right (by omega) (by omega))
theorem setB_bit {l : List Nat} {i : Nat} {v : Bool} (hi : i < 64 * l.length) (j : Nat) : rbit (setB l i v) j = if j = i then v else rbit l j := by
  unfold setB
  by_cases h : rbit l i = v
  · rw [if_pos h]
    by_cases e : j = i
    · rw [if_pos e, e, h]
    · rw [if_neg e]
  · rw [if_neg h]
    unfold rbit at h ⊢
    have hlt : i / 64 < l.length := by omega
    by_cases e : j / 64 = i / 64
    · rw [e, List.getD_eq_getElem?_getD, List.getElem?_set_self hlt, Option.getD_some, Nat.testBit_xor, Nat.testBit_two_pow]
      by_cases e2 : j = i
      · subst e2
        rw [if_pos rfl, decide_eq_true rfl]
        cases hb : (l.getD (j / 64) 0).testBit (j % 64) <;> cases v <;> simp_all
      · rw [if_neg e2, decide_eq_false (by omega), Bool.xor_false]
    · rw [if_neg (fun h => e (by rw [h])), List.getD_eq_getElem?_getD, List.getElem?_set_ne (by omega), ← List.getD_eq_getElem?_getD]
end Go.Proofs.YtaogplmcabbikaaGreatDoor
