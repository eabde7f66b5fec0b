/- Rows of bits: the lowest bit of a word, and the word without it; TrailingZeros64. -/
import Derived.Test.YtaogplmcabbikaaGreatDoorB26
namespace Go.Proofs.YtaogplmcabbikaaGreatDoor
open Go.RowKit
theorem low_split {x : Nat} (hx0 : x ≠ 0) (hx : x < 18446744073709551616) : ∃ m, Lib.ctz 64 x < 64 ∧ x = 2 ^ (Lib.ctz 64 x + 1) * m + 2 ^ Lib.ctz 64 x := by
  obtain ⟨m, hm, hk⟩ := Lib.ctzFrom_spec 64 x (by omega) hx
  have e : Lib.ctz 64 x = Lib.ctzFrom 64 x := by simp [Lib.ctz, hx0]
  rw [e]
  refine ⟨m, hk, ?_⟩
  conv => lhs; rw [hm]
  rw [Nat.mul_add, Nat.mul_one, Nat.pow_succ, Nat.mul_assoc]
theorem bit_low {m t : Nat} (j : Nat) : (2 ^ (t + 1) * m + 2 ^ t).testBit j = if j < t + 1 then decide (t = j) else m.testBit (j - (t + 1)) := by
  rw [Nat.testBit_two_pow_mul_add _ (Nat.pow_lt_pow_right (by omega) (by omega)), Nat.testBit_two_pow]
theorem bit_pred {m t : Nat} (j : Nat) : (2 ^ (t + 1) * m + 2 ^ t - 1).testBit j = if j < t + 1 then decide (j < t) else m.testBit (j - (t + 1)) := by
  have hp : 0 < 2 ^ t := Nat.pow_pos (by omega)
  rw [show 2 ^ (t + 1) * m + 2 ^ t - 1 = 2 ^ (t + 1) * m + (2 ^ t - 1) by omega, Nat.testBit_two_pow_mul_add _ (by rw [Nat.pow_succ]; omega), Nat.testBit_two_pow_sub_one]
/-- the word without its lowest bit -/
theorem and_pred {x : Nat} (hx0 : x ≠ 0) (hx : x < 18446744073709551616) (j : Nat) : (x &&& (x - 1)).testBit j = (x.testBit j && decide (j ≠ Lib.ctz 64 x)) := by
  obtain ⟨m, ht, e⟩ := low_split hx0 hx
  generalize Lib.ctz 64 x = t at *
  subst e
  rw [Nat.testBit_and, bit_low, bit_pred]
  by_cases h : j < t + 1
  · rw [if_pos h, if_pos h]
    by_cases e : t = j
    · subst e; simp
    · simp [e]
  · rw [if_neg h, if_neg h]
    have : decide (j ≠ t) = true := by simp; omega
    rw [this]
    simp
theorem low_bit {x : Nat} (hx0 : x ≠ 0) (hx : x < 18446744073709551616) : x.testBit (Lib.ctz 64 x) = true ∧ ∀ j, j < Lib.ctz 64 x → x.testBit j = false := by
  obtain ⟨m, ht, e⟩ := low_split hx0 hx
  generalize Lib.ctz 64 x = t at *
  subst e
  refine ⟨?_, fun j hj => ?_⟩
  · rw [bit_low, if_pos (by omega)]; simp
  · rw [bit_low, if_pos (by omega)]; simp; omega
theorem and_pred_lt {x : Nat} (hx0 : x ≠ 0) : x &&& (x - 1) < x := Nat.lt_of_le_of_lt Nat.and_le_right (by omega)
/-- y is X without the bits below r -/
structure CutAt (y r X : Nat) : Prop where
  lt : y < 18446744073709551616
  bit : ∀ j, y.testBit j = (X.testBit j && decide (r ≤ j))
theorem CutAt.start {X : Nat} (hX : X < 18446744073709551616) : CutAt X 0 X := ⟨hX, fun j => by simp⟩
def onN (l : List Nat) (p : Nat) : List Nat := (List.range p).filter (rbit l)
theorem onN_int (l : List Nat) (p : Nat) : (onN l p).map Int.ofNat = onesTo l p := rfl
theorem onN_skip {l : List Nat} {p q : Nat} (hpq : p ≤ q) (h : ∀ i, p ≤ i → i < q → rbit l i = false) : onN l q = onN l p := by
  obtain ⟨d, rfl⟩ : ∃ d, q = p + d := ⟨q - p, by omega⟩
  clear hpq
  induction d with
  | zero => rfl
  | succ d ih =>
    unfold onN at ih ⊢
    rw [← Nat.add_assoc, List.range_succ, List.filter_append, ih fun i h1 h2 => h i h1 (by omega)]
    simp [h (p + d) (by omega) (by omega)]
theorem onN_yes {l : List Nat} {k : Nat} (h : rbit l k = true) : onN l (k + 1) = onN l k ++ [k] := by
  unfold onN
  rw [List.range_succ, List.filter_append]
  simp [h]
theorem onN_le (l : List Nat) (p : Nat) : (onN l p).length ≤ p := by
  have := onesTo_le l p
  rw [← onN_int, List.length_map] at this
  exact this
theorem rbit_word (l : List Nat) (k j : Nat) (hj : j < 64) : rbit l (64 * k + j) = (l.getD k 0).testBit j := by
  unfold rbit
  rw [show (64 * k + j) / 64 = k by omega, show (64 * k + j) % 64 = j by omega]
/-- one bit comes -/
theorem CutAt.step {l : List Nat} {k r y : Nat} (h : CutAt y r (l.getD k 0)) (hy : y ≠ 0) : Lib.ctz 64 y < 64 ∧ r ≤ Lib.ctz 64 y ∧ onN l (64 * k + (Lib.ctz 64 y + 1)) = onN l (64 * k + r) ++ [64 * k + Lib.ctz 64 y] ∧ CutAt (y &&& (y - 1)) (Lib.ctz 64 y + 1) (l.getD k 0) := by
  obtain ⟨m, ht, _⟩ := low_split hy h.lt
  obtain ⟨b1, b2⟩ := low_bit hy h.lt
  have b1' := h.bit (Lib.ctz 64 y)
  rw [b1] at b1'
  have hb := (Bool.and_eq_true _ _).mp b1'.symm
  have hr : r ≤ Lib.ctz 64 y := by simpa using hb.2
  refine ⟨ht, hr, ?_, Nat.lt_of_le_of_lt Nat.and_le_left h.lt, fun j => ?_⟩
  · rw [← Nat.add_assoc, onN_yes (by rw [rbit_word _ _ _ ht]; exact hb.1)]
    rw [onN_skip (p := 64 * k + r) (by omega)]
    intro i h1 h2
    obtain ⟨j, rfl⟩ : ∃ j, i = 64 * k + j := ⟨i - 64 * k, by omega⟩
    rw [rbit_word _ _ _ (by omega)]
    have := h.bit j
    rw [b2 j (by omega), decide_eq_true (show r ≤ j by omega), Bool.and_true] at this
    exact this.symm
  · rw [and_pred hy h.lt, h.bit j]
    by_cases hj : j < Lib.ctz 64 y + 1
    · have hn : decide (Lib.ctz 64 y + 1 ≤ j) = false := by simp; omega
      rw [hn, Bool.and_false]
      by_cases e : j = Lib.ctz 64 y
      · subst e; simp
      · have h2 := h.bit j
        rw [b2 j (by omega)] at h2
        rw [← h2]; rfl
    · have h1 : decide (Lib.ctz 64 y + 1 ≤ j) = true := by simp; omega
      have h2 : decide (r ≤ j) = true := by simp; omega
      have h3 : decide (j ≠ Lib.ctz 64 y) = true := by simp; omega
      rw [h1, h2, h3, Bool.and_true, Bool.and_true]
/-- no bit is left -/
theorem CutAt.done {l : List Nat} {k r : Nat} (h : CutAt 0 r (l.getD k 0)) (hr : r ≤ 64) : onN l (64 * (k + 1)) = onN l (64 * k + r) := by
  refine onN_skip (by omega) fun i h1 h2 => ?_
  obtain ⟨j, rfl⟩ : ∃ j, i = 64 * k + j := ⟨i - 64 * k, by omega⟩
  rw [rbit_word _ _ _ (by omega)]
  have := h.bit j
  rw [Nat.zero_testBit, decide_eq_true (show r ≤ j by omega), Bool.and_true] at this
  exact this.symm
theorem tz_key (x a : Nat) (hx : x < 18446744073709551616) (hx0 : x ≠ 0) (hlow : x &&& (18446744073709551616 - x) = a) :
    IntKind.u64.wrap (bits BinOp.and IntKind.u64 (x : Int) (IntKind.u64.wrap (-(x : Int))) * 285870213051353865) / 288230376151711744 = ((a * 285870213051353865 % 18446744073709551616 / 288230376151711744 : Nat) : Int) := by
  have hw : ∀ z : Int, IntKind.u64.wrap z = z % 18446744073709551616 := fun z => by simp [IntKind.wrap, IntKind.bits, IntKind.signed]
  have e1 : IntKind.u64.wrap (-(x : Int)) = ((18446744073709551616 - x : Nat) : Int) := by rw [hw]; omega
  rw [e1, u64_and_nat x _ hx (by omega), hlow, hw]
  omega
set_option maxHeartbeats 1000000 in
theorem tz64_core (x k idx : Nat) (w : World) (hx0 : ((x : Int) == 0) = false)
    (key : IntKind.u64.wrap (bits BinOp.and IntKind.u64 (x : Int) (IntKind.u64.wrap (-(x : Int))) * 285870213051353865) / 288230376151711744 = (idx : Int))
    (hi : idx < 64) (hk : k < 64) (hcell : w.cell? ⟨0, idx, none⟩ = some (.int .u8 (k : Int))) :
    Calls Tryz.prog 42 #[.int .u64 x] w fun e w' => e = .returned (.int .i64 (k : Int)) ∧ w = w' := by
  go_enter Tryz.func42, Tryz.ntmps42
  go_wp2_with (simp only [key])
  go_ret
  exact ⟨rfl, rfl⟩
theorem tz64_ (w : World) (x : Nat) (hx0 : x ≠ 0) (hx : x < 18446744073709551616) (hT : Tzt w) :
    Calls Tryz.prog 42 #[.int .u64 x] w fun e w' => e = .returned (.int .i64 (Lib.ctz 64 x : Nat)) ∧ w = w' := by
  obtain ⟨hlow, hk⟩ := Lib.lowest_bit 64 x hx0 hx
  obtain ⟨hi, htab⟩ := Lib.deBruijn64_at _ hk
  have hcell := hT _ hi
  rw [htab] at hcell
  exact tz64_core x _ _ w (by simpa using hx0) (tz_key x _ hx hx0 hlow) hi hk hcell
end Go.Proofs.YtaogplmcabbikaaGreatDoor
