/- Rows of bits, plain: OnesCount64 is the number of bits that are 1. No condition. -/
import Derived.Test.YtcopnpllaoahaaaGreatDoorCmp
namespace Go.Proofs.YtcopnpllaoahaaaGreatDoor
open Go.RowKit
def bsum (n : Nat) (f : Nat → Bool) : Nat := (List.range n).foldl (fun s i => s + (f i).toNat) 0
theorem bsum_zero (f : Nat → Bool) : bsum 0 f = 0 := rfl
theorem bsum_succ (n : Nat) (f : Nat → Bool) : bsum (n + 1) f = bsum n f + (f n).toNat := by
  unfold bsum
  rw [List.range_succ, List.foldl_append]
  rfl
theorem bsum_congr {n : Nat} {f g : Nat → Bool} (h : ∀ i, i < n → f i = g i) : bsum n f = bsum n g := by
  induction n with
  | zero => rfl
  | succ n ih => rw [bsum_succ, bsum_succ, ih fun i hi => h i (by omega), h n (by omega)]
theorem bsum_add (n m : Nat) (f : Nat → Bool) : bsum (n + m) f = bsum n f + bsum m fun i => f (n + i) := by
  induction m with
  | zero => rfl
  | succ m ih => rw [← Nat.add_assoc, bsum_succ, bsum_succ, ih, Nat.add_assoc]
theorem bsum_le (n : Nat) (f : Nat → Bool) : bsum n f ≤ n := by
  induction n with
  | zero => exact Nat.le_refl _
  | succ n ih => rw [bsum_succ]; have : (f n).toNat ≤ 1 := by cases f n <;> decide
                 omega
theorem bsum_true (n : Nat) : bsum n (fun _ => true) = n := by
  induction n with
  | zero => rfl
  | succ n ih => rw [bsum_succ, ih]; rfl
theorem bsum_false (n : Nat) : bsum n (fun _ => false) = 0 := by
  induction n with
  | zero => rfl
  | succ n ih => rw [bsum_succ, ih]; rfl
theorem bsum_and_or (n : Nat) (f g : Nat → Bool) : bsum n (fun i => f i && g i) + bsum n (fun i => f i || g i) = bsum n f + bsum n g := by
  induction n with
  | zero => rfl
  | succ n ih =>
    rw [bsum_succ, bsum_succ, bsum_succ, bsum_succ]
    have : (f n && g n).toNat + (f n || g n).toNat = (f n).toNat + (g n).toNat := by cases f n <;> cases g n <;> rfl
    omega
/-! bytes -/
theorem and_split {b m y M : Nat} (hb : b < 256) (hm : m < 256) : (b + 256 * y) &&& (m + 256 * M) = (b &&& m) + 256 * (y &&& M) := by
  have h1 : ((b + 256 * y) &&& (m + 256 * M)) % 2 ^ 8 = b &&& m := by
    rw [Nat.and_mod_two_pow, show (2 : Nat) ^ 8 = 256 from rfl, Nat.add_mul_mod_self_left, Nat.add_mul_mod_self_left, Nat.mod_eq_of_lt hb, Nat.mod_eq_of_lt hm]
  have h2 : ((b + 256 * y) &&& (m + 256 * M)) / 2 ^ 8 = y &&& M := by
    rw [Nat.and_div_two_pow, show (2 : Nat) ^ 8 = 256 from rfl]
    rw [show (b + 256 * y) / 256 = y by omega, show (m + 256 * M) / 256 = M by omega]
  rw [show (2 : Nat) ^ 8 = 256 from rfl] at h1 h2
  omega
/-- eight bytes, the lowest first -/
def hor (a0 a1 a2 a3 a4 a5 a6 a7 : Nat) : Nat := a0 + 256 * (a1 + 256 * (a2 + 256 * (a3 + 256 * (a4 + 256 * (a5 + 256 * (a6 + 256 * a7))))))
theorem hor_and {a0 a1 a2 a3 a4 a5 a6 a7 m : Nat} (h0 : a0 < 256) (h1 : a1 < 256) (h2 : a2 < 256) (h3 : a3 < 256) (h4 : a4 < 256) (h5 : a5 < 256) (h6 : a6 < 256) (hm : m < 256) :
    hor a0 a1 a2 a3 a4 a5 a6 a7 &&& hor m m m m m m m m = hor (a0 &&& m) (a1 &&& m) (a2 &&& m) (a3 &&& m) (a4 &&& m) (a5 &&& m) (a6 &&& m) (a7 &&& m) := by
  unfold hor
  rw [and_split h0 hm, and_split h1 hm, and_split h2 hm, and_split h3 hm, and_split h4 hm, and_split h5 hm, and_split h6 hm]
theorem hor_add (a0 a1 a2 a3 a4 a5 a6 a7 b0 b1 b2 b3 b4 b5 b6 b7 : Nat) : hor a0 a1 a2 a3 a4 a5 a6 a7 + hor b0 b1 b2 b3 b4 b5 b6 b7 = hor (a0 + b0) (a1 + b1) (a2 + b2) (a3 + b3) (a4 + b4) (a5 + b5) (a6 + b6) (a7 + b7) := by
  unfold hor; omega
theorem hor_div (d e : Nat) (hd : d * e = 256) (h0 : 0 < d) {a0 a1 a2 a3 a4 a5 a6 a7 : Nat} :
    hor a0 a1 a2 a3 a4 a5 a6 a7 / d = hor (a0 / d + e * (a1 % d)) (a1 / d + e * (a2 % d)) (a2 / d + e * (a3 % d)) (a3 / d + e * (a4 % d)) (a4 / d + e * (a5 % d)) (a5 / d + e * (a6 % d)) (a6 / d + e * (a7 % d)) (a7 / d) := by
  have step : ∀ a y : Nat, (a + 256 * y) / d = a / d + e * (y % d) + 256 * (y / d) := fun a y => by
    have e1 : a + 256 * y = a + d * (e * y) := by rw [← Nat.mul_assoc, hd]
    rw [e1, Nat.add_mul_div_left _ _ h0]
    have e2 : e * y = e * (y % d) + 256 * (y / d) := by
      conv => lhs; rw [← Nat.mod_add_div y d]
      rw [Nat.mul_add, ← Nat.mul_assoc, Nat.mul_comm e d, hd]
    omega
  have md : ∀ a y : Nat, (a + 256 * y) % d = a % d := fun a y => by
    rw [← hd, Nat.mul_assoc, Nat.add_mul_mod_self_left]
  unfold hor
  rw [step, md, step, md, step, md, step, md, step, md, step, md, step]
def p1 (b : Nat) : Nat := (b / 2 &&& 85) + (b &&& 85)
def p2 (b : Nat) : Nat := (b / 4 &&& 51) + (b &&& 51)
def p3 (b : Nat) : Nat := (b / 16 + b) &&& 15
theorem m1_fin : ∀ a : Fin 256, ∀ t : Fin 2, (a.val / 2 + 128 * t.val) &&& 85 = a.val / 2 &&& 85 := by decide +kernel
theorem m2_fin : ∀ a : Fin 256, ∀ t : Fin 4, (a.val / 4 + 64 * t.val) &&& 51 = a.val / 4 &&& 51 := by decide +kernel
theorem m1 {a t : Nat} (ha : a < 256) : (a / 2 + 128 * (t % 2)) &&& 85 = a / 2 &&& 85 := m1_fin ⟨a, ha⟩ ⟨t % 2, by omega⟩
theorem m2 {a t : Nat} (ha : a < 256) : (a / 4 + 64 * (t % 4)) &&& 51 = a / 4 &&& 51 := m2_fin ⟨a, ha⟩ ⟨t % 4, by omega⟩
theorem m3 {a t : Nat} : (a / 16 + 16 * (t % 16) + a) &&& 15 = p3 a := by
  unfold p3
  rw [Nat.and_two_pow_sub_one_eq_mod _ 4, Nat.and_two_pow_sub_one_eq_mod _ 4]
  show (a / 16 + 16 * (t % 16) + a) % 16 = (a / 16 + a) % 16
  omega
theorem p_fin : ∀ b : Fin 256, p1 b.val < 256 ∧ p2 (p1 b.val) % 16 ≤ 4 ∧ p2 (p1 b.val) / 16 ≤ 4 ∧ p3 (p2 (p1 b.val)) = bsum 8 (fun j => b.val.testBit j) := by decide +kernel
theorem on1_hor {a0 a1 a2 a3 a4 a5 a6 a7 : Nat} (h0 : a0 < 256) (h1 : a1 < 256) (h2 : a2 < 256) (h3 : a3 < 256) (h4 : a4 < 256) (h5 : a5 < 256) (h6 : a6 < 256) (_ : a7 < 256) : on1 (hor a0 a1 a2 a3 a4 a5 a6 a7) = hor (p1 a0) (p1 a1) (p1 a2) (p1 a3) (p1 a4) (p1 a5) (p1 a6) (p1 a7) := by
  unfold on1
  rw [hor_div 2 128 rfl (by decide), show (6148914691236517205 : Nat) = hor 85 85 85 85 85 85 85 85 from rfl]
  rw [hor_and (by omega) (by omega) (by omega) (by omega) (by omega) (by omega) (by omega) (by omega), hor_and h0 h1 h2 h3 h4 h5 h6 (by omega), hor_add]
  rw [m1 h0, m1 h1, m1 h2, m1 h3, m1 h4, m1 h5, m1 h6]
  rfl
theorem on2_hor {a0 a1 a2 a3 a4 a5 a6 a7 : Nat} (h0 : a0 < 256) (h1 : a1 < 256) (h2 : a2 < 256) (h3 : a3 < 256) (h4 : a4 < 256) (h5 : a5 < 256) (h6 : a6 < 256) (_ : a7 < 256) : on2 (hor a0 a1 a2 a3 a4 a5 a6 a7) = hor (p2 a0) (p2 a1) (p2 a2) (p2 a3) (p2 a4) (p2 a5) (p2 a6) (p2 a7) := by
  unfold on2
  rw [hor_div 4 64 rfl (by decide), show (3689348814741910323 : Nat) = hor 51 51 51 51 51 51 51 51 from rfl]
  rw [hor_and (by omega) (by omega) (by omega) (by omega) (by omega) (by omega) (by omega) (by omega), hor_and h0 h1 h2 h3 h4 h5 h6 (by omega), hor_add]
  rw [m2 h0, m2 h1, m2 h2, m2 h3, m2 h4, m2 h5, m2 h6]
  rfl
theorem on3_hor {a0 a1 a2 a3 a4 a5 a6 a7 : Nat} (h0 : a0 % 16 ≤ 4) (h1 : a1 % 16 ≤ 4) (h2 : a2 % 16 ≤ 4) (h3 : a3 % 16 ≤ 4) (h4 : a4 % 16 ≤ 4) (h5 : a5 % 16 ≤ 4) (h6 : a6 % 16 ≤ 4) (h7 : a7 % 16 ≤ 4) (k0 : a0 / 16 ≤ 4) (k1 : a1 / 16 ≤ 4) (k2 : a2 / 16 ≤ 4) (k3 : a3 / 16 ≤ 4) (k4 : a4 / 16 ≤ 4) (k5 : a5 / 16 ≤ 4) (k6 : a6 / 16 ≤ 4) (_ : a7 / 16 ≤ 4) : on3 (hor a0 a1 a2 a3 a4 a5 a6 a7) = hor (p3 a0) (p3 a1) (p3 a2) (p3 a3) (p3 a4) (p3 a5) (p3 a6) (p3 a7) := by
  unfold on3
  rw [hor_div 16 16 rfl (by decide), hor_add, show (1085102592571150095 : Nat) = hor 15 15 15 15 15 15 15 15 from rfl]
  rw [hor_and (by omega) (by omega) (by omega) (by omega) (by omega) (by omega) (by omega) (by omega)]
  rw [m3, m3, m3, m3, m3, m3, m3]
  rfl
theorem on_sum {a0 a1 a2 a3 a4 a5 a6 a7 : Nat} (h0 : a0 ≤ 8) (h1 : a1 ≤ 8) (h2 : a2 ≤ 8) (h3 : a3 ≤ 8) (h4 : a4 ≤ 8) (h5 : a5 ≤ 8) (h6 : a6 ≤ 8) (h7 : a7 ≤ 8) : on6 (on5 (on4 (hor a0 a1 a2 a3 a4 a5 a6 a7))) % 128 = a0 + a1 + a2 + a3 + a4 + a5 + a6 + a7 := by
  have e4 : on4 (hor a0 a1 a2 a3 a4 a5 a6 a7) = hor (a0 + a1) (a1 + a2) (a2 + a3) (a3 + a4) (a4 + a5) (a5 + a6) (a6 + a7) (a7 + 0) := by
    unfold on4
    rw [show hor a0 a1 a2 a3 a4 a5 a6 a7 / 256 = hor a1 a2 a3 a4 a5 a6 a7 0 by unfold hor; omega, hor_add]
  rw [e4]
  generalize g0 : a0 + a1 = b0
  generalize g1 : a1 + a2 = b1
  generalize g2 : a2 + a3 = b2
  generalize g3 : a3 + a4 = b3
  generalize g4 : a4 + a5 = b4
  generalize g5 : a5 + a6 = b5
  generalize g6 : a6 + a7 = b6
  generalize g7 : a7 + 0 = b7
  have e5 : on5 (hor b0 b1 b2 b3 b4 b5 b6 b7) = hor (b0 + b2) (b1 + b3) (b2 + b4) (b3 + b5) (b4 + b6) (b5 + b7) (b6 + 0) (b7 + 0) := by
    unfold on5
    rw [show hor b0 b1 b2 b3 b4 b5 b6 b7 / 65536 = hor b2 b3 b4 b5 b6 b7 0 0 by unfold hor; omega, hor_add]
  rw [e5]
  have e6 : ∀ c0 c1 c2 c3 c4 c5 c6 c7, c0 ≤ 32 → c1 ≤ 32 → c2 ≤ 32 → c3 ≤ 32 → on6 (hor c0 c1 c2 c3 c4 c5 c6 c7) % 128 = (c0 + c4) % 128 := fun c0 c1 c2 c3 c4 c5 c6 c7 k0 k1 k2 k3 => by
    unfold on6
    rw [show hor c0 c1 c2 c3 c4 c5 c6 c7 / 4294967296 = hor c4 c5 c6 c7 0 0 0 0 by unfold hor; omega, hor_add]
    unfold hor
    omega
  rw [e6 _ _ _ _ _ _ _ _ (by omega) (by omega) (by omega) (by omega)]
  omega
theorem bsum_byte (n : Nat) {a : Nat} (ha : a < 256) (y : Nat) : bsum (8 + n) (fun j => (a + 256 * y).testBit j) = bsum 8 (fun j => a.testBit j) + bsum n fun j => y.testBit j := by
  have key : ∀ j, (a + 256 * y).testBit j = if j < 8 then a.testBit j else y.testBit (j - 8) := fun j => by
    rw [Nat.add_comm, show (256 : Nat) = 2 ^ 8 from rfl, Nat.testBit_two_pow_mul_add _ ha]
  rw [bsum_add]
  congr 1
  · exact bsum_congr fun i hi => by rw [key, if_pos hi]
  · exact bsum_congr fun i _ => by rw [key, if_neg (by omega), Nat.add_sub_cancel_left]
theorem bsum_hor {a0 a1 a2 a3 a4 a5 a6 a7 : Nat} (h0 : a0 < 256) (h1 : a1 < 256) (h2 : a2 < 256) (h3 : a3 < 256) (h4 : a4 < 256) (h5 : a5 < 256) (h6 : a6 < 256) (_ : a7 < 256) : bsum 64 (fun j => (hor a0 a1 a2 a3 a4 a5 a6 a7).testBit j) = bsum 8 (fun j => a0.testBit j) + bsum 8 (fun j => a1.testBit j) + bsum 8 (fun j => a2.testBit j) + bsum 8 (fun j => a3.testBit j) + bsum 8 (fun j => a4.testBit j) + bsum 8 (fun j => a5.testBit j) + bsum 8 (fun j => a6.testBit j) + bsum 8 (fun j => a7.testBit j) := by
  unfold hor
  rw [show (64 : Nat) = 8 + (8 + (8 + (8 + (8 + (8 + (8 + 8)))))) from rfl]
  rw [bsum_byte _ h0, bsum_byte _ h1, bsum_byte _ h2, bsum_byte _ h3, bsum_byte _ h4, bsum_byte _ h5, bsum_byte _ h6]
  omega
theorem hor_of (x : Nat) (hx : x < 18446744073709551616) : ∃ a0 a1 a2 a3 a4 a5 a6 a7, x = hor a0 a1 a2 a3 a4 a5 a6 a7 ∧ a0 < 256 ∧ a1 < 256 ∧ a2 < 256 ∧ a3 < 256 ∧ a4 < 256 ∧ a5 < 256 ∧ a6 < 256 ∧ a7 < 256 := by
  refine ⟨x % 256, x / 256 % 256, x / 65536 % 256, x / 16777216 % 256, x / 4294967296 % 256, x / 1099511627776 % 256, x / 281474976710656 % 256, x / 72057594037927936, ?_, by omega, by omega, by omega, by omega, by omega, by omega, by omega, by omega⟩
  unfold hor
  omega
/-- OnesCount64 counts the bits -/
theorem ones64_bits (x : Nat) (hx : x < 18446744073709551616) : ones64 x = bsum 64 (fun j => x.testBit j) := by
  obtain ⟨a0, a1, a2, a3, a4, a5, a6, a7, rfl, h0, h1, h2, h3, h4, h5, h6, h7⟩ := hor_of x hx
  have f := fun a (ha : a < 256) => p_fin ⟨a, ha⟩
  unfold ones64
  rw [on1_hor h0 h1 h2 h3 h4 h5 h6 h7, on2_hor (f _ h0).1 (f _ h1).1 (f _ h2).1 (f _ h3).1 (f _ h4).1 (f _ h5).1 (f _ h6).1 (f _ h7).1]
  rw [on3_hor (f _ h0).2.1 (f _ h1).2.1 (f _ h2).2.1 (f _ h3).2.1 (f _ h4).2.1 (f _ h5).2.1 (f _ h6).2.1 (f _ h7).2.1 (f _ h0).2.2.1 (f _ h1).2.2.1 (f _ h2).2.2.1 (f _ h3).2.2.1 (f _ h4).2.2.1 (f _ h5).2.2.1 (f _ h6).2.2.1 (f _ h7).2.2.1]
  rw [(f _ h0).2.2.2, (f _ h1).2.2.2, (f _ h2).2.2.2, (f _ h3).2.2.2, (f _ h4).2.2.2, (f _ h5).2.2.2, (f _ h6).2.2.2, (f _ h7).2.2.2]
  rw [on_sum (bsum_le 8 _) (bsum_le 8 _) (bsum_le 8 _) (bsum_le 8 _) (bsum_le 8 _) (bsum_le 8 _) (bsum_le 8 _) (bsum_le 8 _), bsum_hor h0 h1 h2 h3 h4 h5 h6 h7]
/-- Count counts the bits of a row -/
theorem cntL_bits {l : List Nat} (hw : W64 l) : cntL l = bsum (64 * l.length) (rbit l) := by
  have key : ∀ k, k ≤ l.length → cntL (l.take k) = bsum (64 * k) (rbit l) := by
    intro k
    induction k with
    | zero => intro _; rfl
    | succ k ih =>
      intro hk
      rw [cntL_succ (by omega), ih (by omega), Nat.mul_succ, bsum_add, ones64_bits _ (wget hw k)]
      congr 1
      refine bsum_congr fun i hi => ?_
      unfold rbit
      rw [show (64 * k + i) / 64 = k by omega, show (64 * k + i) % 64 = i by omega]
  have := key l.length (Nat.le_refl _)
  rwa [List.take_of_length_le (Nat.le_refl _)] at this
end Go.Proofs.YtcopnpllaoahaaaGreatDoor
