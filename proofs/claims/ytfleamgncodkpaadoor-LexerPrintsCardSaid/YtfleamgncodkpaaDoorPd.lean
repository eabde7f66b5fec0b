/- Decimal forms and numbers: plain laws. No condition. -/
import Derived.Test.YtfleamgncodkpaaDoorN1
import Derived.Test.YtfleamgncodkpaaDoorDig
import Derived.Lib.ItoaMem
import Derived.Lib.AtoiTie
namespace Go.Proofs.YtfleamgncodkpaaDoor
open Go.RowKit
theorem natF_acc (l : List UInt8) : ∀ acc, natF acc l = acc * 10 ^ l.length + natF 0 l := by
  induction l with
  | nil => intro acc; simp [natF]
  | cons x r ih =>
    intro acc
    have e1 : natF acc (x :: r) = natF (10 * acc + (x.toNat - 48)) r := rfl
    have e2 : natF 0 (x :: r) = natF (10 * 0 + (x.toNat - 48)) r := rfl
    rw [e1, e2, ih, ih (10 * 0 + (x.toNat - 48)), List.length_cons, Nat.pow_succ, Nat.add_mul, Nat.add_mul]
    rw [show 10 * acc * 10 ^ r.length = acc * (10 ^ r.length * 10) by rw [Nat.mul_comm 10 acc, Nat.mul_assoc, Nat.mul_comm 10]]
    omega
theorem natF_lt {l : List UInt8} (h : l.all digB = true) : natF 0 l < 10 ^ l.length := by
  induction l with
  | nil => simp [natF]
  | cons x r ih =>
    rw [List.all_cons, Bool.and_eq_true] at h
    have hx := (digB_iff x).1 h.1
    have e2 : natF 0 (x :: r) = natF (10 * 0 + (x.toNat - 48)) r := rfl
    have := ih h.2
    rw [e2, natF_acc, List.length_cons, Nat.pow_succ]
    have h2 : (10 * 0 + (x.toNat - 48)) * 10 ^ r.length ≤ 9 * 10 ^ r.length := Nat.mul_le_mul_right _ (by omega)
    omega
theorem lt_mul {X Y p A : Nat} (h : X < Y) (hA : A < p) (B : Nat) : X * p + A < Y * p + B := by
  obtain ⟨d, rfl⟩ : ∃ d, Y = X + 1 + d := ⟨Y - X - 1, by omega⟩
  rw [Nat.add_mul (X + 1) d, Nat.add_mul X 1, Nat.one_mul]
  omega
theorem digs_ge {l : List UInt8} (h : digsL l = true) (h1 : 1 < l.length) : 10 ^ (l.length - 1) ≤ natL l := by
  match l, h1 with
  | x :: y :: r, _ =>
    have ha := (digsL_all h).1
    rw [List.all_cons, Bool.and_eq_true] at ha
    have hx := (digB_iff x).1 ha.1
    have hx2 : x ≠ 48 := by
      unfold digsL at h
      rw [Bool.and_eq_true] at h
      simpa using h.2
    have hx3 : x.toNat ≠ 48 := fun e => hx2 (UInt8.toNat_inj.1 e)
    have e1 : natL (x :: y :: r) = natF (10 * 0 + (x.toNat - 48)) (y :: r) := rfl
    rw [e1, natF_acc]
    have : 1 * 10 ^ (y :: r).length ≤ (10 * 0 + (x.toNat - 48)) * 10 ^ (y :: r).length := Nat.mul_le_mul_right _ (by omega)
    simp only [List.length_cons] at this ⊢
    have e3 : r.length + 1 + 1 - 1 = r.length + 1 := by omega
    rw [e3]; omega
theorem digs_lt {l : List UInt8} (h : digsL l = true) : natL l < 10 ^ l.length := natF_lt (digsL_all h).1
theorem digs_len_lt {a b : List UInt8} (ha : digsL a = true) (hb : digsL b = true) (h : a.length < b.length) : natL a < natL b := by
  have h0 : 0 < a.length := List.length_pos_iff.2 (digsL_all ha).2
  have h1 := digs_lt ha
  have h2 := digs_ge hb (by omega)
  have h3 : 10 ^ a.length ≤ 10 ^ (b.length - 1) := Nat.pow_le_pow_right (by decide) (by omega)
  omega
theorem digsL_of {l : List UInt8} (h : l.all digB = true) (h0 : l ≠ []) (h1 : ∀ x y r, l = x :: y :: r → x ≠ 48) : digsL l = true := by
  unfold digsL
  rw [h]
  match l, h0 with
  | [x], _ => rfl
  | x :: y :: r, _ =>
    have := h1 x y r rfl
    simpa using this
theorem natF_inj : ∀ (a b : List UInt8), a.length = b.length → a.all digB = true → b.all digB = true → natF 0 a = natF 0 b → a = b
  | [], [], _, _, _, _ => rfl
  | [], _ :: _, h, _, _, _ => by simp at h
  | _ :: _, [], h, _, _, _ => by simp at h
  | x :: a, y :: b, h, ha, hb, hn => by
    rw [List.all_cons, Bool.and_eq_true] at ha hb
    have hx := (digB_iff x).1 ha.1
    have hy := (digB_iff y).1 hb.1
    have hl : a.length = b.length := by simpa using h
    have e1 : natF 0 (x :: a) = natF (10 * 0 + (x.toNat - 48)) a := rfl
    have e2 : natF 0 (y :: b) = natF (10 * 0 + (y.toNat - 48)) b := rfl
    have la := natF_lt ha.2
    have lb := natF_lt hb.2
    rw [e1, e2, natF_acc, natF_acc b, hl] at hn
    rw [hl] at la
    have ih := natF_inj a b hl ha.2 hb.2
    generalize hp : 10 ^ b.length = p at *
    have hxy : x.toNat = y.toNat := by
      rcases Nat.lt_trichotomy x.toNat y.toNat with h1 | h1 | h1
      · exfalso
        have := lt_mul (X := 10 * 0 + (x.toNat - 48)) (Y := 10 * 0 + (y.toNat - 48)) (by omega) la (natF 0 b)
        omega
      · exact h1
      · exfalso
        have := lt_mul (X := 10 * 0 + (y.toNat - 48)) (Y := 10 * 0 + (x.toNat - 48)) (by omega) lb (natF 0 a)
        omega
    rw [hxy] at hn
    rw [UInt8.toNat_inj.1 hxy, ih (by omega)]
/-- a number has one form -/
theorem digs_inj {a b : List UInt8} (ha : digsL a = true) (hb : digsL b = true) (h : natL a = natL b) : a = b := by
  rcases Nat.lt_trichotomy a.length b.length with h1 | h1 | h1
  · have := digs_len_lt ha hb h1; omega
  · exact natF_inj a b h1 (digsL_all ha).1 (digsL_all hb).1 h
  · have := digs_len_lt hb ha h1; omega
theorem digB_of (d : Nat) (h : d < 10) : digB (UInt8.ofNat (48 + d)) = true ∧ (UInt8.ofNat (48 + d)).toNat = 48 + d := by
  have e : (UInt8.ofNat (48 + d)).toNat = 48 + d := by simp; omega
  exact ⟨(digB_iff _).2 (by omega), e⟩
theorem dec_parts (u : Nat) : (Lib.decDigits u).all digB = true ∧ natF 0 (Lib.decDigits u) = u ∧ (0 < u → ∃ x r, Lib.decDigits u = x :: r ∧ x ≠ 48) ∧ Lib.decDigits u ≠ [] ∧ (u < 10 → (Lib.decDigits u).length = 1) := by
  induction u using Nat.strongRecOn with
  | _ u ih =>
    by_cases h : u < 10
    · have e := Lib.decDigits_one h
      obtain ⟨h1, h2⟩ := digB_of u h
      rw [e]
      refine ⟨by rw [List.all_cons, h1]; rfl, ?_, fun h0 => ⟨_, [], rfl, ?_⟩, by simp, fun _ => rfl⟩
      · show 10 * 0 + ((UInt8.ofNat (48 + u)).toNat - 48) = u
        omega
      · intro e2
        have := congrArg UInt8.toNat e2
        rw [h2] at this
        have h48 : (48 : UInt8).toNat = 48 := rfl
        omega
    · have e : Lib.decDigits u = Lib.decDigits (u / 10) ++ [UInt8.ofNat (48 + u % 10)] := by rw [Lib.decDigits, dif_neg h]
      obtain ⟨h1, h2, h3, h4, _⟩ := ih (u / 10) (by omega)
      obtain ⟨k1, k2⟩ := digB_of (u % 10) (Nat.mod_lt _ (by omega))
      rw [e]
      refine ⟨by rw [List.all_append, h1, List.all_cons, k1]; rfl, ?_, fun _ => ?_, by simp, fun h' => absurd h' h⟩
      · rw [natF_snoc, h2, k2]; omega
      · obtain ⟨x, r, hx, hx2⟩ := h3 (by omega)
        exact ⟨x, r ++ [UInt8.ofNat (48 + u % 10)], by rw [hx]; rfl, hx2⟩
theorem dec_digs (u : Nat) : digsL (Lib.decDigits u) = true ∧ natL (Lib.decDigits u) = u := by
  obtain ⟨h1, h2, h3, h4, h5⟩ := dec_parts u
  refine ⟨digsL_of h1 h4 (fun x y r e => ?_), h2⟩
  by_cases h : 0 < u
  · obtain ⟨x', r', hx, hx2⟩ := h3 h
    rw [hx] at e
    injection e with e1 _
    rw [← e1]; exact hx2
  · have := h5 (by omega)
    rw [e] at this
    simp at this
theorem digs_dec {a : List UInt8} (h : digsL a = true) : Lib.decDigits (natL a) = a := digs_inj (dec_digs _).1 h (dec_digs _).2
theorem dgL_nat (u : Nat) : dgL (u : Int) = Lib.decDigits u := Lib.itoa_nonneg u
theorem dgL_of {a : List UInt8} (h : digsL a = true) : dgL (natL a : Int) = a := by rw [dgL_nat, digs_dec h]
theorem digs_no45 {l : List UInt8} (h : digsL l = true) : (45 : UInt8) ∉ l := fun hm => (all_dig_ne (digsL_all h).1 45 hm).1 rfl
theorem digs_no44 {l : List UInt8} (h : digsL l = true) : (44 : UInt8) ∉ l := fun hm => by
  have := List.all_eq_true.1 (digsL_all h).1 44 hm
  exact absurd this (by decide)
theorem digs_decL {l : List UInt8} (h : digsL l = true) : decL l = true ∧ intL l = natL l := by
  have hn := digs_no45 h
  constructor
  · unfold decL
    split
    · exact absurd (by simp) hn
    · exact h
  · unfold intL
    split
    · exact absurd (by simp) hn
    · rfl
theorem decFrom_nat : ∀ (l : List UInt8) (acc : Nat), l.all digB = true → Lib.decFrom acc l = some (natF acc l)
  | [], _, _ => rfl
  | x :: r, acc, h => by
    rw [List.all_cons, Bool.and_eq_true] at h
    have hx := (digB_iff x).1 h.1
    unfold Lib.decFrom Lib.digitVal
    rw [if_pos hx]
    simp only
    rw [decFrom_nat r _ h.2, Nat.mul_comm acc 10]
    rfl
theorem digs_short {l : List UInt8} (h : digsL l = true) (h2 : natL l ≤ 1000000000) : l.length ≤ 10 := by
  rcases Nat.lt_or_ge 10 l.length with h1 | h1
  · exfalso
    have := digs_ge h (by omega)
    have h3 : 10 ^ 10 ≤ 10 ^ (l.length - 1) := Nat.pow_le_pow_right (by decide) (by omega)
    omega
  · exact h1
/-- Atoi of a form -/
theorem digs_atoi {l : List UInt8} (h : digsL l = true) (h2 : natL l ≤ 1000000000) : Lib.atoiAll l = .ok (natL l : Int) := by
  rw [Lib.atoiAll_short l (by have := digs_short h h2; omega)]
  obtain ⟨h3, h4⟩ := digsL_all h
  cases l with
  | nil => exact absurd rfl h4
  | cons c r =>
    have hc := all_dig_ne h3 c (by simp)
    have c1 : (c == 45) = false := by simpa using hc.1
    have c2 : (c == 43) = false := by simpa using hc.2
    unfold Lib.atoi
    simp only
    rw [c1, c2]
    simp only [Bool.false_eq_true, if_false]
    unfold Lib.decNat
    rw [List.isEmpty_cons, if_neg (by simp), decFrom_nat _ _ h3]
    rfl
theorem dec_of_neg {u : Nat} (h : 1 ≤ u) : decL (45 :: Lib.decDigits u) = true ∧ intL (45 :: Lib.decDigits u) = -(u : Int) := by
  obtain ⟨d1, d2⟩ := dec_digs u
  obtain ⟨x, r, hx, hx2⟩ := (dec_parts u).2.2.1 (by omega)
  refine ⟨?_, ?_⟩
  · rw [hx] at d1 ⊢
    show (digsL (x :: r) && !(x == 48)) = true
    rw [d1]
    simpa using hx2
  · show -(natL (Lib.decDigits u) : Int) = _
    rw [d2]
theorem int_digits (n : Int) : decL (dgL n) = true ∧ intL (dgL n) = n := by
  by_cases h : n < 0
  · obtain ⟨u, rfl⟩ : ∃ u : Nat, n = -(u : Int) := ⟨n.natAbs, by omega⟩
    have e : dgL (-(u : Int)) = 45 :: Lib.decDigits u := Lib.itoa_neg u (by omega)
    rw [e]
    exact dec_of_neg (by omega)
  · obtain ⟨u, rfl⟩ : ∃ u : Nat, n = (u : Int) := ⟨n.toNat, by omega⟩
    obtain ⟨d1, d2⟩ := dec_digs u
    rw [dgL_nat]
    obtain ⟨d3, d4⟩ := digs_decL d1
    exact ⟨d3, by rw [d4, d2]⟩
theorem intR_digits {n : Int} (h0 : -9223372036854775808 ≤ n) (h1 : n ≤ 9223372036854775807) : intR (dgL n) n n = (n, 0) := by
  obtain ⟨h2, h3⟩ := int_digits n
  unfold intR
  rw [if_neg (by simp [h2]), h3, if_neg (by omega)]
theorem digits_int {l : List UInt8} (h : decL l = true) : dgL (intL l) = l := by
  unfold decL at h
  split at h
  · rename_i x r
    rw [Bool.and_eq_true] at h
    have hx : x ≠ 48 := by simpa using h.2
    have hd := (digsL_all h.1).1
    have hxd := (digB_iff x).1 (List.all_eq_true.1 hd x (by simp))
    have hpos : 1 ≤ natL (x :: r) := by
      have e1 : natL (x :: r) = natF (10 * 0 + (x.toNat - 48)) r := rfl
      have hx3 : x.toNat ≠ 48 := fun e => hx (UInt8.toNat_inj.1 e)
      have := natF_ge r (10 * 0 + (x.toNat - 48))
      rw [e1]; omega
    show dgL (-(natL (x :: r) : Int)) = _
    have e : dgL (-(natL (x :: r) : Int)) = 45 :: Lib.decDigits (natL (x :: r)) := Lib.itoa_neg _ hpos
    rw [e, digs_dec h.1]
  · rw [(digs_decL h).2, dgL_of h]
end Go.Proofs.YtfleamgncodkpaaDoor
