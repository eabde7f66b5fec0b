/- Sets of bytes as values: four words; boxes of them. No condition. -/
import Derived.Test.YtfleamgncodkpaaDoorCmp
import Derived.Test.YtfleamgncodkpaaDoorK1
namespace Go.Proofs.YtfleamgncodkpaaDoor
open Go.RowKit
/-- word j of a set -/
def wK (f : Nat → Bool) (j : Nat) : Nat := nb 64 fun i => f (64 * j + i)
theorem wK_lt (f : Nat → Bool) (j : Nat) : wK f j < 18446744073709551616 := nb_lt 64 _
theorem wK_bit (f : Nat → Bool) (j i : Nat) (h : i < 64) : (wK f j).testBit i = f (64 * j + i) := by
  unfold wK
  rw [nb_bit, decide_eq_true h, Bool.true_and]
theorem wK_ext {x : Nat} (f : Nat → Bool) (j : Nat) (hx : x < 18446744073709551616) (h : ∀ i, i < 64 → x.testBit i = f (64 * j + i)) : x = wK f j :=
  word_ext hx (wK_lt f j) fun i hi => by rw [h i hi, wK_bit f j i hi]
theorem wK_congr {f g : Nat → Bool} (h : ∀ i, i < 256 → f i = g i) {j : Nat} (hj : j < 4) : wK f j = wK g j :=
  wK_ext g j (wK_lt f j) fun i hi => by rw [wK_bit f j i hi, h _ (by omega)]
theorem wK_inj {f g : Nat → Bool} (h : ∀ j, j < 4 → wK f j = wK g j) (i : Nat) (hi : i < 256) : f i = g i := by
  have h1 := wK_bit f (i / 64) (i % 64) (by omega)
  have h2 := wK_bit g (i / 64) (i % 64) (by omega)
  rw [show 64 * (i / 64) + i % 64 = i by omega] at h1 h2
  rw [← h1, ← h2, h _ (by omega)]
/-- the cells, the value and the box of a set -/
abbrev stC (f : Nat → Bool) : List Value := [.int .u64 ((wK f 0 : Nat) : Int), .int .u64 ((wK f 1 : Nat) : Int), .int .u64 ((wK f 2 : Nat) : Int), .int .u64 ((wK f 3 : Nat) : Int)]
abbrev stV (f : Nat → Bool) : Value := .agg #[.int .u64 ((wK f 0 : Nat) : Int), .int .u64 ((wK f 1 : Nat) : Int), .int .u64 ((wK f 2 : Nat) : Int), .int .u64 ((wK f 3 : Nat) : Int)]
abbrev stO (f : Nat → Bool) : Obj := .cells #[.int .u64 ((wK f 0 : Nat) : Int), .int .u64 ((wK f 1 : Nat) : Int), .int .u64 ((wK f 2 : Nat) : Int), .int .u64 ((wK f 3 : Nat) : Int)] 31 (0, 0)
theorem stV_congr {f g : Nat → Bool} (h : ∀ i, i < 256 → f i = g i) : stV f = stV g := by
  unfold stV
  rw [wK_congr h (show 0 < 4 by decide), wK_congr h (show 1 < 4 by decide), wK_congr h (show 2 < 4 by decide), wK_congr h (show 3 < 4 by decide)]
theorem stV_inj {f g : Nat → Bool} (h : stV f = stV g) (i : Nat) (hi : i < 256) : f i = g i := by
  unfold stV at h
  injection h with h
  simp only [Array.mk.injEq, List.cons.injEq, Value.int.injEq, true_and, and_true] at h
  obtain ⟨h0, h1, h2, h3⟩ := h
  refine wK_inj (fun j hj => ?_) i hi
  rcases (show j = 0 ∨ j = 1 ∨ j = 2 ∨ j = 3 by omega) with rfl | rfl | rfl | rfl <;> omega
/-- four words are a set -/
theorem stV_of {a b c d : Nat} (ha : a < 18446744073709551616) (hb : b < 18446744073709551616) (hc : c < 18446744073709551616) (hd : d < 18446744073709551616) : stV (rbit [a, b, c, d]) = .agg #[.int .u64 (a : Int), .int .u64 (b : Int), .int .u64 (c : Int), .int .u64 (d : Int)] := by
  have key : ∀ (x j : Nat), x < 18446744073709551616 → [a, b, c, d].getD j 0 = x → wK (rbit [a, b, c, d]) j = x := fun x j hx e => by
    refine (wK_ext _ j hx fun i hi => ?_).symm
    unfold rbit
    rw [show (64 * j + i) / 64 = j by omega, show (64 * j + i) % 64 = i by omega, e]
  unfold stV
  rw [key a 0 ha rfl, key b 1 hb rfl, key c 2 hc rfl, key d 3 hd rfl]
/-- the words below k are those of g, the others those of f -/
def mxK (k : Nat) (f g : Nat → Bool) (i : Nat) : Bool := if i / 64 < k then g i else f i
theorem wK_mx (k : Nat) (f g : Nat → Bool) (j : Nat) : wK (mxK k f g) j = if j < k then wK g j else wK f j := by
  refine (wK_ext _ j (by split <;> exact wK_lt _ _) fun i hi => ?_).symm
  unfold mxK
  rw [show (64 * j + i) / 64 = j by omega]
  split <;> exact wK_bit _ _ _ hi
theorem mx_zero (f g : Nat → Bool) : ∀ i, i < 256 → mxK 0 f g i = f i := fun i _ => by unfold mxK; rw [if_neg (by omega)]
theorem mx_four (f g : Nat → Bool) : ∀ i, i < 256 → mxK 4 f g i = g i := fun i hi => by unfold mxK; rw [if_pos (by omega)]
/-- the facts of a box -/
theorem stCells {w : World} {g : Nat} {f : Nat → Bool} (h : w.heap[g]? = some (stO f)) :
    (w.cell? ⟨g, 0, none⟩ = some (.int .u64 ((wK f 0 : Nat) : Int)) ∧ w.cell? ⟨g, 1, none⟩ = some (.int .u64 ((wK f 1 : Nat) : Int)) ∧ w.cell? ⟨g, 2, none⟩ = some (.int .u64 ((wK f 2 : Nat) : Int)) ∧ w.cell? ⟨g, 3, none⟩ = some (.int .u64 ((wK f 3 : Nat) : Int))) ∧
    (w.frozen? ⟨g, 0, none⟩ = false ∧ w.frozen? ⟨g, 1, none⟩ = false ∧ w.frozen? ⟨g, 2, none⟩ = false ∧ w.frozen? ⟨g, 3, none⟩ = false) ∧ g < w.heap.size :=
  ⟨⟨Lib.cell_of_heap h 0, Lib.cell_of_heap h 1, Lib.cell_of_heap h 2, Lib.cell_of_heap h 3⟩, ⟨Lib.frozen_of_heap h 0, Lib.frozen_of_heap h 1, Lib.frozen_of_heap h 2, Lib.frozen_of_heap h 3⟩, heap_lt h⟩
theorem bx4 {w : World} {g : Nat} {a b c d : Value} {t : TypeId} (h : w.heap[g]? = some (.cells #[a, b, c, d] t (0, 0))) :
    (w.cell? ⟨g, 0, none⟩ = some a ∧ w.cell? ⟨g, 1, none⟩ = some b ∧ w.cell? ⟨g, 2, none⟩ = some c ∧ w.cell? ⟨g, 3, none⟩ = some d) ∧
    (w.frozen? ⟨g, 0, none⟩ = false ∧ w.frozen? ⟨g, 1, none⟩ = false ∧ w.frozen? ⟨g, 2, none⟩ = false ∧ w.frozen? ⟨g, 3, none⟩ = false) ∧ g < w.heap.size :=
  ⟨⟨Lib.cell_of_heap h 0, Lib.cell_of_heap h 1, Lib.cell_of_heap h 2, Lib.cell_of_heap h 3⟩, ⟨Lib.frozen_of_heap h 0, Lib.frozen_of_heap h 1, Lib.frozen_of_heap h 2, Lib.frozen_of_heap h 3⟩, heap_lt h⟩
/-- one word of a box is written -/
theorem Fr.stSet {w0 w1 : World} {L : List (Nat × Obj)} {g k : Nat} {f h : Nat → Bool} (hF : Fr w0 ((g, stO (mxK k f h)) :: L) w1) (hg : w0.heap.size ≤ g) (hL : ∀ p ∈ L, p.1 ≠ g) (hk : k < 4) :
    Fr w0 ((g, stO (mxK (k + 1) f h)) :: L) (w1.setCell ⟨g, k, none⟩ (.int .u64 ((wK h k : Nat) : Int))) := by
  have := hF.set hg hL k (.int .u64 ((wK h k : Nat) : Int))
  have e : stO (mxK (k + 1) f h) = .cells ((#[.int .u64 ((wK (mxK k f h) 0 : Nat) : Int), .int .u64 ((wK (mxK k f h) 1 : Nat) : Int), .int .u64 ((wK (mxK k f h) 2 : Nat) : Int), .int .u64 ((wK (mxK k f h) 3 : Nat) : Int)] : Array Value).setIfInBounds k (.int .u64 ((wK h k : Nat) : Int))) 31 (0, 0) := by
    unfold stO
    simp only [wK_mx]
    rcases (show k = 0 ∨ k = 1 ∨ k = 2 ∨ k = 3 by omega) with rfl | rfl | rfl | rfl <;> simp
  rw [e]
  exact this
/-- the whole box is written -/
theorem Fr.stPut {w0 w1 : World} {L : List (Nat × Obj)} {g : Nat} {f h : Nat → Bool} (hF : Fr w0 ((g, stO f) :: L) w1) (hg : w0.heap.size ≤ g) (hL : ∀ p ∈ L, p.1 ≠ g) :
    Fr w0 ((g, stO h) :: L) ((((w1.setCell ⟨g, 0, none⟩ (.int .u64 ((wK h 0 : Nat) : Int))).setCell ⟨g, 1, none⟩ (.int .u64 ((wK h 1 : Nat) : Int))).setCell ⟨g, 2, none⟩ (.int .u64 ((wK h 2 : Nat) : Int))).setCell ⟨g, 3, none⟩ (.int .u64 ((wK h 3 : Nat) : Int))) := by
  have := (((hF.set hg hL 0 (.int .u64 ((wK h 0 : Nat) : Int))).set hg hL 1 (.int .u64 ((wK h 1 : Nat) : Int))).set hg hL 2 (.int .u64 ((wK h 2 : Nat) : Int))).set hg hL 3 (.int .u64 ((wK h 3 : Nat) : Int))
  simpa using this
/-! words and bits -/
theorem wK_or (f g : Nat → Bool) (j : Nat) : wK f j ||| wK g j = wK (fun i => f i || g i) j :=
  wK_ext _ j (Nat.or_lt_two_pow (n := 64) (wK_lt f j) (wK_lt g j)) fun i hi => by rw [Nat.testBit_or, wK_bit f j i hi, wK_bit g j i hi]
theorem wK_not (f : Nat → Bool) (j : Nat) : wK f j ^^^ 18446744073709551615 = wK (fun i => !f i) j :=
  wK_ext _ j (Nat.xor_lt_two_pow (n := 64) (wK_lt f j) (by decide)) fun i hi => by
    rw [Nat.testBit_xor, wK_bit f j i hi, show (18446744073709551615 : Nat) = 2 ^ 64 - 1 from rfl, Nat.testBit_two_pow_sub_one, decide_eq_true hi]
    cases f (64 * j + i) <;> rfl
/-- one byte more -/
def adK (f : Nat → Bool) (b : Nat) (i : Nat) : Bool := f i || decide (i = b)
theorem wK_ad (f : Nat → Bool) (b : Nat) : wK f (b / 64) ||| 2 ^ (b % 64) = wK (adK f b) (b / 64) :=
  wK_ext _ _ (Nat.or_lt_two_pow (n := 64) (wK_lt f _) (Nat.pow_lt_pow_right (by omega) (by omega))) fun i hi => by
    rw [Nat.testBit_or, wK_bit f _ i hi, Nat.testBit_two_pow]
    unfold adK
    congr 1
    rw [Bool.eq_iff_iff]
    simp only [decide_eq_true_eq]
    omega
theorem wK_ad_other (f : Nat → Bool) (b : Nat) {j : Nat} (hj : j ≠ b / 64) : wK (adK f b) j = wK f j :=
  (wK_ext _ _ (wK_lt f j) fun i hi => by
    rw [wK_bit f j i hi]
    unfold adK
    rw [decide_eq_false (by omega), Bool.or_false]).symm
/-- one byte less -/
def drK (f : Nat → Bool) (b : Nat) (i : Nat) : Bool := f i && !decide (i = b)
theorem sub_bit {x t : Nat} (h : x.testBit t = true) : 2 ^ t ≤ x ∧ ∀ i, (x - 2 ^ t).testBit i = (x.testBit i && !decide (i = t)) := by
  have hle : 2 ^ t ≤ x := Nat.ge_two_pow_of_testBit h
  refine ⟨hle, fun i => ?_⟩
  have hr : (x % 2 ^ (t + 1)).testBit t = true := by rw [Nat.testBit_mod_two_pow, h]; simp
  have hr2 : 2 ^ t ≤ x % 2 ^ (t + 1) := Nat.ge_two_pow_of_testBit hr
  have hr3 : x % 2 ^ (t + 1) < 2 ^ (t + 1) := Nat.mod_lt _ (Nat.pow_pos (by omega))
  have hx := Nat.div_add_mod x (2 ^ (t + 1))
  generalize x / 2 ^ (t + 1) = q at *
  obtain ⟨s, hs⟩ : ∃ s, x % 2 ^ (t + 1) = 2 ^ t + s := ⟨_, (Nat.add_sub_cancel' hr2).symm⟩
  rw [hs] at hx hr3
  have hs2 : s < 2 ^ t := by rw [Nat.pow_succ] at hr3; omega
  clear hr hr2 hs h
  obtain ⟨m, hm⟩ : ∃ m, m = 2 ^ (t + 1) * q := ⟨_, rfl⟩
  have hx1 : x = 2 ^ (t + 1) * q + (2 ^ t + s) := hx.symm
  have hx2 : x - 2 ^ t = 2 ^ (t + 1) * q + s := by rw [hx1, ← hm]; omega
  rw [hx2, hx1, Nat.testBit_two_pow_mul_add _ (by rw [Nat.pow_succ]; omega), Nat.testBit_two_pow_mul_add _ hr3]
  by_cases hi : i < t + 1
  · rw [if_pos hi, if_pos hi]
    by_cases e : i = t
    · subst e
      rw [Nat.testBit_lt_two_pow hs2]; simp
    · rw [Nat.testBit_two_pow_add_gt (by omega), decide_eq_false e]; simp
  · rw [if_neg hi, if_neg hi, decide_eq_false (by omega)]; simp
theorem wK_dr {f : Nat → Bool} {b : Nat} (h : f b = true) : 2 ^ (b % 64) ≤ wK f (b / 64) ∧ wK f (b / 64) - 2 ^ (b % 64) = wK (drK f b) (b / 64) := by
  have hb : (wK f (b / 64)).testBit (b % 64) = true := by rw [wK_bit f _ _ (by omega), show 64 * (b / 64) + b % 64 = b by omega, h]
  obtain ⟨h1, h2⟩ := sub_bit hb
  refine ⟨h1, wK_ext _ _ (Nat.lt_of_le_of_lt (Nat.sub_le _ _) (wK_lt f _)) fun i hi => ?_⟩
  rw [h2, wK_bit f _ i hi]
  unfold drK
  congr 2
  rw [Bool.eq_iff_iff]
  simp only [decide_eq_true_eq]
  omega
theorem wK_dr_other (f : Nat → Bool) (b : Nat) {j : Nat} (hj : j ≠ b / 64) : wK (drK f b) j = wK f j :=
  (wK_ext _ _ (wK_lt f j) fun i hi => by
    rw [wK_bit f j i hi]
    unfold drK
    rw [decide_eq_false (by omega)]; simp).symm
end Go.Proofs.YtfleamgncodkpaaDoor
