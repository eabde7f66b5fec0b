/- Configurations' texts: plain words; Print and Parse are inverse. No condition. -/
import Derived.Test.YtljmidaapgppfaaDoorPt
import Derived.Test.YtljmidaapgppfaaDoorPd
import Derived.Test.YtljmidaapgppfaaDoorC1
namespace Go.Proofs.YtljmidaapgppfaaDoor
open Go.RowKit
def kwB : List UInt8 := [98, 108, 111, 99, 107]
def kwK : List UInt8 := [107, 101, 101, 112]
def kwL : List UInt8 := [108, 105, 109, 105, 116]
def txC (b k l : Int) : List UInt8 := kwB ++ 32 :: (dgL b ++ 32 :: (kwK ++ 32 :: (dgL k ++ 32 :: (kwL ++ 32 :: dgL l))))
abbrev C3 := Int × Int × Int
def okP (a b c : List UInt8) : C3 × Int := if OkC (intL a) (intL b) (intL c) then ((intL a, intL b, intL c), 0) else ((0, 0, 0), 7)
def six (k1 a k2 b k3 c : List UInt8) : C3 × Int :=
  if k1 = kwB ∧ k2 = kwK ∧ k3 = kwL then (if decL a = true ∧ decL b = true ∧ decL c = true then okP a b c else ((0, 0, 0), 6)) else ((0, 0, 0), 6)
def psC (l : List UInt8) : C3 × Int :=
  if 100 < l.length then ((0, 0, 0), 3) else
  match pts 32 [] l with
  | [k1, a, k2, b, k3, c] => six k1 a k2 b k3 c
  | _ => ((0, 0, 0), 6)
theorem psC_long {l : List UInt8} (h : 100 < l.length) : psC l = ((0, 0, 0), 3) := if_pos h
theorem psC_six {l k1 a k2 b k3 c : List UInt8} (h : ¬ 100 < l.length) (h2 : pts 32 [] l = [k1, a, k2, b, k3, c]) : psC l = six k1 a k2 b k3 c := by unfold psC; rw [if_neg h, h2]
theorem psC_not {l : List UInt8} (h : ¬ 100 < l.length) (h2 : (pts 32 [] l).length ≠ 6) : psC l = ((0, 0, 0), 6) := by
  unfold psC
  rw [if_neg h]
  split
  · rename_i h3; rw [h3] at h2; exact absurd rfl h2
  · rfl
theorem six_kw {k1 a k2 b k3 c : List UInt8} (h : ¬ (k1 = kwB ∧ k2 = kwK ∧ k3 = kwL)) : six k1 a k2 b k3 c = ((0, 0, 0), 6) := if_neg h
theorem six_form {k1 a k2 b k3 c : List UInt8} (h : k1 = kwB ∧ k2 = kwK ∧ k3 = kwL) (h2 : ¬ (decL a = true ∧ decL b = true ∧ decL c = true)) : six k1 a k2 b k3 c = ((0, 0, 0), 6) := by unfold six; rw [if_pos h, if_neg h2]
theorem six_ok {k1 a k2 b k3 c : List UInt8} (h : k1 = kwB ∧ k2 = kwK ∧ k3 = kwL) (h2 : decL a = true ∧ decL b = true ∧ decL c = true) : six k1 a k2 b k3 c = okP a b c := by unfold six; rw [if_pos h, if_pos h2]
/-- a list of six -/
theorem six_of {α : Type} {l : List α} (h : l.length = 6) : ∃ a b c d e f, l = [a, b, c, d, e, f] := by
  match l, h with
  | [a, b, c, d, e, f], _ => exact ⟨a, b, c, d, e, f, rfl⟩
theorem dg_no32 (n : Int) : (32 : UInt8) ∉ dgL n := by
  intro h
  obtain ⟨h1, _⟩ := int_digits n
  obtain ⟨k, hk⟩ := List.mem_iff_getElem?.1 h
  rcases dec_at h1 hk with ⟨_, h2⟩ | h2
  · exact absurd h2 (by decide)
  · exact absurd h2 (by decide)
theorem pts_txC (b k l : Int) : pts 32 [] (txC b k l) = [kwB, dgL b, kwK, dgL k, kwL, dgL l] := by
  unfold txC
  rw [pts_app 32 _ _ _ (by decide), pts_app 32 _ _ _ (dg_no32 b), pts_app 32 _ _ _ (by decide), pts_app 32 _ _ _ (dg_no32 k), pts_app 32 _ _ _ (by decide), pts_no 32 _ _ (dg_no32 l)]
  simp
theorem dgL_le (n : Int) (h0 : -9223372036854775808 ≤ n) (h1 : n ≤ 9223372036854775807) : (dgL n).length ≤ 21 := by
  have := Dg_size n h0 h1
  have h : (Dg n).size = (dgL n).length := by show (Lib.itoa n).toArray.size = _; rw [List.size_toArray]; rfl
  omega
theorem txC_len {b k l : Int} (h : OkC b k l) : (txC b k l).length ≤ 90 := by
  unfold OkC at h
  have h1 := dgL_le b (by omega) (by omega)
  have h2 := dgL_le k (by omega) (by omega)
  have h3 := dgL_le l (by omega) (by omega)
  unfold txC kwB kwK kwL
  simp only [List.length_append, List.length_cons, List.length_nil]
  omega
/-- what is printed is read -/
theorem ps_txC {b k l : Int} (h : OkC b k l) : psC (txC b k l) = ((b, k, l), 0) := by
  rw [psC_six (by have := txC_len h; omega) (pts_txC b k l), six_ok ⟨rfl, rfl, rfl⟩ ⟨(int_digits b).1, (int_digits k).1, (int_digits l).1⟩]
  unfold okP
  rw [(int_digits b).2, (int_digits k).2, (int_digits l).2, if_pos h]
theorem pts_back' (d : UInt8) : ∀ (l cur x : List UInt8) (xs : List (List UInt8)), pts d cur l = x :: xs → cur ++ l = x ++ (xs.map (d :: ·)).flatten
  | [], cur, x, xs, h => by
    unfold pts at h
    injection h with h1 h2; subst h1 h2
    simp
  | c :: t, cur, x, xs, h => by
    by_cases hc : c = d
    · subst hc
      rw [pts_hit] at h
      injection h with h1 h2
      subst h1
      rcases hq : pts c [] t with _ | ⟨y, ys⟩
      · have := pts_len c t []
        rw [hq] at this
        simp at this
      · have := pts_back' c t [] y ys hq
        rw [List.nil_append] at this
        rw [← h2, hq, this]
        simp
    · rw [pts_other hc] at h
      have := pts_back' d t _ x xs h
      rw [← this]; simp
/-- what is read is printed -/
theorem txC_ps {s : List UInt8} {b k l : Int} (h : psC s = ((b, k, l), 0)) : OkC b k l ∧ txC b k l = s := by
  by_cases h1 : 100 < s.length
  · rw [psC_long h1] at h; cases h
  by_cases h2 : (pts 32 [] s).length = 6
  · obtain ⟨k1, x, k2, y, k3, z, h3⟩ := six_of h2
    rw [psC_six h1 h3] at h
    by_cases h4 : k1 = kwB ∧ k2 = kwK ∧ k3 = kwL
    · by_cases h5 : decL x = true ∧ decL y = true ∧ decL z = true
      · rw [six_ok h4 h5] at h
        unfold okP at h
        by_cases h6 : OkC (intL x) (intL y) (intL z)
        · rw [if_pos h6] at h
          injection h with h _
          injection h with e1 h; injection h with e2 e3
          subst e1 e2 e3
          refine ⟨h6, ?_⟩
          have hb := pts_back' 32 s [] _ _ h3
          rw [List.nil_append] at hb
          obtain ⟨rfl, rfl, rfl⟩ := h4
          unfold txC
          rw [digits_int h5.1, digits_int h5.2.1, digits_int h5.2.2, hb]
          simp
        · rw [if_neg h6] at h; cases h
      · rw [six_form h4 h5] at h; cases h
    · rw [six_kw h4] at h; cases h
  · rw [psC_not h1 h2] at h; cases h
/-- what Int says of the three parts, in either range -/
theorem intR_form {l : List UInt8} (h : decL l = false) (lo hi : Int) : intR l lo hi = (0, 6) := by unfold intR; rw [if_pos h]
theorem intR_out {l : List UInt8} (h : decL l = true) {lo hi : Int} (h2 : intL l < lo ∨ hi < intL l) : intR l lo hi = (0, 7) := by
  unfold intR; rw [if_neg (by simp [h]), if_pos (by omega)]
theorem intR_in {l : List UInt8} (h : decL l = true) {lo hi : Int} (h1 : -9223372036854775808 ≤ lo) (h2 : hi ≤ 9223372036854775807) (h3 : lo ≤ intL l) (h4 : intL l ≤ hi) : intR l lo hi = (intL l, 0) := by
  unfold intR; rw [if_neg (by simp [h]), if_neg (by omega)]
end Go.Proofs.YtljmidaapgppfaaDoor
