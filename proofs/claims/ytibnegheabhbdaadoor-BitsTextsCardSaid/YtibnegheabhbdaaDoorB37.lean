/- Rows of bits, plain: what Parse of the reference goes by: the places of a text, and the row after i places. No condition. -/
import Derived.Test.YtibnegheabhbdaaDoorB35
namespace Go.Proofs.YtibnegheabhbdaaDoor
open Go.RowKit
/-- the place j of a text is as in a row's text -/
def posOk (l : List UInt8) (j : Nat) : Prop := if j % 17 = 16 then l.getD j 0 = 46 else isHx (l.getD j 0) = true
def okR (l : List UInt8) : Prop := (l.length + 1) % 17 = 0 ∧ l.length ≠ 0 ∧ ∀ j, j < l.length → posOk l j
def chk (n : Nat) (l : List UInt8) : List (List UInt8) := (List.range n).map fun k => (l.drop (17 * k)).take 16
theorem chk_succ (n : Nat) (l : List UInt8) : chk (n + 1) l = l.take 16 :: chk n (l.drop 17) := by
  unfold chk
  rw [List.range_succ_eq_map, List.map_cons, List.map_map, Nat.mul_zero, List.drop_zero]
  congr 1
  apply List.map_congr_left
  intro k _
  show (l.drop (17 * (k + 1))).take 16 = ((l.drop 17).drop (17 * k)).take 16
  rw [List.drop_drop, show 17 + 17 * k = 17 * (k + 1) by omega]
theorem getD_drop (l : List UInt8) (a j : Nat) : (l.drop a).getD j 0 = l.getD (a + j) 0 := by simp [List.getD_eq_getElem?_getD]
theorem posOk_drop (l : List UInt8) (j : Nat) : posOk (l.drop 17) j ↔ posOk l (17 + j) := by
  unfold posOk
  rw [getD_drop, show (17 + j) % 17 = j % 17 by omega]
theorem all_take {l : List UInt8} {n : Nat} (hn : n ≤ 16) (hl : n ≤ l.length) (h : ∀ j, j < n → posOk l j) : ∀ c ∈ l.take n, isHx c = true := by
  intro c hc
  obtain ⟨j, hj, rfl⟩ := List.getElem_of_mem hc
  rw [List.length_take] at hj
  have := h j (by omega)
  unfold posOk at this
  rw [if_neg (by omega), List.getD_eq_getElem?_getD, List.getElem?_eq_getElem (by omega)] at this
  simpa using this
theorem word_of {l : List UInt8} (hl : l.length = 16) (h : ∀ c ∈ l, isHx c = true) : wordB l = true := by
  unfold wordB
  rw [hl, List.all_eq_true.2 h]
  rfl
theorem okR_all : ∀ (n : Nat) (l : List UInt8), l.length ≤ n → okR l → (flds l).all wordB = true ∧ flds l = chk ((l.length + 1) / 17) l := by
  intro n
  induction n with
  | zero => intro l hl h; exact absurd (Nat.le_zero.1 hl) h.2.1
  | succ n ih =>
    intro l hl h
    obtain ⟨h1, h2, h3⟩ := h
    have hp := all_take (n := 16) (l := l) (by omega) (by omega) fun j hj => h3 j (by omega)
    have hpl : (l.take 16).length = 16 := by rw [List.length_take]; omega
    have hw := word_of hpl hp
    by_cases h16 : l.length = 16
    · have e : l.take 16 = l := List.take_of_length_le (by omega)
      have hf : flds l = [l] := by
        unfold flds
        rw [fld_none l [] (by rw [← e]; exact wordB_dot hw)]
        rfl
      rw [e] at hw
      refine ⟨by rw [hf]; simp [hw], ?_⟩
      rw [hf, h16]
      show [l] = chk (0 + 1) l
      rw [chk_succ, e]
      rfl
    · have h46 := h3 16 (by omega)
      unfold posOk at h46
      rw [if_pos (by rfl)] at h46
      have hsp : l = l.take 16 ++ 46 :: l.drop 17 := by
        have e := List.drop_eq_getElem_cons (l := l) (i := 16) (by omega)
        have e2 : l[16]'(by omega) = 46 := by
          rw [List.getD_eq_getElem?_getD, List.getElem?_eq_getElem (by omega)] at h46
          simpa using h46
        rw [e2] at e
        rw [← e, List.take_append_drop]
      have hf : flds l = l.take 16 :: flds (l.drop 17) := by
        conv => lhs; rw [hsp]
        unfold flds
        rw [fld_app _ [] _ (wordB_dot hw)]
        rfl
      have hdl : (l.drop 17).length = l.length - 17 := List.length_drop
      have hr : okR (l.drop 17) := ⟨by omega, by omega, fun j hj => (posOk_drop l j).2 (h3 _ (by omega))⟩
      obtain ⟨i1, i2⟩ := ih (l.drop 17) (by omega) hr
      refine ⟨by rw [hf, List.all_cons, hw, i1]; rfl, ?_⟩
      rw [hf, show (l.length + 1) / 17 = ((l.drop 17).length + 1) / 17 + 1 by omega, chk_succ, ← i2]
theorem all_okR : ∀ (n : Nat) (l : List UInt8), l.length ≤ n → (flds l).all wordB = true → okR l := by
  intro n
  induction n with
  | zero =>
    intro l hl h
    have : l = [] := List.eq_nil_of_length_eq_zero (Nat.le_zero.1 hl)
    rw [this] at h
    exact absurd h (by decide)
  | succ n ih =>
    intro l hl h
    rcases flds_cases l with ⟨_, e⟩ | ⟨p, r, e1, _, e2⟩
    · rw [e] at h
      have hw : wordB l = true := by simpa using h
      have h16 := (wordB_ok hw).1
      unfold wordB at hw
      rw [Bool.and_eq_true] at hw
      refine ⟨by omega, by omega, fun j hj => ?_⟩
      unfold posOk
      rw [if_neg (by omega), List.getD_eq_getElem?_getD, List.getElem?_eq_getElem hj]
      exact List.all_eq_true.1 hw.2 _ (List.getElem_mem hj)
    · rw [e2, List.all_cons, Bool.and_eq_true] at h
      have h16 := (wordB_ok h.1).1
      have hll : l.length = 17 + r.length := by rw [e1, List.length_append, List.length_cons]; omega
      obtain ⟨k1, k2, k3⟩ := ih r (by omega) h.2
      have hw := h.1
      unfold wordB at hw
      rw [Bool.and_eq_true] at hw
      have hd : l.drop 17 = r := by
        rw [e1, List.drop_append, List.drop_of_length_le (by omega), h16]
        rfl
      refine ⟨by omega, by omega, fun j hj => ?_⟩
      by_cases hj17 : 17 ≤ j
      · have := k3 (j - 17) (by omega)
        rw [← hd, posOk_drop, show 17 + (j - 17) = j by omega] at this
        exact this
      · unfold posOk
        by_cases hj16 : j = 16
        · subst hj16
          rw [if_pos rfl, e1, List.getD_eq_getElem?_getD, List.getElem?_append_right (by omega), h16]
          rfl
        · have hjp : j < p.length := by omega
          rw [if_neg (by omega), e1, List.getD_eq_getElem?_getD, List.getElem?_append_left hjp, List.getElem?_eq_getElem hjp]
          exact List.all_eq_true.1 hw.2 _ (List.getElem_mem hjp)
theorem psE_iff {l : List UInt8} (hl : l.length ≤ 135) : psE l = 0 ↔ okR l := by
  constructor
  · intro h
    exact all_okR _ l (Nat.le_refl _) (psE_zero h).2
  · intro h
    unfold psE
    rw [if_neg (by omega), if_pos (okR_all _ l (Nat.le_refl _) h).1]
theorem psE_bad {l : List UInt8} (hl : l.length ≤ 135) (h : ¬ okR l) : psE l = 6 ∧ psV l = [] := by
  have h6 : psE l = 6 := by
    rcases psE_cases l with h0 | h0 | h0
    · exact absurd ((psE_iff hl).1 h0) h
    · unfold psE at h0
      rw [if_neg (by omega)] at h0
      split at h0 <;> cases h0
    · exact h0
  exact ⟨h6, by unfold psV; rw [if_neg (by rw [h6]; decide)]⟩
/-- word k after i places -/
def wkR (l : List UInt8) (i k : Nat) : Nat := valB ((l.drop (17 * k)).take (min 16 (i - 17 * k)))
def rowR (l : List UInt8) (n i : Nat) : List Nat := (List.range n).map fun m => wkR l i (n - 1 - m)
theorem rowR_len (l : List UInt8) (n i : Nat) : (rowR l n i).length = n := by simp [rowR]
theorem rowR_get {l : List UInt8} {n i m : Nat} (h : m < n) : (rowR l n i)[m]? = some (wkR l i (n - 1 - m)) := by simp [rowR, h]
theorem rowR_zero (l : List UInt8) (n : Nat) : rowR l n 0 = List.replicate n 0 := by
  apply List.ext_getElem?
  intro m
  by_cases h : m < n
  · rw [rowR_get h]
    simp [h, wkR, valB]
  · rw [List.getElem?_eq_none (by rw [rowR_len]; omega), List.getElem?_eq_none (by simp; omega)]
theorem rowR_dot {l : List UInt8} {n i : Nat} (hi : i % 17 = 16) : rowR l n (i + 1) = rowR l n i := by
  unfold rowR
  apply List.map_congr_left
  intro m _
  unfold wkR
  have : min 16 (i + 1 - 17 * (n - 1 - m)) = min 16 (i - 17 * (n - 1 - m)) := by omega
  rw [this]
theorem wkR_step {l : List UInt8} {i : Nat} (hi : i < l.length) (hr : i % 17 ≠ 16) : wkR l (i + 1) (i / 17) = wkR l i (i / 17) * 16 + hv (l.getD i 0) := by
  unfold wkR
  have e1 : min 16 (i + 1 - 17 * (i / 17)) = i % 17 + 1 := by omega
  have e2 : min 16 (i - 17 * (i / 17)) = i % 17 := by omega
  have hlen : i % 17 < (l.drop (17 * (i / 17))).length := by rw [List.length_drop]; omega
  rw [e1, e2, List.take_succ_eq_append_getElem hlen, valB_snoc]
  congr 2
  rw [List.getElem_drop, List.getD_eq_getElem?_getD, List.getElem?_eq_getElem hi]
  simp only [Option.getD_some, show 17 * (i / 17) + i % 17 = i by omega]
theorem rowR_step {l : List UInt8} {n i : Nat} (hi : i < l.length) (hr : i % 17 ≠ 16) (hn : i / 17 < n) : rowR l n (i + 1) = (rowR l n i).set (n - 1 - i / 17) (wkR l i (i / 17) * 16 + hv (l.getD i 0)) := by
  apply List.ext_getElem?
  intro m
  by_cases h : m < n
  · rw [rowR_get h, List.getElem?_set]
    by_cases hm : n - 1 - i / 17 = m
    · rw [if_pos hm, if_pos (by rw [rowR_len]; omega), ← wkR_step hi hr, show n - 1 - m = i / 17 by omega]
    · rw [if_neg hm, rowR_get h]
      congr 1
      unfold wkR
      have : min 16 (i + 1 - 17 * (n - 1 - m)) = min 16 (i - 17 * (n - 1 - m)) := by omega
      rw [this]
  · rw [List.getElem?_eq_none (by rw [rowR_len]; omega), List.getElem?_eq_none (by rw [List.length_set, rowR_len]; omega)]
theorem valB_bound : ∀ (l : List UInt8), (∀ c ∈ l, isHx c = true) → valB l < 16 ^ l.length := by
  intro l
  have key : ∀ (m : List UInt8) (acc : Nat), (∀ c ∈ m, isHx c = true) → m.foldl (fun n c => n * 16 + hv c) acc < (acc + 1) * 16 ^ m.length := by
    intro m
    induction m with
    | nil => intro acc _; simp
    | cons c r ih =>
      intro acc hm
      have h2 := (hex_yes (hm c List.mem_cons_self)).2.1
      have := ih (acc * 16 + hv c) fun x hx => hm x (List.mem_cons_of_mem _ hx)
      rw [List.foldl_cons, List.length_cons, Nat.pow_succ]
      refine Nat.lt_of_lt_of_le this ?_
      rw [Nat.mul_comm (16 ^ r.length) 16, ← Nat.mul_assoc]
      exact Nat.mul_le_mul_right _ (by omega)
  intro h
  have := key l 0 h
  rw [Nat.zero_add, Nat.one_mul] at this
  exact this
theorem wkR_lt {l : List UInt8} {i : Nat} (hi : i ≤ l.length) (h : ∀ j, j < i → posOk l j) (k : Nat) : wkR l i k < 18446744073709551616 := by
  unfold wkR
  have hall : ∀ c ∈ (l.drop (17 * k)).take (min 16 (i - 17 * k)), isHx c = true := by
    intro c hc
    obtain ⟨j, hj, rfl⟩ := List.getElem_of_mem hc
    rw [List.length_take, List.length_drop] at hj
    have := h (17 * k + j) (by omega)
    unfold posOk at this
    rw [if_neg (by omega), List.getD_eq_getElem?_getD, List.getElem?_eq_getElem (by omega)] at this
    simpa using this
  have hb := valB_bound _ hall
  have hlen : ((l.drop (17 * k)).take (min 16 (i - 17 * k))).length ≤ 16 := by rw [List.length_take]; omega
  have hp := Nat.pow_le_pow_right (n := 16) (by omega) hlen
  rw [p16] at hp
  omega
theorem rowR_w {l : List UInt8} {n i : Nat} (hi : i ≤ l.length) (h : ∀ j, j < i → posOk l j) : W64 (rowR l n i) := by
  intro x hx
  unfold rowR at hx
  obtain ⟨m, _, rfl⟩ := List.mem_map.1 hx
  exact wkR_lt hi h _
theorem rowR_end {l : List UInt8} (hl : l.length ≤ 135) (h : okR l) : rowR l ((l.length + 1) / 17) l.length = psV l := by
  have h0 := (psE_iff hl).2 h
  obtain ⟨_, hc⟩ := okR_all _ l (Nat.le_refl _) h
  unfold psV
  rw [if_pos h0, hc]
  have h1 := h.1
  generalize hn : (l.length + 1) / 17 = n
  apply List.ext_getElem?
  intro m
  by_cases hm : m < n
  · rw [rowR_get hm, List.getElem?_reverse (by simp [chk]; omega)]
    simp only [List.length_map, chk, List.length_range]
    rw [List.getElem?_map, List.getElem?_map, List.getElem?_range (by omega)]
    simp only [Option.map_some]
    congr 1
    unfold wkR
    have : min 16 (l.length - 17 * (n - 1 - m)) = 16 := by omega
    rw [this]
  · rw [List.getElem?_eq_none (by rw [rowR_len]; omega), List.getElem?_eq_none (by simp [chk]; omega)]
end Go.Proofs.YtibnegheabhbdaaDoor
