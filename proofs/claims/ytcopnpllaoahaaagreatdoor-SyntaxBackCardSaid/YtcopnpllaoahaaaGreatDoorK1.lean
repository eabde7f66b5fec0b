/- Sets of bytes as four words: plain words and their texts. No condition. -/
import Derived.Test.YtcopnpllaoahaaaGreatDoorOwn
namespace Go.Proofs.YtcopnpllaoahaaaGreatDoor
/-- a byte that has a backslash before it -/
def spK (b : UInt8) : Bool := b == 91 || b == 93 || b == 92 || b == 94 || b == 45
def plK (b : UInt8) : Bool := decide (33 ≤ b.toNat ∧ b.toNat ≤ 126)
def hxK (n : Nat) : UInt8 := UInt8.ofNat (if n < 10 then 48 + n else 87 + n)
/-- the text of a byte -/
def txK (b : UInt8) : List UInt8 := if spK b then [92, b] else if plK b then [b] else [92, 120, hxK (b.toNat / 16), hxK (b.toNat % 16)]
/-- the value of a hexadecimal digit, 16 if it is none -/
def vlK (c : UInt8) : Nat := if 48 ≤ c.toNat ∧ c.toNat ≤ 57 then c.toNat - 48 else if 97 ≤ c.toNat ∧ c.toNat ≤ 102 then c.toNat - 87 else 16
/-- the byte with whose text a text begins (none: there is none), and how many bytes that has (or the place of the fault) -/
def onK : List UInt8 → Option UInt8 × Nat
  | [] => (none, 0)
  | c :: r =>
    if c ≠ 92 then (if plK c && !spK c then (some c, 1) else (none, 0)) else
    match r with
    | [] => (none, 1)
    | d :: r2 =>
      if spK d then (some d, 2) else if d ≠ 120 then (none, 1) else
      match r2 with
      | [] => (none, 2)
      | x :: r3 =>
        if vlK x = 16 then (none, 2) else
        match r3 with
        | [] => (none, 3)
        | y :: _ => if vlK y = 16 then (none, 3) else (some (UInt8.ofNat (16 * vlK x + vlK y)), 4)
theorem onK_all : ∀ b : Fin 256, (onK (txK (UInt8.ofNat b))) = (some (UInt8.ofNat b), (txK (UInt8.ofNat b)).length) := by decide +kernel
theorem txK_shape (b : UInt8) : (∃ c, txK b = [92, c] ∧ spK c = true) ∨ (∃ c, txK b = [c] ∧ c ≠ 92 ∧ (plK c && !spK c) = true) ∨ (∃ x y, txK b = [92, 120, x, y] ∧ vlK x ≠ 16 ∧ vlK y ≠ 16) := by
  have key : ∀ k : Fin 256, (∃ c, txK (UInt8.ofNat k) = [92, c] ∧ spK c = true) ∨ (∃ c, txK (UInt8.ofNat k) = [c] ∧ c ≠ 92 ∧ (plK c && !spK c) = true) ∨ (∃ x y, txK (UInt8.ofNat k) = [92, 120, x, y] ∧ vlK x ≠ 16 ∧ vlK y ≠ 16) := by
    intro k
    by_cases h1 : spK (UInt8.ofNat k) = true
    · exact .inl ⟨_, by unfold txK; rw [if_pos h1], h1⟩
    by_cases h2 : plK (UInt8.ofNat k) = true
    · refine .inr (.inl ⟨_, by unfold txK; rw [if_neg h1, if_pos h2], ?_, by rw [h2]; simp only [Bool.not_eq_true] at h1; rw [h1]; rfl⟩)
      intro e; rw [e] at h1; exact h1 (by decide)
    · refine .inr (.inr ⟨_, _, by unfold txK; rw [if_neg h1, if_neg h2], ?_, ?_⟩)
      · revert k; decide +kernel
      · revert k; decide +kernel
  have hb := key ⟨b.toNat, b.toNat_lt⟩
  simpa using hb
/-- the text of a byte, and anything behind it -/
theorem onK_app (b : UInt8) (r : List UInt8) : onK (txK b ++ r) = (some b, (txK b).length) := by
  have h0 := onK_all ⟨b.toNat, b.toNat_lt⟩
  simp only [UInt8.ofNat_toNat] at h0
  rcases txK_shape b with ⟨c, e, h⟩ | ⟨c, e, h1, h2⟩ | ⟨x, y, e, h1, h2⟩
  · rw [e] at h0 ⊢
    simp only [onK, List.cons_append, List.nil_append] at h0 ⊢
    simpa [h] using h0
  · rw [e] at h0 ⊢
    simp only [onK, List.cons_append, List.nil_append] at h0 ⊢
    simpa [h1, h2] using h0
  · rw [e] at h0 ⊢
    simp only [onK, List.cons_append, List.nil_append] at h0 ⊢
    simpa [h1, h2] using h0
theorem txK_head (b : UInt8) : ∃ c r, txK b = c :: r ∧ c ≠ 45 ∧ c ≠ 93 ∧ c ≠ 94 := by
  rcases txK_shape b with ⟨c, e, _⟩ | ⟨c, e, h1, h2⟩ | ⟨x, y, e, _⟩
  · exact ⟨_, _, e, by decide, by decide, by decide⟩
  · refine ⟨_, _, e, ?_, ?_, ?_⟩
    · rintro rfl; revert h2; decide
    · rintro rfl; revert h2; decide
    · rintro rfl; revert h2; decide
  · exact ⟨_, _, e, by decide, by decide, by decide⟩
/-! runs of a set -/
def stK (out : List (Nat × Nat)) (b : Nat) : List (Nat × Nat) :=
  match out.getLast? with
  | some q => if q.2 + 1 = b then out.dropLast ++ [(q.1, b)] else out ++ [(b, b)]
  | none => [(b, b)]
def mbK (f : Nat → Bool) : List Nat := (List.range 256).filter f
def rnK (l : List Nat) : List (Nat × Nat) := l.foldl stK []
def inK (rs : List (Nat × Nat)) (i : Nat) : Bool := rs.any fun q => decide (q.1 ≤ i ∧ i ≤ q.2)
def OkK (rs : List (Nat × Nat)) : Prop := ∀ q ∈ rs, q.1 ≤ q.2 ∧ q.2 < 256
theorem inK_app (a b : List (Nat × Nat)) (i : Nat) : inK (a ++ b) i = (inK a i || inK b i) := List.any_append
theorem stK_ok {out : List (Nat × Nat)} (h : OkK out) {b : Nat} (hb : b < 256) : OkK (stK out b) ∧ ∀ i, inK (stK out b) i = (inK out i || decide (i = b)) := by
  unfold stK
  rcases hl : out.getLast? with _ | ⟨x, y⟩
  · obtain rfl := List.getLast?_eq_none_iff.1 hl
    refine ⟨fun q hq => ?_, fun i => ?_⟩
    · rw [List.mem_singleton.1 hq]; exact ⟨Nat.le_refl _, hb⟩
    · simp [inK]; rw [Bool.eq_iff_iff]; simp; omega
  · obtain ⟨ini, rfl⟩ := List.getLast?_eq_some_iff.1 hl
    simp only
    have h0 := h (x, y) (by simp)
    by_cases e : y + 1 = b
    · rw [if_pos e, List.dropLast_concat]
      refine ⟨fun q hq => ?_, fun i => ?_⟩
      · rcases List.mem_append.1 hq with hq | hq
        · exact h q (by simp [hq])
        · rw [List.mem_singleton.1 hq]; simp only at h0 ⊢; omega
      · rw [inK_app, inK_app, Bool.or_assoc]
        congr 1
        simp only [inK, List.any_cons, List.any_nil, Bool.or_false]
        rw [Bool.eq_iff_iff]
        simp only [Bool.or_eq_true, decide_eq_true_eq]
        simp only at h0
        omega
    · rw [if_neg e]
      refine ⟨fun q hq => ?_, fun i => ?_⟩
      · rcases List.mem_append.1 hq with hq | hq
        · exact h q hq
        · rw [List.mem_singleton.1 hq]; exact ⟨Nat.le_refl _, hb⟩
      · rw [inK_app]
        congr 1
        simp only [inK, List.any_cons, List.any_nil, Bool.or_false]
        rw [Bool.eq_iff_iff]
        simp only [decide_eq_true_eq]
        omega
theorem rnK_ok : ∀ (l : List Nat) (out : List (Nat × Nat)), OkK out → (∀ b ∈ l, b < 256) → OkK (l.foldl stK out) ∧ ∀ i, inK (l.foldl stK out) i = (inK out i || decide (i ∈ l))
  | [], out, h, _ => ⟨h, fun i => by simp⟩
  | b :: t, out, h, hl => by
    obtain ⟨h1, h2⟩ := stK_ok h (hl b List.mem_cons_self)
    obtain ⟨h3, h4⟩ := rnK_ok t _ h1 fun c hc => hl c (List.mem_cons_of_mem _ hc)
    refine ⟨h3, fun i => ?_⟩
    rw [List.foldl_cons, h4, h2, Bool.or_assoc]
    congr 1
    rw [Bool.eq_iff_iff]
    simp
/-- the runs of a set are the set -/
theorem runs_in (f : Nat → Bool) : OkK (rnK (mbK f)) ∧ ∀ i, i < 256 → inK (rnK (mbK f)) i = f i := by
  obtain ⟨h1, h2⟩ := rnK_ok (mbK f) [] (fun _ h => by cases h) (fun b hb => by have := (List.mem_filter.1 hb).1; simpa using this)
  refine ⟨h1, fun i hi => ?_⟩
  unfold rnK
  rw [h2]
  rw [Bool.eq_iff_iff]
  simp [inK, mbK, hi]
/-! the text of a set -/
def bK (n : Nat) : UInt8 := UInt8.ofNat n
def itK (q : Nat × Nat) : List UInt8 := txK (bK q.1) ++ ((if 2 ≤ q.2 - q.1 then [45] else []) ++ (if q.1 < q.2 then txK (bK q.2) else []))
def prK (f : Nat → Bool) : List UInt8 :=
  if 128 < (mbK f).length then 91 :: 94 :: ((rnK (mbK fun i => !f i)).flatMap itK ++ [93]) else 91 :: ((rnK (mbK f)).flatMap itK ++ [93])
/-- the items of a text, from a place on -/
def pxK : Nat → List UInt8 → Nat → (Nat → Bool) → (Nat → Bool) × Nat × Int
  | 0, _, at_, _ => (fun _ => false, at_, 6)
  | n + 1, t, at_, acc =>
    match t with
    | [] => (fun _ => false, at_, 6)
    | c :: _ =>
      if c = 93 then (acc, at_ + 1, 0) else
      match onK t with
      | (none, k) => (fun _ => false, at_ + k, 6)
      | (some lo, k) =>
        if (t.drop k).head? = some 45 then
          match onK (t.drop (k + 1)) with
          | (none, k2) => (fun _ => false, at_ + k + 1 + k2, 6)
          | (some hi, k2) => if hi.toNat < lo.toNat then (fun _ => false, at_ + k + 1, 6) else pxK n (t.drop (k + 1 + k2)) (at_ + k + 1 + k2) fun i => acc i || decide (lo.toNat ≤ i ∧ i ≤ hi.toNat)
        else pxK n (t.drop k) (at_ + k) fun i => acc i || decide (lo.toNat ≤ i ∧ i ≤ lo.toNat)
theorem pxK_one (n : Nat) (b : UInt8) (r : List UInt8) (at_ : Nat) (acc : Nat → Bool) (h : r.head? ≠ some 45) : pxK (n + 1) (txK b ++ r) at_ acc = pxK n r (at_ + (txK b).length) fun i => acc i || decide (b.toNat ≤ i ∧ i ≤ b.toNat) := by
  obtain ⟨c, r0, e, _, h93, _⟩ := txK_head b
  have hon := onK_app b r
  have hd : (txK b ++ r).drop (txK b).length = r := List.drop_left
  generalize (txK b).length = k at *
  rw [e, List.cons_append] at hon hd ⊢
  rw [pxK]
  rw [if_neg h93, hon]
  simp only
  rw [hd, if_neg h]
theorem pxK_two (n : Nat) (b d : UInt8) (r : List UInt8) (at_ : Nat) (acc : Nat → Bool) (hbd : b.toNat ≤ d.toNat) : pxK (n + 1) (txK b ++ 45 :: (txK d ++ r)) at_ acc = pxK n r (at_ + (txK b).length + 1 + (txK d).length) fun i => acc i || decide (b.toNat ≤ i ∧ i ≤ d.toNat) := by
  obtain ⟨c, r0, e, _, h93, _⟩ := txK_head b
  have hon := onK_app b (45 :: (txK d ++ r))
  have hon2 := onK_app d r
  have hd : (txK b ++ 45 :: (txK d ++ r)).drop (txK b).length = 45 :: (txK d ++ r) := List.drop_left
  have hd1 : (txK b ++ 45 :: (txK d ++ r)).drop ((txK b).length + 1) = txK d ++ r := by rw [← List.drop_drop, hd]; rfl
  have hd2 : (txK b ++ 45 :: (txK d ++ r)).drop ((txK b).length + 1 + (txK d).length) = r := by rw [← List.drop_drop, hd1]; exact List.drop_left
  generalize (txK b).length = k at *
  generalize (txK d).length = k2 at *
  rw [e, List.cons_append] at hon hd hd1 hd2 ⊢
  rw [pxK]
  rw [if_neg h93, hon]
  simp only
  rw [hd, if_pos (by rfl), hd1, hon2]
  simp only
  rw [if_neg (by omega), hd2]
theorem items_head (rs : List (Nat × Nat)) (r : List UInt8) : ∃ c t, rs.flatMap itK ++ 93 :: r = c :: t ∧ c ≠ 45 ∧ c ≠ 94 := by
  cases rs with
  | nil => exact ⟨93, r, rfl, by decide, by decide⟩
  | cons q t =>
    obtain ⟨c, r0, e, h1, _, h2⟩ := txK_head (bK q.1)
    refine ⟨c, r0 ++ ((if 2 ≤ q.2 - q.1 then [45] else []) ++ (if q.1 < q.2 then txK (bK q.2) else []) ++ (t.flatMap itK ++ 93 :: r)), ?_, h1, h2⟩
    rw [List.flatMap_cons]
    unfold itK
    rw [e]
    simp
theorem bK_nat {n : Nat} (h : n < 256) : (bK n).toNat = n := by unfold bK; simp; omega
theorem txK_pos (b : UInt8) : 1 ≤ (txK b).length := by
  obtain ⟨c, r, e, _⟩ := txK_head b
  rw [e]; simp
theorem pxK_items : ∀ (rs : List (Nat × Nat)), OkK rs → ∀ (n at_ : Nat) (acc : Nat → Bool) (r : List UInt8), (rs.flatMap itK).length + 1 ≤ n →
    pxK n (rs.flatMap itK ++ 93 :: r) at_ acc = ((fun i => acc i || inK rs i), at_ + (rs.flatMap itK).length + 1, 0)
  | [], _, n, at_, acc, r, hn => by
    obtain ⟨n, rfl⟩ : ∃ n', n = n' + 1 := ⟨n - 1, by simp at hn; omega⟩
    simp only [List.flatMap_nil, List.nil_append]
    rw [pxK, if_pos rfl]
    simp [inK]
  | (x, y) :: t, h, n, at_, acc, r, hn => by
    have h0 := h (x, y) List.mem_cons_self
    simp only at h0
    have ht : OkK t := fun q hq => h q (List.mem_cons_of_mem _ hq)
    have ih := pxK_items t ht
    obtain ⟨c, u, e, hc, _⟩ := items_head t r
    have hh : (t.flatMap itK ++ 93 :: r).head? ≠ some 45 := by rw [e]; simpa using hc
    have hx := bK_nat (n := x) (by omega)
    have hy := bK_nat (n := y) (by omega)
    have p1 := txK_pos (bK x)
    have p2 := txK_pos (bK y)
    rw [List.flatMap_cons] at hn ⊢
    rw [List.length_append] at hn ⊢
    have hin : ∀ i, inK ((x, y) :: t) i = (decide (x ≤ i ∧ i ≤ y) || inK t i) := fun i => rfl
    by_cases h1 : x = y
    · subst h1
      have ei : itK (x, x) = txK (bK x) := by unfold itK; simp
      rw [ei] at hn ⊢
      obtain ⟨n, rfl⟩ : ∃ n', n = n' + 1 := ⟨n - 1, by omega⟩
      rw [List.append_assoc, pxK_one _ _ _ _ _ hh, ih _ _ _ _ (by omega)]
      refine Prod.ext ?_ (Prod.ext ?_ rfl)
      · funext i
        simp only [hx, hin, Bool.or_assoc]
      · simp only; omega
    by_cases h2 : y = x + 1
    · subst h2
      have ei : itK (x, x + 1) = txK (bK x) ++ txK (bK (x + 1)) := by
        unfold itK
        rw [if_neg (by simp only; omega), if_pos (by simp only; omega)]; rfl
      rw [ei] at hn ⊢
      rw [List.length_append] at hn ⊢
      obtain ⟨n, rfl⟩ : ∃ n', n = n' + 1 + 1 := ⟨n - 2, by omega⟩
      obtain ⟨c2, u2, e2, hc2, _⟩ := txK_head (bK (x + 1))
      have hh2 : (txK (bK (x + 1)) ++ (t.flatMap itK ++ 93 :: r)).head? ≠ some 45 := by rw [e2]; simpa using hc2
      rw [List.append_assoc, List.append_assoc, pxK_one _ _ _ _ _ hh2, pxK_one _ _ _ _ _ hh, ih _ _ _ _ (by omega)]
      refine Prod.ext ?_ (Prod.ext ?_ rfl)
      · funext i
        simp only [hx, hy, hin]
        rw [Bool.eq_iff_iff]
        simp only [Bool.or_eq_true, decide_eq_true_eq]
        by_cases hi : x ≤ i ∧ i ≤ x + 1
        · have : (x ≤ i ∧ i ≤ x) ∨ (x + 1 ≤ i ∧ i ≤ x + 1) := by omega
          simp only [hi, true_and, true_or, or_true, and_self]
          rcases this with h | h <;> simp [h]
        · have h3 : ¬ (x ≤ i ∧ i ≤ x) := by omega
          have h4 : ¬ (x + 1 ≤ i ∧ i ≤ x + 1) := by omega
          simp only [h3, h4, hi, or_false, false_or]
      · simp only; omega
    · have ei : itK (x, y) = txK (bK x) ++ 45 :: txK (bK y) := by
        unfold itK
        rw [if_pos (by simp only; omega), if_pos (by simp only; omega)]; rfl
      rw [ei] at hn ⊢
      rw [List.length_append, List.length_cons] at hn ⊢
      obtain ⟨n, rfl⟩ : ∃ n', n = n' + 1 := ⟨n - 1, by omega⟩
      have ea : txK (bK x) ++ 45 :: txK (bK y) ++ t.flatMap itK ++ 93 :: r = txK (bK x) ++ 45 :: (txK (bK y) ++ (t.flatMap itK ++ 93 :: r)) := by simp
      rw [ea, pxK_two _ _ _ _ _ _ (by omega), ih _ _ _ _ (by omega)]
      refine Prod.ext ?_ (Prod.ext ?_ rfl)
      · funext i
        simp only [hx, hy, hin, Bool.or_assoc]
      · simp only; omega
/-- the set with whose text a text begins: the set, the number of its bytes (or the place of the fault), the error -/
def pfK : List UInt8 → (Nat → Bool) × Nat × Int
  | 91 :: 94 :: r => if (pxK (r.length + 1) r 2 fun _ => false).2.2 = 0 then ((fun i => !(pxK (r.length + 1) r 2 fun _ => false).1 i), (pxK (r.length + 1) r 2 fun _ => false).2) else pxK (r.length + 1) r 2 fun _ => false
  | 91 :: r => pxK (r.length + 1) r 1 fun _ => false
  | _ => (fun _ => false, 0, 6)
/-- Prefix of Print is the set -/
theorem pf_pr (f : Nat → Bool) (r : List UInt8) : ∃ g, pfK (prK f ++ r) = (g, (prK f).length, 0) ∧ ∀ i, i < 256 → g i = f i := by
  unfold prK
  by_cases h : 128 < (mbK f).length
  · rw [if_pos h]
    obtain ⟨h1, h2⟩ := runs_in fun i => !f i
    generalize rnK (mbK fun i => !f i) = rs at *
    have hp := pxK_items rs h1 ((rs.flatMap itK ++ 93 :: r).length + 1) 2 (fun _ => false) r (by simp)
    refine ⟨fun i => !inK rs i, ?_, fun i hi => by show (!inK rs i) = f i; rw [h2 i hi]; simp⟩
    have e : (91 :: 94 :: (rs.flatMap itK ++ [93])) ++ r = 91 :: 94 :: (rs.flatMap itK ++ 93 :: r) := by simp
    rw [e, pfK, hp]
    simp only [if_true, Bool.false_or]
    refine Prod.ext rfl (Prod.ext ?_ rfl)
    simp; omega
  · rw [if_neg h]
    obtain ⟨h1, h2⟩ := runs_in f
    generalize rnK (mbK f) = rs at *
    have hp := pxK_items rs h1 ((rs.flatMap itK ++ 93 :: r).length + 1) 1 (fun _ => false) r (by simp)
    obtain ⟨c, u, ec, _, hc⟩ := items_head rs r
    refine ⟨fun i => inK rs i, ?_, h2⟩
    have e : (91 :: (rs.flatMap itK ++ [93])) ++ r = 91 :: (rs.flatMap itK ++ 93 :: r) := by simp
    rw [e]
    rw [ec] at hp ⊢
    rw [pfK, hp]
    · refine Prod.ext (by funext i; simp) (Prod.ext ?_ rfl)
      simp; omega
    · intro v hv
      injection hv with hv _
      exact hc hv
end Go.Proofs.YtcopnpllaoahaaaGreatDoor
