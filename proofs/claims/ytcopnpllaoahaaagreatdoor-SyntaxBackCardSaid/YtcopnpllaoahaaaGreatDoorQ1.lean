/- Plain laws of quoted forms. No program. -/
import Derived.Test.YtcopnpllaoahaaaGreatDoorW1
namespace Go.Proofs.YtcopnpllaoahaaaGreatDoor
open Go.RowKit
def hexV (c : UInt8) : Option Nat := if 48 ≤ c.toNat ∧ c.toNat ≤ 57 then some (c.toNat - 48) else if 97 ≤ c.toNat ∧ c.toNat ≤ 102 then some (c.toNat - 87) else none
/-- the byte of an escape by two digits -/
def unescX : List UInt8 → Option (UInt8 × Nat)
  | h :: l :: _ => (match hexV h, hexV l with
    | some a, some b => if plainB (UInt8.ofNat (a * 16 + b)) = true ∨ letB (UInt8.ofNat (a * 16 + b)) ≠ 0 then none else some (UInt8.ofNat (a * 16 + b), 3)
    | _, _ => none)
  | _ => none
/-- the byte of an escape behind its backslash, and its length -/
def unesc : List UInt8 → Option (UInt8 × Nat)
  | [] => none
  | x :: r => if x = 34 then some (34, 1) else if x = 92 then some (92, 1) else if x = 110 then some (10, 1) else if x = 114 then some (13, 1) else if x = 116 then some (9, 1)
    else if x = 120 then unescX r else none
/-- the byte whose form stands at the head, and the form's length -/
def headQ : List UInt8 → Option (UInt8 × Nat)
  | [] => none
  | x :: r => if x = 92 then (unesc r).map fun p => (p.1, p.2 + 1) else if plainB x = true then some (x, 1) else none
/-- what stands up to the closing sign -/
def unq : Nat → List UInt8 → Option (List UInt8 × Nat)
  | 0, _ => none
  | _ + 1, [] => none
  | f + 1, x :: r => if x = 34 then some ([], 1) else match headQ (x :: r) with
    | none => none
    | some (c, n) => (unq f ((x :: r).drop n)).map fun p => (c :: p.1, p.2 + n)
def unquoteL (l : List UInt8) : List UInt8 × Nat := match l with
  | [] => ([], 0)
  | x :: r => if x = 34 then (match unq (r.length + 1) r with
    | none => ([], 0)
    | some (b, k) => (b, k + 1)) else ([], 0)
theorem u8_all {P : UInt8 → Prop} (h : ∀ n : Nat, n < 256 → P (UInt8.ofNat n)) (c : UInt8) : P c := by
  have := h c.toNat c.toNat_lt
  rwa [UInt8.ofNat_toNat] at this
theorem hexV_hexB (n : Nat) (h : n < 16) : hexV (hexB n) = some n := by
  have : ∀ n : Nat, n < 16 → hexV (hexB n) = some n := by decide +kernel
  exact this n h
theorem hexB_hexV (c : UInt8) (a : Nat) (h : hexV c = some a) : a < 16 ∧ hexB a = c := by
  have : ∀ n : Nat, n < 256 → ∀ a, hexV (UInt8.ofNat n) = some a → a < 16 ∧ hexB a = UInt8.ofNat n := by
    have : ∀ n : Nat, n < 256 → (hexV (UInt8.ofNat n)).all (fun a => decide (a < 16) && hexB a == UInt8.ofNat n) = true := by decide +kernel
    intro n hn a ha
    have := this n hn
    rw [ha] at this
    simpa using this
  exact u8_all (P := fun c => ∀ a, hexV c = some a → a < 16 ∧ hexB a = c) this c a h
theorem plain_ne (c : UInt8) (h : plainB c = true) : c ≠ 34 ∧ c ≠ 92 := by
  have : ∀ n : Nat, n < 256 → plainB (UInt8.ofNat n) = true → UInt8.ofNat n ≠ 34 ∧ UInt8.ofNat n ≠ 92 := by decide +kernel
  exact u8_all (P := fun c => plainB c = true → c ≠ 34 ∧ c ≠ 92) this c h
theorem let_vals (c : UInt8) (h : letB c ≠ 0) : (c = 34 ∧ letB c = 34) ∨ (c = 92 ∧ letB c = 92) ∨ (c = 10 ∧ letB c = 110) ∨ (c = 13 ∧ letB c = 114) ∨ (c = 9 ∧ letB c = 116) := by
  have : ∀ n : Nat, n < 256 → letB (UInt8.ofNat n) ≠ 0 → (UInt8.ofNat n = 34 ∧ letB (UInt8.ofNat n) = 34) ∨ (UInt8.ofNat n = 92 ∧ letB (UInt8.ofNat n) = 92) ∨ (UInt8.ofNat n = 10 ∧ letB (UInt8.ofNat n) = 110) ∨ (UInt8.ofNat n = 13 ∧ letB (UInt8.ofNat n) = 114) ∨ (UInt8.ofNat n = 9 ∧ letB (UInt8.ofNat n) = 116) := by decide +kernel
  exact u8_all (P := fun c => letB c ≠ 0 → (c = 34 ∧ letB c = 34) ∨ (c = 92 ∧ letB c = 92) ∨ (c = 10 ∧ letB c = 110) ∨ (c = 13 ∧ letB c = 114) ∨ (c = 9 ∧ letB c = 116)) this c h
theorem let_plain (c : UInt8) (h : c = 34 ∨ c = 92 ∨ c = 10 ∨ c = 13 ∨ c = 9) : plainB c = false ∧ letB c ≠ 0 := by
  rcases h with rfl | rfl | rfl | rfl | rfl <;> decide
theorem escB_ne (c : UInt8) : ∀ t, (escB c ++ t).head? ≠ some 34 := by
  intro t
  by_cases hp : plainB c = true
  · rw [escB_plain hp]; simp [(plain_ne c hp).1]
  · by_cases hl : letB c = 0
    · rw [escB_hex hp hl]; simp
    · rw [escB_let hp hl]; simp
theorem escB_pos (c : UInt8) : 0 < (escB c).length := by
  unfold escB
  split
  · simp
  · split <;> simp
/-- the form of a byte at the head is read as this byte -/
theorem headQ_esc (c : UInt8) (t : List UInt8) : headQ (escB c ++ t) = some (c, (escB c).length) := by
  by_cases hp : plainB c = true
  · rw [escB_plain hp]
    simp [headQ, (plain_ne c hp).2, hp]
  · by_cases hl : letB c = 0
    · rw [escB_hex hp hl]
      have h1 : c.toNat / 16 < 16 := by have := c.toNat_lt; omega
      have h2 : c.toNat % 16 < 16 := by omega
      have h3 : UInt8.ofNat (c.toNat / 16 * 16 + c.toNat % 16) = c := by rw [show c.toNat / 16 * 16 + c.toNat % 16 = c.toNat by omega, UInt8.ofNat_toNat]
      simp [headQ, unesc, unescX, hexV_hexB _ h1, hexV_hexB _ h2, h3, hp, hl]
    · rw [escB_let hp hl]
      rcases let_vals c hl with ⟨rfl, h⟩ | ⟨rfl, h⟩ | ⟨rfl, h⟩ | ⟨rfl, h⟩ | ⟨rfl, h⟩ <;> simp [headQ, unesc, h]
/-- what is read at the head has its form there -/
theorem headQ_form {l : List UInt8} {c : UInt8} {n : Nat} (h : headQ l = some (c, n)) : l = escB c ++ l.drop n ∧ n = (escB c).length := by
  match l with
  | [] => simp [headQ] at h
  | x :: r =>
    simp only [headQ] at h
    by_cases hx : x = 92
    · rw [if_pos hx] at h
      subst hx
      obtain ⟨⟨c', n'⟩, hu, he⟩ := Option.map_eq_some_iff.1 h
      simp only [Prod.mk.injEq] at he
      obtain ⟨rfl, rfl⟩ := he
      match r with
      | [] => simp [unesc] at hu
      | y :: t =>
        simp only [unesc] at hu
        by_cases h1 : y = 34
        · subst h1; simp at hu; obtain ⟨rfl, rfl⟩ := hu; exact ⟨rfl, rfl⟩
        rw [if_neg h1] at hu
        by_cases h2 : y = 92
        · subst h2; simp at hu; obtain ⟨rfl, rfl⟩ := hu; exact ⟨rfl, rfl⟩
        rw [if_neg h2] at hu
        by_cases h3 : y = 110
        · subst h3; simp at hu; obtain ⟨rfl, rfl⟩ := hu; exact ⟨rfl, rfl⟩
        rw [if_neg h3] at hu
        by_cases h4 : y = 114
        · subst h4; simp at hu; obtain ⟨rfl, rfl⟩ := hu; exact ⟨rfl, rfl⟩
        rw [if_neg h4] at hu
        by_cases h5 : y = 116
        · subst h5; simp at hu; obtain ⟨rfl, rfl⟩ := hu; exact ⟨rfl, rfl⟩
        rw [if_neg h5] at hu
        by_cases h6 : y = 120
        case neg => rw [if_neg h6] at hu; cases hu
        rw [if_pos h6] at hu
        subst h6
        unfold unescX at hu
        match t with
        | [] => cases hu
        | [_] => cases hu
        | a :: b :: u =>
          simp only at hu
          rcases ha : hexV a with _ | va
          · rw [ha] at hu; cases hu
          rcases hb : hexV b with _ | vb
          · rw [ha, hb] at hu; cases hu
          rw [ha, hb] at hu
          simp only at hu
          obtain ⟨la, ea⟩ := hexB_hexV a va ha
          obtain ⟨lb, eb⟩ := hexB_hexV b vb hb
          split at hu
          · cases hu
          · rename_i hn
            simp only [Option.some.injEq, Prod.mk.injEq] at hu
            obtain ⟨rfl, rfl⟩ := hu
            have hc : (UInt8.ofNat (va * 16 + vb)).toNat = va * 16 + vb := by rw [UInt8.toNat_ofNat']; omega
            have hp : ¬ plainB (UInt8.ofNat (va * 16 + vb)) = true := fun e => hn (.inl e)
            have hl : letB (UInt8.ofNat (va * 16 + vb)) = 0 := by
              rcases Classical.em (letB (UInt8.ofNat (va * 16 + vb)) = 0) with h | h
              · exact h
              · exact absurd (.inr h) hn
            rw [escB_hex hp hl, hc]
            have e1 : (va * 16 + vb) / 16 = va := by omega
            have e2 : (va * 16 + vb) % 16 = vb := by omega
            rw [e1, e2, ea, eb]
            exact ⟨rfl, rfl⟩
    · rw [if_neg hx] at h
      by_cases hp : plainB x = true
      · rw [if_pos hp] at h
        simp only [Option.some.injEq, Prod.mk.injEq] at h
        obtain ⟨rfl, rfl⟩ := h
        rw [escB_plain hp]
        exact ⟨rfl, rfl⟩
      · rw [if_neg hp] at h; cases h
/-- more fuel makes no difference -/
theorem unq_mono : ∀ {f g : Nat} {l : List UInt8} {p : List UInt8 × Nat}, f ≤ g → unq f l = some p → unq g l = some p
  | 0, _, _, _, _, h => by simp [unq] at h
  | f + 1, 0, _, _, hfg, _ => by omega
  | f + 1, g + 1, [], _, _, h => by simp [unq] at h
  | f + 1, g + 1, x :: r, p, hfg, h => by
    unfold unq at h ⊢
    by_cases hx : x = 34
    · rw [if_pos hx] at h ⊢; exact h
    · rw [if_neg hx] at h ⊢
      rcases hh : headQ (x :: r) with _ | ⟨c, n⟩
      · rw [hh] at h; cases h
      · rw [hh] at h
        simp only at h ⊢
        obtain ⟨q, hq, he⟩ := Option.map_eq_some_iff.1 h
        rw [unq_mono (by omega) hq]
        simp [he]
/-- what was written is read -/
theorem unq_esc : ∀ (b t : List UInt8) (f : Nat), b.length < f → unq f (b.flatMap escB ++ 34 :: t) = some (b, (b.flatMap escB).length + 1)
  | [], t, f + 1, _ => by simp [unq]
  | c :: r, t, f + 1, h => by
    have hd := headQ_esc c (r.flatMap escB ++ 34 :: t)
    have hne := escB_ne c (r.flatMap escB ++ 34 :: t)
    have hih := unq_esc r t f (by simp at h; omega)
    simp only [List.flatMap_cons, List.append_assoc]
    rcases hl : escB c ++ (r.flatMap escB ++ 34 :: t) with _ | ⟨x, u⟩
    · have := escB_pos c
      have e := congrArg List.length hl
      simp at e <;> omega
    · rw [hl] at hd hne
      unfold unq
      rw [if_neg (by simpa using hne), hd]
      simp only
      rw [← hl, List.drop_left' rfl, hih]
      simp
      try omega
/-- what is read was written -/
theorem unq_form : ∀ {f : Nat} {l b : List UInt8} {k : Nat}, unq f l = some (b, k) → l = b.flatMap escB ++ 34 :: l.drop k ∧ k = (b.flatMap escB).length + 1
  | 0, _, _, _, h => by simp [unq] at h
  | f + 1, [], _, _, h => by simp [unq] at h
  | f + 1, x :: r, b, k, h => by
    unfold unq at h
    by_cases hx : x = 34
    · rw [if_pos hx] at h
      simp only [Option.some.injEq, Prod.mk.injEq] at h
      obtain ⟨rfl, rfl⟩ := h
      subst hx
      exact ⟨rfl, rfl⟩
    · rw [if_neg hx] at h
      rcases hh : headQ (x :: r) with _ | ⟨c, n⟩
      · rw [hh] at h; cases h
      · rw [hh] at h
        simp only at h
        obtain ⟨⟨b', k'⟩, hq, he⟩ := Option.map_eq_some_iff.1 h
        simp only [Prod.mk.injEq] at he
        obtain ⟨rfl, rfl⟩ := he
        obtain ⟨h1, h2⟩ := headQ_form hh
        obtain ⟨h3, h4⟩ := unq_form hq
        refine ⟨?_, by rw [h4, h2]; simp; omega⟩
        rw [List.drop_drop] at h3
        conv => lhs; rw [h1, h3]
        simp [Nat.add_comm]
theorem unquoteL_quote (b : List UInt8) : unquoteL (quoteB b) = (b, (quoteB b).length) := by
  have h := unq_esc b [] ((b.flatMap escB ++ [34]).length + 1) (by
    have : b.length ≤ (b.flatMap escB).length := by
      induction b with
      | nil => simp
      | cons c r ih => have := escB_pos c; simp only [List.flatMap_cons, List.length_append, List.length_cons]; omega
    rw [List.length_append]; omega)
  unfold unquoteL quoteB
  simp only
  rw [if_pos trivial, h]
  simp
theorem unquoteL_form {l b : List UInt8} (h : unquoteL l = (b, l.length)) (hl : l ≠ []) : l = quoteB b := by
  match l, hl with
  | x :: r, _ =>
    unfold unquoteL at h
    simp only at h
    by_cases hx : x = 34
    · rw [if_pos hx] at h
      rcases hq : unq (r.length + 1) r with _ | ⟨b', k⟩
      · rw [hq] at h; simp at h
      · rw [hq] at h
        simp only [Prod.mk.injEq] at h
        obtain ⟨rfl, h2⟩ := h
        obtain ⟨h3, h4⟩ := unq_form hq
        simp only [List.length_cons] at h2
        have hk : k = r.length := by omega
        rw [hk, List.drop_length] at h3
        rw [hx, quoteB, ← h3]
    · rw [if_neg hx] at h; simp at h
theorem headQ_pos {l : List UInt8} {c : UInt8} {n : Nat} (h : headQ l = some (c, n)) : 0 < n ∧ n ≤ l.length := by
  obtain ⟨h1, h2⟩ := headQ_form h
  have h3 := escB_pos c
  have h4 := congrArg List.length h1
  rw [List.length_append] at h4
  omega
theorem unq_fuel : ∀ (f g : Nat) (l : List UInt8), l.length < f → l.length < g → unq f l = unq g l
  | 0, _, _, h, _ => by omega
  | _, 0, _, _, h => by omega
  | f + 1, g + 1, [], _, _ => rfl
  | f + 1, g + 1, x :: r, hf, hg => by
    simp only [unq]
    by_cases hx : x = 34
    · rw [if_pos hx, if_pos hx]
    · rw [if_neg hx, if_neg hx]
      rcases hh : headQ (x :: r) with _ | ⟨c, n⟩
      · rfl
      · simp only
        have hp := headQ_pos hh
        simp only [List.length_cons] at hf hg
        rw [unq_fuel f g _ (by rw [List.length_drop, List.length_cons]; omega) (by rw [List.length_drop, List.length_cons]; omega)]
def unqR (l : List UInt8) : Option (List UInt8 × Nat) := unq (l.length + 1) l
theorem unqR_end {r : List UInt8} : unqR (34 :: r) = some ([], 1) := by simp [unqR, unq]
theorem unqR_none {x : UInt8} {r : List UInt8} (hx : x ≠ 34) (h : headQ (x :: r) = none) : unqR (x :: r) = none := by simp [unqR, unq, hx, h]
theorem unqR_some {x : UInt8} {r : List UInt8} {c : UInt8} {n : Nat} (hx : x ≠ 34) (h : headQ (x :: r) = some (c, n)) : unqR (x :: r) = (unqR ((x :: r).drop n)).map fun p => (c :: p.1, p.2 + n) := by
  have hp := headQ_pos h
  unfold unqR
  rw [List.length_cons]
  conv => lhs; unfold unq
  rw [if_neg hx, h]
  simp only
  rw [unq_fuel (r.length + 1) (((x :: r).drop n).length + 1) _ (by rw [List.length_drop, List.length_cons]; omega) (by omega)]
/-- what an unquote has read when it stands at place i, with these bytes -/
def unqAt (l : List UInt8) (i : Nat) (out : List UInt8) : List UInt8 × Nat := match unqR (l.drop i) with
  | none => ([], 0)
  | some (b, k) => (out ++ b, i + k)
def URel (l : List UInt8) (i : Nat) (out : List UInt8) : Prop := unquoteL l = unqAt l i out
theorem URel.start {r : List UInt8} : URel (34 :: r) 1 [] := by
  unfold URel unqAt unquoteL
  simp only [List.drop_succ_cons, List.drop_zero]
  rw [if_pos trivial]
  show (match unqR r with | none => _ | some (b, k) => _) = _
  rcases unqR r with _ | ⟨b, k⟩
  · rfl
  · simp [Nat.add_comm]
theorem URel.fail {l : List UInt8} {i : Nat} {out : List UInt8} (h : URel l i out) (hn : unqR (l.drop i) = none) : unquoteL l = ([], 0) := by
  unfold URel unqAt at h; rw [hn] at h; exact h
theorem URel.over {l : List UInt8} {i : Nat} {out : List UInt8} (h : URel l i out) (hi : l.length ≤ i) : unquoteL l = ([], 0) :=
  h.fail (by rw [List.drop_eq_nil_of_le hi]; rfl)
theorem URel.stop {l r : List UInt8} {i : Nat} {out : List UInt8} (h : URel l i out) (hd : l.drop i = 34 :: r) : unquoteL l = (out, i + 1) := by
  unfold URel unqAt at h; rw [hd, unqR_end] at h; simpa using h
theorem URel.step {l r : List UInt8} {i n : Nat} {x c : UInt8} {out : List UInt8} (h : URel l i out) (hd : l.drop i = x :: r) (hx : x ≠ 34) (hh : headQ (x :: r) = some (c, n)) : URel l (i + n) (out ++ [c]) := by
  unfold URel at *
  rw [h]
  unfold unqAt
  rw [hd, unqR_some hx hh, ← hd, List.drop_drop]
  rcases unqR (l.drop (i + n)) with _ | ⟨b, k⟩
  · rfl
  · simp [Nat.add_comm, Nat.add_assoc, Nat.add_left_comm]
end Go.Proofs.YtcopnpllaoahaaaGreatDoor
