/- Syntax: texts of rules, line by line: plain words and laws. No condition. Syntax: the text of rules is parsed as the rules: plain laws. No condition. -/
import Derived.Test.YtcopnpllaoahaaaGreatDoorY1
namespace Go.Proofs.YtcopnpllaoahaaaGreatDoor
open Go.RowKit
/-- the lines of a text that ends a line -/
def pcs : List UInt8 → List UInt8 → List (List UInt8)
  | _, [] => []
  | cur, c :: r => if c = 10 then cur :: pcs [] r else pcs (cur ++ [c]) r
theorem pcs_line : ∀ (x cur r : List UInt8), (10 : UInt8) ∉ x → pcs cur (x ++ 10 :: r) = (cur ++ x) :: pcs [] r
  | [], cur, r, _ => by rw [List.nil_append, List.append_nil, pcs, if_pos rfl]
  | c :: x, cur, r, h => by
    rw [List.cons_append, pcs, if_neg (fun e => h (by rw [e]; exact List.mem_cons_self)), pcs_line x (cur ++ [c]) r (fun hm => h (List.mem_cons_of_mem _ hm)), List.append_assoc]
    rfl
theorem pcs_app : ∀ (a cur b : List UInt8), (a = [] ∧ cur = [] ∨ a.getLast? = some 10) → pcs cur (a ++ b) = pcs cur a ++ pcs [] b
  | [], cur, b, h => by
    rcases h with ⟨_, h⟩ | h
    · rw [h]; rfl
    · cases h
  | [c], cur, b, h => by
    have hc : c = 10 := by
      rcases h with ⟨h, _⟩ | h
      · cases h
      · simpa using h
    subst hc
    rw [List.cons_append, List.nil_append, pcs, if_pos rfl, pcs, if_pos rfl, pcs]
    rfl
  | c :: d :: a, cur, b, h => by
    have h2 : (d :: a).getLast? = some 10 := by
      rcases h with ⟨h, _⟩ | h
      · cases h
      · simpa using h
    rw [List.cons_append, pcs, pcs]
    by_cases hc : c = 10
    · rw [if_pos hc, if_pos hc, pcs_app (d :: a) [] b (.inr h2)]; rfl
    · rw [if_neg hc, if_neg hc, pcs_app (d :: a) (cur ++ [c]) b (.inr h2)]
/-- the first line that is none: its number (from 0), the place, the error -/
def lxE : List (List UInt8) → Nat → Option (Nat × Nat × Int)
  | [], _ => none
  | x :: r, i => if (lineK x).2.2 ≠ 0 then some (i, (lineK x).2.1, (lineK x).2.2) else lxE r (i + 1)
theorem lxE_app : ∀ (a b : List (List UInt8)) (i : Nat), lxE a i = none → lxE (a ++ b) i = lxE b (i + a.length)
  | [], b, i, _ => rfl
  | x :: a, b, i, h => by
    rw [lxE] at h
    by_cases hx : (lineK x).2.2 ≠ 0
    · rw [if_pos hx] at h; cases h
    rw [if_neg hx] at h
    rw [List.cons_append, lxE, if_neg hx, lxE_app a b (i + 1) h, List.length_cons]
    congr 1; omega
theorem lxE_none : ∀ (a : List (List UInt8)) (i j : Nat), lxE a i = none → lxE a j = none
  | [], _, _, _ => rfl
  | x :: a, i, j, h => by
    rw [lxE] at h ⊢
    by_cases hx : (lineK x).2.2 ≠ 0
    · rw [if_pos hx] at h; cases h
    rw [if_neg hx] at h ⊢
    exact lxE_none a _ _ h
/-- the rules of lines of tokens -/
def rdS : List (List Tok) → Nat → List Ru → List Ru × Nat × Int × Int
  | [], _, acc => (acc, 0, 0, 0)
  | t :: r, i, acc =>
    if t = [] then rdS r (i + 1) acc else
    if (ruK (t.map t9)).2.2 ≠ 0 then
      (if (ruK (t.map t9)).2.1 = t.length then ([], i + 1, ((t.getLastD ((0, 0, [], noK), 0, 0)).2.2 : Nat), (ruK (t.map t9)).2.2)
       else ([], i + 1, ((t.getD (ruK (t.map t9)).2.1 ((0, 0, [], noK), 0, 0)).2.1 : Nat), (ruK (t.map t9)).2.2))
    else if acc.length = 64 then ([], i + 1, 0, 3) else rdS r (i + 1) (acc ++ [(ruK (t.map t9)).1])
/-- rules behind rules -/
theorem rdS_ok : ∀ (a : List (List Tok)) (i : Nat) (acc l : List Ru) (p : Nat) (q : Int), rdS a i acc = (l, p, q, 0) → p = 0 ∧ q = 0 ∧ ∃ m, l = acc ++ m ∧
    (∀ (j : Nat) (acc' : List Ru) (b : List (List Tok)), acc'.length + m.length ≤ 64 → rdS (a ++ b) j acc' = rdS b (j + a.length) (acc' ++ m)) ∧
    (∀ (j : Nat) (acc' : List Ru) (b : List (List Tok)), acc'.length ≤ 64 → 64 < acc'.length + m.length → ∃ p, rdS (a ++ b) j acc' = ([], p, 0, 3))
  | [], i, acc, l, p, q, h => by
    simp only [rdS, Prod.mk.injEq] at h
    obtain ⟨rfl, rfl, rfl, _⟩ := h
    exact ⟨rfl, rfl, [], by simp, fun j acc' b _ => by simp, fun j acc' b h1 h2 => by simp at h2; omega⟩
  | t :: a, i, acc, l, p, q, h => by
    rw [rdS] at h
    by_cases ht : t = []
    · rw [if_pos ht] at h
      obtain ⟨hp, hq, m, h1, h2, h3⟩ := rdS_ok a _ _ _ _ _ h
      refine ⟨hp, hq, m, h1, fun j acc' b hl => ?_, fun j acc' b hl hl2 => ?_⟩
      · rw [List.cons_append, rdS, if_pos ht, h2 (j + 1) acc' b hl, List.length_cons]
        congr 1; omega
      · rw [List.cons_append, rdS, if_pos ht]
        exact h3 (j + 1) acc' b hl hl2
    rw [if_neg ht] at h
    by_cases he : (ruK (t.map t9)).2.2 ≠ 0
    · rw [if_pos he] at h
      exfalso
      split at h
      · simp only [Prod.mk.injEq] at h; exact he h.2.2.2
      · simp only [Prod.mk.injEq] at h; exact he h.2.2.2
    rw [if_neg he] at h
    by_cases h64 : acc.length = 64
    · rw [if_pos h64] at h
      simp only [Prod.mk.injEq] at h
      exact absurd h.2.2.2 (by decide)
    rw [if_neg h64] at h
    obtain ⟨hp, hq, m, h1, h2, h3⟩ := rdS_ok a _ _ _ _ _ h
    refine ⟨hp, hq, (ruK (t.map t9)).1 :: m, by rw [h1, List.append_assoc]; rfl, fun j acc' b hl => ?_, fun j acc' b hl hl2 => ?_⟩
    · rw [List.length_cons] at hl
      rw [List.cons_append, rdS, if_neg ht, if_neg he, if_neg (by omega), h2 (j + 1) _ b (by rw [List.length_append]; simp; omega), List.length_cons, List.append_assoc]
      congr 1; omega
    · rw [List.length_cons] at hl2
      rw [List.cons_append, rdS, if_neg ht, if_neg he]
      by_cases h6 : acc'.length = 64
      · rw [if_pos h6]; exact ⟨_, rfl⟩
      · rw [if_neg h6]
        exact h3 (j + 1) _ b (by rw [List.length_append]; simp; omega) (by rw [List.length_append]; simp; omega)
/-- what Parse answers -/
def psK (L : List UInt8) : List Ru × Nat × Int × Int :=
  if 4000 < L.length then ([], 0, 0, 3) else if L = [] then ([], 0, 0, 0) else if L.getLast? ≠ some 10 then ([], 0, 0, 6) else
  match lxE (pcs [] L) 0 with
  | some (i, p, e) => ([], i + 1, (p : Nat), e)
  | none => rdS ((pcs [] L).map fun x => (lineK x).1) 0 []
theorem psK_ok {L : List UInt8} {l : List Ru} {p : Nat} {q : Int} (h : psK L = (l, p, q, 0)) : p = 0 ∧ q = 0 ∧ L.length ≤ 4000 ∧ (L = [] ∨ L.getLast? = some 10) ∧ lxE (pcs [] L) 0 = none ∧ rdS ((pcs [] L).map fun x => (lineK x).1) 0 [] = (l, 0, 0, 0) := by
  unfold psK at h
  by_cases h1 : 4000 < L.length
  · rw [if_pos h1] at h
    simp only [Prod.mk.injEq] at h
    exact absurd h.2.2.2 (by decide)
  rw [if_neg h1] at h
  by_cases h2 : L = []
  · rw [if_pos h2] at h
    simp only [Prod.mk.injEq] at h
    obtain ⟨rfl, rfl, rfl, _⟩ := h
    subst h2
    exact ⟨rfl, rfl, by simp, .inl rfl, rfl, rfl⟩
  rw [if_neg h2] at h
  by_cases h3 : L.getLast? ≠ some 10
  · rw [if_pos h3] at h
    simp only [Prod.mk.injEq] at h
    exact absurd h.2.2.2 (by decide)
  rw [if_neg h3] at h
  rcases hx : lxE (pcs [] L) 0 with _ | ⟨i, pp, e⟩
  · rw [hx] at h
    simp only at h
    obtain ⟨rfl, rfl, _⟩ := rdS_ok _ _ _ _ _ _ h
    exact ⟨rfl, rfl, by omega, .inr (Decidable.not_not.1 h3), rfl, h⟩
  · rw [hx] at h
    simp only [Prod.mk.injEq] at h
    exfalso
    have key : ∀ (a : List (List UInt8)) (j i p : Nat) (e : Int), lxE a j = some (i, p, e) → e ≠ 0 := by
      intro a
      induction a with
      | nil => intro j i p e hh; cases hh
      | cons x r ih =>
        intro j i p e hh
        rw [lxE] at hh
        by_cases hc : (lineK x).2.2 ≠ 0
        · rw [if_pos hc] at hh
          simp only [Option.some.injEq, Prod.mk.injEq] at hh
          rw [← hh.2.2]; exact hc
        · rw [if_neg hc] at hh
          exact ih _ _ _ _ hh
    exact key _ _ _ _ _ hx h.2.2.2
theorem blank_line : lineK [32, 32] = ([], 0, 0) := by
  unfold lineK
  rw [if_neg (by decide)]
  rfl
/-- a text, a line of blanks, another text: the rules of both -/
theorem joins_law {A B : List UInt8} {l m : List Ru} {p p' : Nat} {q q' : Int} (hA : psK A = (l, p, q, 0)) (hB : psK B = (m, p', q', 0)) (h3 : A.length + B.length ≤ 3990) :
    (64 < l.length + m.length → ∃ p, psK (A ++ [32, 32, 10] ++ B) = ([], p, 0, 3)) ∧ (¬ 64 < l.length + m.length → psK (A ++ [32, 32, 10] ++ B) = (l ++ m, 0, 0, 0)) := by
  obtain ⟨_, _, a1, a2, a3, a4⟩ := psK_ok hA
  obtain ⟨_, _, b1, b2, b3, b4⟩ := psK_ok hB
  have hp : pcs [] (A ++ [32, 32, 10] ++ B) = pcs [] A ++ [32, 32] :: pcs [] B := by
    rw [List.append_assoc, pcs_app A [] _ (a2.imp (fun h => ⟨h, rfl⟩) id)]
    exact congrArg (pcs [] A ++ ·) (pcs_line [32, 32] [] B (by decide))
  have hx : lxE (pcs [] (A ++ [32, 32, 10] ++ B)) 0 = none := by
    rw [hp, lxE_app _ _ _ a3, lxE, blank_line, if_neg (by decide)]
    exact lxE_none _ _ _ b3
  have hlast : (A ++ [32, 32, 10] ++ B).getLast? = some 10 := by
    rw [List.getLast?_append]
    rcases b2 with h | h
    · rw [h, List.getLast?_append]; rfl
    · rw [h]; rfl
  have hlen : (A ++ [32, 32, 10] ++ B).length ≤ 4000 := by simp only [List.length_append, List.length_cons, List.length_nil]; omega
  have hne : A ++ [32, 32, 10] ++ B ≠ [] := by
    intro e
    rw [e] at hlast
    cases hlast
  have hps : psK (A ++ [32, 32, 10] ++ B) = rdS ((pcs [] (A ++ [32, 32, 10] ++ B)).map fun x => (lineK x).1) 0 [] := by
    unfold psK
    rw [if_neg (by omega), if_neg hne, if_neg (by rw [hlast]; simp), hx]
  obtain ⟨_, _, mA, e1, f1, f2⟩ := rdS_ok _ _ _ _ _ _ a4
  obtain ⟨_, _, mB, e2, g1, g2⟩ := rdS_ok _ _ _ _ _ _ b4
  rw [List.nil_append] at e1 e2
  subst e1 e2
  have hl64 : l.length ≤ 64 := by
    rcases Nat.lt_or_ge 64 l.length with h | h
    · obtain ⟨pp, hh⟩ := f2 0 [] [] (by simp) (by simpa using h)
      rw [List.append_nil, a4] at hh
      simp only [Prod.mk.injEq] at hh
      exact absurd hh.2.2.2 (by decide)
    · exact h
  have hmid : ∀ j, rdS (([32, 32] :: pcs [] B).map fun x => (lineK x).1) j l = rdS ((pcs [] B).map fun x => (lineK x).1) (j + 1) l := fun j => by
    rw [List.map_cons, blank_line, rdS, if_pos rfl]
  rw [hps, hp, List.map_append, f1 0 [] _ (by simpa using hl64), List.nil_append, hmid]
  constructor
  · intro h
    obtain ⟨pp, hh⟩ := g2 (0 + ((pcs [] A).map fun x => (lineK x).1).length + 1) l [] hl64 h
    rw [List.append_nil] at hh
    exact ⟨pp, hh⟩
  · intro h
    have hh := g1 (0 + ((pcs [] A).map fun x => (lineK x).1).length + 1) l [] (by omega)
    rw [List.append_nil] at hh
    rw [hh]; rfl
end Go.Proofs.YtcopnpllaoahaaaGreatDoor
namespace Go.Proofs.YtcopnpllaoahaaaGreatDoor
open Go.RowKit
theorem txK_no10 : ∀ b : Fin 256, (10 : UInt8) ∉ txK (UInt8.ofNat b.val) := by decide +kernel
theorem escB_no10 : ∀ b : Fin 256, (10 : UInt8) ∉ escB (UInt8.ofNat b.val) := by decide +kernel
theorem u8_fin {P : UInt8 → Prop} (h : ∀ b : Fin 256, P (UInt8.ofNat b.val)) (c : UInt8) : P c := by
  have := h ⟨c.toNat, c.toNat_lt⟩
  simpa using this
theorem txK_10 (c : UInt8) : (10 : UInt8) ∉ txK c := u8_fin (P := fun c => (10 : UInt8) ∉ txK c) txK_no10 c
theorem escB_10 (c : UInt8) : (10 : UInt8) ∉ escB c := u8_fin (P := fun c => (10 : UInt8) ∉ escB c) escB_no10 c
theorem quote_10 (s : List UInt8) : (10 : UInt8) ∉ quoteB s := by
  rw [qb_quote]
  unfold qbK
  simp only [List.mem_cons, List.mem_append, List.mem_flatMap, List.not_mem_nil, or_false, not_or]
  refine ⟨by decide, ?_, by decide⟩
  rintro ⟨c, _, h⟩
  exact escB_10 c h
theorem prK_10 (f : Nat → Bool) : (10 : UInt8) ∉ prK f := by
  have h : ∀ rs : List (Nat × Nat), (10 : UInt8) ∉ rs.flatMap itK := fun rs hm => by
    obtain ⟨q, _, hq⟩ := List.mem_flatMap.1 hm
    unfold itK at hq
    rcases List.mem_append.1 hq with h1 | h1
    · exact txK_10 _ h1
    rcases List.mem_append.1 h1 with h2 | h2
    · split at h2
      · exact absurd h2 (by decide)
      · cases h2
    · split at h2
      · exact txK_10 _ h2
      · cases h2
  unfold prK
  split
  · simp only [List.mem_cons, List.mem_append, List.not_mem_nil, or_false, not_or]
    exact ⟨by decide, by decide, h _, by decide⟩
  · simp only [List.mem_cons, List.mem_append, List.not_mem_nil, or_false, not_or]
    exact ⟨by decide, h _, by decide⟩
theorem tx_10 {t : T9} (h : ck9 t = 0) : (10 : UInt8) ∉ (tx t).data.toList := by
  obtain ⟨K, F, T, N, S, f⟩ := t
  obtain ⟨hK, _, _, _, hN0, hN9⟩ := ck_zero h
  simp only at hK hN0 hN9
  unfold tx
  simp only
  rcases (show K = 1 ∨ K = 2 ∨ K = 3 ∨ K = 4 ∨ K = 5 ∨ K = 6 by omega) with rfl | rfl | rfl | rfl | rfl | rfl
  · have e : tx9 1 N S f = ⟨#[114, 117, 108, 101]⟩ := rfl
    rw [e]; decide
  · have e : tx9 2 N S f = ⟨#[103, 97, 112]⟩ := rfl
    rw [e]; decide
  · obtain ⟨n, rfl⟩ : ∃ n : Nat, N = (n : Int) := ⟨N.toNat, by omega⟩
    have e : (tx9 3 (n : Int) S f).data.toList = Lib.decDigits n := by
      show (Lib.itoa (n : Int)).toArray.toList = _
      rw [Lib.itoa_nonneg]
    rw [e]
    intro hm
    have := (txOk.num n (by omega)).2.1 10 hm
    revert this; decide
  · have e : (tx9 4 N S f).data.toList = quoteB S.data.toList := by
      show ((quoteB S.data.toList).toArray).toList = _
      rw [List.toList_toArray]
    rw [e]
    exact quote_10 _
  · have e : (tx9 5 N S f).data.toList = 105 :: quoteB S.data.toList := by
      show ((⟨#[105]⟩ : ByteArray) ++ ⟨(quoteB S.data.toList).toArray⟩).data.toList = _
      rw [ByteArray.data_append, Array.toList_append]
      rfl
    rw [e]
    intro hm
    rcases List.mem_cons.1 hm with h1 | h1
    · exact absurd h1 (by decide)
    · exact quote_10 _ h1
  · by_cases ha : sQ f (fun _ => true) = true
    · have e : tx9 6 N S f = ⟨#[46]⟩ := by
        unfold tx9
        rw [if_neg (by decide), if_neg (by decide), if_neg (by decide), if_neg (by decide), if_neg (by decide), if_pos ha]
      rw [e]; decide
    · have e : (tx9 6 N S f).data.toList = prK f := by
        unfold tx9
        rw [if_neg (by decide), if_neg (by decide), if_neg (by decide), if_neg (by decide), if_neg (by decide), if_neg ha]
      rw [e]
      exact prK_10 f
theorem joinK_10 : ∀ (l : List (List UInt8)), (∀ x ∈ l, (10 : UInt8) ∉ x) → (10 : UInt8) ∉ joinK l
  | [], _ => by simp [joinK]
  | [x], h => h x List.mem_cons_self
  | x :: y :: t, h => by
    rw [joinK]
    intro hm
    rcases List.mem_append.1 hm with h1 | h1
    · exact h x List.mem_cons_self h1
    rcases List.mem_cons.1 h1 with h2 | h2
    · exact absurd h2 (by decide)
    · exact joinK_10 (y :: t) (fun z hz => h z (List.mem_cons_of_mem _ hz)) h2
theorem joinT_10 {l : List T9} (h : ∀ t ∈ l, ck9 t = 0) : (10 : UInt8) ∉ (joinT l).data.toList := by
  have e : (joinT l).data.toList = joinK (l.map fun t => (tx t).data.toList) := by
    rw [← join_K]
    show (Lib.join _ [32]).toArray.toList = _
    rw [List.toList_toArray]
  rw [e]
  refine joinK_10 _ fun x hx => ?_
  obtain ⟨t, ht, rfl⟩ := List.mem_map.1 hx
  exact tx_10 (h t ht)
/-- the error of a rule: the element (-1: none), the error -/
def elsE : List El → Nat → Option (Nat × Int)
  | [], _ => none
  | x :: r, i => if elE x ≠ 0 then some (i, elE x) else elsE r (i + 1)
def ruE (r : Ru) : Int × Int :=
  if r.1 < 0 ∨ 999999999 < r.1 then (-1, 7) else if r.2 = [] then (-1, 6) else if 64 < r.2.length then (-1, 3) else
  match elsE r.2 0 with
  | some (i, e) => ((i : Nat), e)
  | none => if (prnL (ruT r)).2.2 ≠ 0 then (-1, 3) else (0, 0)
def rusE : List Ru → Nat → Option (Nat × Int × Int)
  | [], _ => none
  | r :: l, i => if (ruE r).2 ≠ 0 then some (i, (ruE r).1, (ruE r).2) else rusE l (i + 1)
def txR (l : List Ru) : List UInt8 := l.flatMap fun r => (prnL (ruT r)).1.data.toList ++ [10]
/-- what all answers: the text, the rule, the element, the error -/
def prA (l : List Ru) : List UInt8 × Nat × Int × Int :=
  if 64 < l.length then ([], 0, 0, 3) else
  match rusE l 0 with
  | some (i, k, e) => ([], i, k, e)
  | none => if 4000 < (txR l).length then ([], 0, 0, 3) else (txR l, 0, 0, 0)
theorem elsE_none : ∀ {l : List El} {i : Nat}, elsE l i = none → ∀ x ∈ l, elE x = 0
  | [], _, _, x, h => by cases h
  | y :: r, i, h, x, hx => by
    rw [elsE] at h
    by_cases hy : elE y ≠ 0
    · rw [if_pos hy] at h; cases h
    rw [if_neg hy] at h
    rcases List.mem_cons.1 hx with rfl | hx
    · exact Decidable.not_not.1 hy
    · exact elsE_none h x hx
/-- a rule without errors -/
theorem ruE_ok {r : Ru} (h : (ruE r).2 = 0) : (0 ≤ r.1 ∧ r.1 ≤ 999999999) ∧ r.2 ≠ [] ∧ r.2.length ≤ 64 ∧ (∀ x ∈ r.2, elE x = 0) ∧ (prnL (ruT r)).2.2 = 0 := by
  unfold ruE at h
  by_cases h1 : r.1 < 0 ∨ 999999999 < r.1
  · rw [if_pos h1] at h; exact absurd h (by decide)
  rw [if_neg h1] at h
  by_cases h2 : r.2 = []
  · rw [if_pos h2] at h; exact absurd h (by decide)
  rw [if_neg h2] at h
  by_cases h3 : 64 < r.2.length
  · rw [if_pos h3] at h; exact absurd h (by decide)
  rw [if_neg h3] at h
  rcases he : elsE r.2 0 with _ | ⟨i, e⟩
  · rw [he] at h
    simp only at h
    by_cases h4 : (prnL (ruT r)).2.2 ≠ 0
    · rw [if_pos h4] at h; exact absurd h (by decide)
    · exact ⟨by omega, h2, by omega, elsE_none he, Decidable.not_not.1 h4⟩
  · rw [he] at h
    simp only at h
    exfalso
    have key : ∀ (l : List El) (j i : Nat) (e : Int), elsE l j = some (i, e) → e ≠ 0 := by
      intro l
      induction l with
      | nil => intro j i e hh; cases hh
      | cons x r ih =>
        intro j i e hh
        rw [elsE] at hh
        by_cases hc : elE x ≠ 0
        · rw [if_pos hc] at hh
          simp only [Option.some.injEq, Prod.mk.injEq] at hh
          rw [← hh.2]; exact hc
        · rw [if_neg hc] at hh
          exact ih _ _ _ hh
    exact key _ _ _ _ he h
end Go.Proofs.YtcopnpllaoahaaaGreatDoor
