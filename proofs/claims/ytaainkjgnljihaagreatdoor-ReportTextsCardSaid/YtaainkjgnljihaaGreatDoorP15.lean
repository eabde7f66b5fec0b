/- words: Split and Join, Quote and Unquote, Digits and Int are inverse: plain laws. No condition. -/
import Derived.Test.YtaainkjgnljihaaGreatDoorN3
import Derived.Test.YtaainkjgnljihaaGreatDoorN17
import Derived.Test.YtaainkjgnljihaaGreatDoorW4
namespace Go.Proofs.YtaainkjgnljihaaGreatDoor
open Go.RowKit
theorem quoteB_pos (b : List UInt8) : 0 < (quoteB b).length := by simp [quoteB]
theorem esc_len (b : List UInt8) : b.length ≤ (b.flatMap escB).length := by
  induction b with
  | nil => simp
  | cons c r ih => have := escB_pos c; simp only [List.flatMap_cons, List.length_append, List.length_cons]; omega
theorem unquoteL_quote_app (b t : List UInt8) : unquoteL (quoteB b ++ t) = (b, (quoteB b).length) := by
  have e : quoteB b ++ t = 34 :: (b.flatMap escB ++ 34 :: t) := by simp [quoteB]
  have h := unq_esc b t ((b.flatMap escB ++ 34 :: t).length + 1) (by
    have := esc_len b
    rw [List.length_append]; omega)
  rw [e]
  unfold unquoteL
  simp only
  rw [if_pos trivial, h]
  simp [quoteB]
theorem unquoteL_pre {l : List UInt8} (h : (unquoteL l).2 ≠ 0) : l = quoteB (unquoteL l).1 ++ l.drop (unquoteL l).2 := by
  match l with
  | [] => exact absurd rfl h
  | x :: r =>
    unfold unquoteL at h ⊢
    simp only at h ⊢
    by_cases hx : x = 34
    · rw [if_pos hx] at h ⊢
      rcases hq : unq (r.length + 1) r with _ | ⟨b, k⟩
      · rw [hq] at h; simp at h
      · simp only
        obtain ⟨h3, _⟩ := unq_form hq
        rw [List.drop_succ_cons, hx]
        unfold quoteB
        rw [List.cons_append, List.append_assoc]
        congr 1
    · rw [if_neg hx] at h; simp at h
theorem headF_pre {l : List UInt8} {g : Fd} {k : Nat} (h : headF l = some (g, k)) : l = txF g ++ l.drop k ∧ badB g = false := by
  unfold headF at h
  split at h
  · rename_i hq
    injection h with h; injection h with h1 h2; subst h1 h2
    exact ⟨by unfold txF; rw [if_pos rfl]; exact unquoteL_pre hq, rfl⟩
  · split at h
    · rename_i hb
      injection h with h; injection h with h1 h2; subst h1 h2
      exact ⟨by unfold txF; rw [if_neg (by simp)]; exact upTo_pre l, by unfold badB; simp [hb]⟩
    · cases h
theorem joinT_one (g : Fd) : joinT [g] = txF g := by unfold joinT; rw [List.map_cons, List.map_nil, Lib.join_one]
theorem joinT_cons (g : Fd) {l : List Fd} (h : l ≠ []) : joinT (g :: l) = txF g ++ 32 :: joinT l := by
  cases l with
  | nil => exact absurd rfl h
  | cons y t =>
    unfold joinT
    rw [List.map_cons, List.map_cons, Lib.join_cons, Lib.join_cons]
    simp [Lib.joinTail]
/-- the fields of a line written are the line -/
theorem seq_join : ∀ (n : Nat) (l : List UInt8) (f : List Fd), seqF n l = (f, true) → joinT f = l ∧ f.any badB = false ∧ f ≠ []
  | 0, l, f, h => by simp [seqF] at h
  | n + 1, l, f, h => by
    unfold seqF at h
    rcases hh : headF l with _ | ⟨g, k⟩
    · rw [hh] at h; simp at h
    rw [hh] at h
    simp only at h
    obtain ⟨h1, h2⟩ := headF_pre hh
    rcases hd : l.drop k with _ | ⟨x, r⟩
    · rw [hd] at h h1
      simp only at h
      injection h with h _
      subst h
      exact ⟨by rw [joinT_one, h1, List.append_nil], by simp [h2], by simp⟩
    · rw [hd] at h h1
      simp only at h
      by_cases hx : x = 32
      · rw [if_pos hx] at h
        injection h with h3 h4
        obtain ⟨i1, i2, i3⟩ := seq_join n r (seqF n r).1 (by rw [← h4])
        subst h3
        refine ⟨by rw [joinT_cons _ i3, i1, h1, hx], ?_, by simp⟩
        rw [List.any_cons, h2, i2]; rfl
      · rw [if_neg hx] at h; simp at h
theorem splitL_zero {l : List UInt8} {f : List Fd} (h : splitL l = (f, 0)) : l.length ≤ 8192 ∧ ((l = [] ∧ f = []) ∨ (l ≠ [] ∧ seqL l = (f, true) ∧ anyLong f = false ∧ f.length ≤ 64)) := by
  unfold splitL at h
  split at h
  · simp at h
  rename_i h1
  refine ⟨by omega, ?_⟩
  split at h
  · rename_i h2
    injection h with h _
    exact .inl ⟨h2, h.symm⟩
  rename_i h2
  split at h
  · simp at h
  rename_i h3
  split at h
  · simp at h
  rename_i h4
  injection h with h _
  simp only [not_or] at h4
  refine .inr ⟨h2, ?_, ?_, ?_⟩
  · rw [← h]
    have h5 : (seqL l).2 = true := by simpa using h3
    rw [← h5]
  · rw [← h]
    unfold anyLong
    simpa only [Bool.not_eq_true] using h4.1
  · rw [← h]; omega
theorem join_split {l : List UInt8} {f : List Fd} (h : splitL l = (f, 0)) : joinL f = (l, 0) := by
  obtain ⟨h1, ⟨rfl, rfl⟩ | ⟨h2, h3, h4, h5⟩⟩ := splitL_zero h
  · decide
  · obtain ⟨i1, i2, _⟩ := seq_join _ _ _ h3
    rw [joinL_ok (by omega) h4 i2 (by rw [i1]; omega), i1]
theorem headF_quote (b t : List UInt8) : headF (quoteB b ++ t) = some ((b, true), (quoteB b).length) := by
  unfold headF
  rw [unquoteL_quote_app]
  simp only
  rw [if_pos (by have := quoteB_pos b; omega)]
theorem headF_bare {a : List UInt8} (h : bareL a = true) (t : List UInt8) (ht : t = [] ∨ ∃ r, t = 32 :: r) : headF (a ++ t) = some ((a, false), a.length) := by
  have hall : a.all bareC = true := by unfold bareL at h; rw [Bool.and_eq_true] at h; exact h.1
  have hne : a ≠ [] := by rintro rfl; simp [bareL] at h
  have hu : (unquoteL (a ++ t)).2 = 0 := by
    cases a with
    | nil => exact absurd rfl hne
    | cons x r =>
      have hx := List.all_eq_true.1 hall x (by simp)
      have h34 : x ≠ 34 := by
        rintro rfl
        exact absurd hx (by decide)
      rw [List.cons_append]
      unfold unquoteL
      simp only
      rw [if_neg h34]
  have hup : upTo (a ++ t) = a := by
    unfold upTo
    rw [List.takeWhile_append_of_pos (by
      intro c hc
      have h1 := List.all_eq_true.1 hall c hc
      unfold bareC at h1
      rw [Bool.and_eq_true] at h1
      exact h1.2)]
    rcases ht with rfl | ⟨r, rfl⟩ <;> simp
  unfold headF
  rw [if_neg (by simp [hu]), hup, if_pos h]
theorem headF_tx {g : Fd} (h : badB g = false) (t : List UInt8) (ht : t = [] ∨ ∃ r, t = 32 :: r) : headF (txF g ++ t) = some (g, (txF g).length) := by
  obtain ⟨b, q⟩ := g
  cases q with
  | true =>
    unfold txF
    simp only [if_true]
    exact headF_quote b t
  | false =>
    have hb : bareL b = true := by simpa [badB] using h
    unfold txF
    simp only [Bool.false_eq_true, if_false]
    exact headF_bare hb t ht
theorem txF_ne {g : Fd} (h : badB g = false) : txF g ≠ [] := by
  have h1 := headF_tx h [] (.inl rfl)
  have h2 := headF_pos h1
  intro e
  rw [e] at h2
  simp at h2
theorem seq_of_join : ∀ (l : List Fd), l ≠ [] → l.any badB = false → seqL (joinT l) = (l, true)
  | [], h, _ => absurd rfl h
  | [g], _, h => by
    have hg : badB g = false := by simpa using h
    have h1 := headF_tx hg [] (.inl rfl)
    rw [List.append_nil] at h1
    rw [joinT_one, seqL_end h1 (Nat.le_refl _)]
  | g :: y :: t, _, h => by
    rw [List.any_cons, Bool.or_eq_false_iff] at h
    have ih := seq_of_join (y :: t) (by simp) h.2
    rw [joinT_cons _ (by simp)]
    have h1 := headF_tx h.1 (32 :: joinT (y :: t)) (.inr ⟨_, rfl⟩)
    rw [seqL_more h1 (by rw [List.drop_left' rfl]), ih]
theorem split_join {l : List Fd} {t : List UInt8} (h : joinL l = (t, 0)) : splitL t = (l, 0) := by
  unfold joinL at h
  split at h
  · simp at h
  split at h
  · simp at h
  split at h
  · simp at h
  split at h
  · simp at h
  rename_i h1 h2 h3 h4
  injection h with h _
  subst h
  cases l with
  | nil => decide
  | cons g r =>
    have h3' : (g :: r).any badB = false := by simpa using h3
    have hs := seq_of_join (g :: r) (by simp) h3'
    have hne : joinT (g :: r) ≠ [] := by
      intro e
      rw [e] at hs
      have : seqL [] = ([], false) := by decide
      rw [this] at hs
      simp at hs
    unfold splitL
    rw [if_neg (by omega), if_neg hne, hs, if_neg (by simp), if_neg]
    simp only [not_or]
    refine ⟨?_, by omega⟩
    have h2' : anyLong (g :: r) = false := by simpa using h2
    unfold anyLong at h2'
    simp [h2'] <;> simpa using h2'
theorem unq_quote (b : List UInt8) : uqOk (quoteB b) = true ∧ uqS (quoteB b) = ⟨b.toArray⟩ ∧ uqE (quoteB b) = 0 := by
  have h := unquoteL_quote b
  have h1 : uqOk (quoteB b) = true := by
    unfold uqOk
    rw [h]
    have := quoteB_pos b
    simp only [Bool.and_eq_true, decide_eq_true_eq]
    exact ⟨by omega, trivial⟩
  obtain ⟨h2, h3⟩ := uq_yes h1
  exact ⟨h1, by rw [h2, h], h3⟩
theorem quote_unq {l : List UInt8} (h : uqOk l = true) : quoteB (unquoteL l).1 = l := by
  unfold uqOk at h
  simp only [Bool.and_eq_true, decide_eq_true_eq] at h
  have hl : l ≠ [] := by rintro rfl; exact h.1 rfl
  exact (unquoteL_form (show unquoteL l = ((unquoteL l).1, l.length) by rw [← h.2]) hl).symm
end Go.Proofs.YtaainkjgnljihaaGreatDoor
