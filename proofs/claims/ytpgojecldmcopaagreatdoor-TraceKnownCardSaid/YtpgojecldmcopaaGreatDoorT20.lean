/- Traces: what Parse answers, and that Print and Parse undo each other: plain laws. No condition. -/
import Derived.Test.YtpgojecldmcopaaGreatDoorT15
import Derived.Test.YtpgojecldmcopaaGreatDoorPt
import Derived.Test.YtpgojecldmcopaaGreatDoorPd
namespace Go.Proofs.YtpgojecldmcopaaGreatDoor
open Go.RowKit
abbrev Rn := Ev × Nat
def wLoad : List UInt8 := [108, 111, 97, 100]
def wStore : List UInt8 := [115, 116, 111, 114, 101]
def kwL (K : Int) : List UInt8 := if K = 1 then wLoad else wStore
theorem kwd_list (K : Int) : (kwd K).data.toList = kwL K := by unfold kwd kwL; split <;> rfl
/-- a line, without its byte 10 -/
def lnR (x : Rn) : List UInt8 := kwL x.1.1 ++ 32 :: (Lib.itoa x.1.2 ++ 32 :: Lib.itoa (x.2 : Nat))
theorem rnTx_ln (x : Rn) : rnTx x = lnR x ++ [10] := by
  unfold rnTx rnB lnR
  simp only [ByteArray.data_append, Array.toList_append, kwd_list]
  simp
def Rn0 : Rn := ((0, 0), 0)
def kindL (w : List UInt8) : Int := if w = wLoad then 1 else if w = wStore then 2 else 0
/-- what a line holds: a run, and the error -/
def runP (b c : List UInt8) (K : Int) : Rn × Int :=
  if (intR b 0 1000000000).2 ≠ 0 ∨ (intR c 0 1000000000).2 ≠ 0 then (Rn0, 6) else
  if (intR c 0 1000000000).1 < 1 ∨ 65536 < (intR b 0 1000000000).1 + (intR c 0 1000000000).1 then (Rn0, 7) else
  (((K, (intR b 0 1000000000).1), (intR c 0 1000000000).1.toNat), 0)
def rnP : List (List UInt8) → Rn × Int
  | [a, b, c] => if kindL a = 0 then (Rn0, 6) else runP b c (kindL a)
  | _ => (Rn0, 6)
def rnL (x : List UInt8) : Rn × Int := rnP (pts 32 [] x)
/-- the steps of a run -/
def expd (K a : Int) : Nat → List Ev
  | 0 => []
  | m + 1 => (K, a) :: expd K (a + 1) m
theorem expd_len (K : Int) : ∀ (m : Nat) (a : Int), (expd K a m).length = m
  | 0, _ => rfl
  | m + 1, a => by rw [expd, List.length_cons, expd_len K m]
theorem expd_snoc (K : Int) : ∀ (m : Nat) (a : Int), expd K a (m + 1) = expd K a m ++ [(K, a + m)]
  | 0, a => by simp [expd]
  | m + 1, a => by
    rw [expd, expd_snoc K m (a + 1), expd, List.cons_append]
    congr 3
    simp only [Prod.mk.injEq, true_and]
    omega
theorem expd_last (K : Int) (m : Nat) (a : Int) : (expd K a (m + 1)).getLast? = some (K, a + m) := by rw [expd_snoc]; simp
/-- the lines of a trace's text: the steps so far, the number of lines so far -/
def trF : List ByteArray → List Ev → Nat → List Ev × Nat × Int
  | [], acc, _ => (acc, 0, 0)
  | x :: r, acc, i =>
    if (rnL x.data.toList).2 ≠ 0 then ([], i + 1, (rnL x.data.toList).2) else
    if 8388608 < acc.length + (rnL x.data.toList).1.2 then ([], i + 1, 3) else
    if acc.getLast? = some ((rnL x.data.toList).1.1.1, (rnL x.data.toList).1.1.2 - 1) then ([], i + 1, 6) else
    trF r (acc ++ expd (rnL x.data.toList).1.1.1 (rnL x.data.toList).1.1.2 (rnL x.data.toList).1.2) (i + 1)
def lnS (s : ByteArray) : List ByteArray := ptsB 10 (s.extract 0 (s.size - 1))
def psT (s : ByteArray) : List Ev × Nat × Int :=
  if 1048576 < s.size then ([], 0, 3) else if s.size = 0 then ([], 0, 0) else if s.data.toList.getLast? ≠ some 10 then ([], 0, 6) else
  if 5000 < (lnS s).length then ([], 0, 3) else trF (lnS s) [] 0
theorem kindL_of (K : Int) (h : K = 1 ∨ K = 2) : kindL (kwL K) = K := by rcases h with rfl | rfl <;> decide
theorem kindL_some {w : List UInt8} (h : kindL w ≠ 0) : w = kwL (kindL w) ∧ (kindL w = 1 ∨ kindL w = 2) := by
  unfold kindL at *
  by_cases h1 : w = wLoad
  · rw [if_pos h1]; exact ⟨by rw [h1]; rfl, .inl rfl⟩
  · rw [if_neg h1] at h ⊢
    by_cases h2 : w = wStore
    · rw [if_pos h2]; exact ⟨by rw [h2]; rfl, .inr rfl⟩
    · rw [if_neg h2] at h; exact absurd rfl h
theorem intR_zero {l : List UInt8} {n : Int} (h : intR l 0 1000000000 = (n, 0)) : decL l = true ∧ intL l = n ∧ 0 ≤ n ∧ n ≤ 1000000000 := by
  unfold intR at h
  split at h
  · cases h
  rename_i hd
  split at h
  · cases h
  rename_i hr
  injection h with h _
  subst h
  exact ⟨by simpa using hd, rfl, by omega, by omega⟩
theorem intR_of {n : Int} (h0 : 0 ≤ n) (h1 : n ≤ 1000000000) : intR (Lib.itoa n) 0 1000000000 = (n, 0) := by
  obtain ⟨h2, h3⟩ := int_digits n
  unfold intR
  rw [if_neg (by rw [show decL (Lib.itoa n) = true from h2]; simp), if_neg (by rw [show intL (Lib.itoa n) = n from h3]; omega), show intL (Lib.itoa n) = n from h3]
theorem itoa_no (n : Int) {c : UInt8} (hc : c = 32 ∨ c = 10) : c ∉ Lib.itoa n := by
  intro hm
  obtain ⟨h1, _⟩ := int_digits n
  obtain ⟨k, hk⟩ := List.mem_iff_getElem?.1 hm
  rcases dec_at (l := Lib.itoa n) h1 hk with h | h
  · rcases hc with rfl | rfl <;> exact absurd h.2 (by decide)
  · rcases hc with rfl | rfl <;> exact absurd h (by decide)
theorem kwL_no (K : Int) {c : UInt8} (hc : c = 32 ∨ c = 10) : c ∉ kwL K := by
  unfold kwL
  rcases hc with rfl | rfl <;> split <;> decide
theorem lnR_no10 (x : Rn) : (10 : UInt8) ∉ lnR x := by
  unfold lnR
  simp only [List.mem_append, List.mem_cons]
  rintro (h | h | h | h | h)
  · exact kwL_no _ (.inr rfl) h
  · revert h; decide
  · exact itoa_no _ (.inr rfl) h
  · revert h; decide
  · exact itoa_no _ (.inr rfl) h
theorem rnL_of {x : Rn} (h1 : x.1.1 = 1 ∨ x.1.1 = 2) (h2 : 0 ≤ x.1.2) (h3 : 1 ≤ x.2) (h4 : x.1.2 + x.2 ≤ 65536) : rnL (lnR x) = (x, 0) := by
  obtain ⟨⟨K, a⟩, m⟩ := x
  simp only at h1 h2 h3 h4
  unfold rnL lnR
  simp only
  rw [pts_app 32 _ _ _ (kwL_no K (.inl rfl)), pts_app 32 _ _ _ (itoa_no a (.inl rfl)), pts_no 32 _ _ (itoa_no _ (.inl rfl))]
  simp only [List.nil_append]
  unfold rnP
  simp only
  rw [kindL_of K h1, if_neg (by omega)]
  unfold runP
  rw [intR_of (by omega) (by omega), intR_of (by omega) (by omega)]
  simp only
  rw [if_neg (by simp), if_neg (by omega), Int.toNat_natCast]
/-- the pieces, with the byte between them, are the line -/
theorem pts_three {l a b c : List UInt8} {d : UInt8} (h : pts d [] l = [a, b, c]) : l = a ++ d :: (b ++ d :: c) := by
  have back : ∀ (l cur : List UInt8), ∀ ps, pts d cur l = ps → (∀ p, ps = [p] → cur ++ l = p) ∧ (∀ p q r, ps = p :: q :: r → ∃ t, cur ++ l = p ++ d :: t ∧ pts d [] t = q :: r) := by
    intro l
    induction l with
    | nil =>
      intro cur ps h
      subst h
      refine ⟨fun p hp => ?_, fun p q r hp => ?_⟩
      · simp only [pts] at hp; injection hp with hp; simp [hp]
      · simp only [pts] at hp; injection hp with _ hp; cases hp
    | cons x t ih =>
      intro cur ps h
      by_cases hx : x = d
      · subst hx
        rw [pts_hit] at h
        subst h
        refine ⟨fun p hp => ?_, fun p q r hp => ?_⟩
        · injection hp with _ hp
          have := pts_len x t []
          rw [hp] at this; simp at this
        · injection hp with hp1 hp2
          exact ⟨t, by rw [hp1], hp2⟩
      · rw [pts_other hx] at h
        obtain ⟨i1, i2⟩ := ih _ _ h
        refine ⟨fun p hp => ?_, fun p q r hp => ?_⟩
        · rw [← i1 p hp]; simp
        · obtain ⟨t', j1, j2⟩ := i2 p q r hp
          exact ⟨t', by rw [← j1]; simp, j2⟩
  obtain ⟨t, h1, h2⟩ := (back l [] _ h).2 a b [c] rfl
  obtain ⟨t2, h3, h4⟩ := (back t [] _ h2).2 b c [] rfl
  have h5 := (back t2 [] _ h4).1 c rfl
  simp only [List.nil_append] at h1 h3 h5
  rw [h1, h3, h5]
def OkRn (x : Rn) : Prop := (x.1.1 = 1 ∨ x.1.1 = 2) ∧ 0 ≤ x.1.2 ∧ 1 ≤ x.2 ∧ x.1.2 + x.2 ≤ 65536
theorem rnL_some {l : List UInt8} (h : (rnL l).2 = 0) : l = lnR (rnL l).1 ∧ OkRn (rnL l).1 := by
  have key : ∀ q : Rn × Int, rnL l = q → q.2 = 0 → l = lnR q.1 ∧ OkRn q.1 := by
    intro q hq h
    unfold rnL rnP at hq
    split at hq
    · rename_i a b c hp
      split at hq
      · subst hq; cases h
      rename_i hk
      obtain ⟨k1, k2⟩ := kindL_some hk
      unfold runP at hq
      split at hq
      · subst hq; cases h
      rename_i he
      split at hq
      · subst hq; cases h
      rename_i hr
      simp only [not_or, ne_eq, Decidable.not_not] at he
      obtain ⟨b1, b2, b3, b4⟩ := intR_zero (l := b) (n := (intR b 0 1000000000).1) (Prod.ext rfl he.1)
      obtain ⟨c1, c2, c3, c4⟩ := intR_zero (l := c) (n := (intR c 0 1000000000).1) (Prod.ext rfl he.2)
      subst hq
      have d1 := digits_int b1
      have d2 := digits_int c1
      rw [b2] at d1
      rw [c2] at d2
      refine ⟨?_, k2, b3, ?_, ?_⟩
      · rw [pts_three hp]
        unfold lnR
        simp only
        rw [← k1, Int.toNat_of_nonneg (by omega)]
        rw [show Lib.itoa (intR b 0 1000000000).1 = b from d1, show Lib.itoa (intR c 0 1000000000).1 = c from d2]
      · simp only; omega
      · simp only; omega
    · subst hq; cases h
  exact key _ rfl h
/-- the runs of a trace are its lines' -/
theorem runL_expd (K : Int) : ∀ (m : Nat) (a : Int) (t : List Ev), t.head? ≠ some (K, a + m + 1) → runL K a (expd K (a + 1) m ++ t) = m
  | 0, a, t, h => by
    cases t with
    | nil => rfl
    | cons y r =>
      rw [expd, List.nil_append, runL_cons, if_neg]
      intro e; apply h; simp [e]
  | m + 1, a, t, h => by
    rw [expd, List.cons_append, runL_cons, if_pos rfl, runL_expd K m (a + 1) t (by rw [show a + 1 + (m : Int) + 1 = a + ((m + 1 : Nat) : Int) + 1 by omega]; exact h)]
theorem runsT_expd {K a : Int} {m : Nat} (hm : 1 ≤ m) (t : List Ev) (h : t.head? ≠ some (K, a + m)) : runsT (expd K a m ++ t) = ((K, a), m) :: runsT t := by
  obtain ⟨q, rfl⟩ : ∃ q, m = q + 1 := ⟨m - 1, by omega⟩
  rw [expd, List.cons_append, runsT_cons]
  have h2 := runL_expd K q a t (by rw [show a + (q : Int) + 1 = a + ((q + 1 : Nat) : Int) by omega]; exact h)
  simp only
  rw [h2]
  have h3 : (expd K (a + 1) q ++ t).drop q = t := by
    have h4 := expd_len K q (a + 1)
    rw [List.drop_append_of_le_length (by rw [h4]; exact Nat.le_refl _), List.drop_of_length_le (by rw [h4]; exact Nat.le_refl _), List.nil_append]
  rw [h3]
def expdS (l : List Rn) : List Ev := l.flatMap fun x => expd x.1.1 x.1.2 x.2
theorem expd_head {K a : Int} {m : Nat} (hm : 1 ≤ m) (t : List Ev) : (expd K a m ++ t).head? = some (K, a) := by
  obtain ⟨q, rfl⟩ : ∃ q, m = q + 1 := ⟨m - 1, by omega⟩
  rfl
/-- lines that follow one another without going on -/
def Chn : List Rn → Prop
  | x :: y :: r => y.1 ≠ (x.1.1, x.1.2 + x.2) ∧ Chn (y :: r)
  | _ => True
theorem runsT_chn : ∀ (l : List Rn), (∀ x ∈ l, OkRn x) → Chn l → runsT (expdS l) = l
  | [], _, _ => rfl
  | [x], h, _ => by
    obtain ⟨⟨K, a⟩, m⟩ := x
    have hx := h _ List.mem_cons_self
    have := runsT_expd (K := K) (a := a) hx.2.2.1 [] (by simp)
    simpa [expdS, runsT_nil] using this
  | x :: y :: r, h, hc => by
    have ih := runsT_chn (y :: r) (fun z hz => h z (List.mem_cons_of_mem _ hz)) hc.2
    obtain ⟨⟨K, a⟩, m⟩ := x
    have hx := h _ List.mem_cons_self
    have hy := h y (by simp)
    have e : expdS (((K, a), m) :: y :: r) = expd K a m ++ expdS (y :: r) := rfl
    rw [e, runsT_expd hx.2.2.1 _ ?_, ih]
    have e2 : expdS (y :: r) = expd y.1.1 y.1.2 y.2 ++ expdS r := rfl
    rw [e2, expd_head hy.2.2.1]
    intro e3
    injection e3 with e3
    exact hc.1 e3
/-- what Parse accepts -/
def NoGo (acc : List Ev) (l : List Rn) : Prop := ∀ x r, l = x :: r → acc.getLast? ≠ some (x.1.1, x.1.2 - 1)
theorem last_app {a b : List Ev} {x : Ev} (h : b.getLast? = some x) : (a ++ b).getLast? = some x := by rw [List.getLast?_append, h]; rfl
theorem expd_last' {x : Rn} (h : 1 ≤ x.2) : (expd x.1.1 x.1.2 x.2).getLast? = some (x.1.1, x.1.2 + x.2 - 1) := by
  obtain ⟨⟨K, a⟩, m⟩ := x
  obtain ⟨q, rfl⟩ : ∃ q, m = q + 1 := ⟨m - 1, by simp at h; omega⟩
  simp only
  rw [expd_last]
  congr 2
  omega
theorem trF_some : ∀ (L : List ByteArray) (acc : List Ev) (i : Nat), (trF L acc i).2.2 = 0 → ∃ l : List Rn, (trF L acc i) = (acc ++ expdS l, 0, 0) ∧ L.map (·.data.toList) = l.map lnR ∧ (∀ x ∈ l, OkRn x) ∧ NoGo acc l ∧ Chn l ∧ (l = [] ∨ (acc ++ expdS l).length ≤ 8388608)
  | [], acc, i, _ => ⟨[], by simp [trF, expdS], rfl, by simp, fun _ _ h => (by cases h), trivial, .inl rfl⟩
  | x :: r, acc, i, h => by
    unfold trF at h ⊢
    by_cases h1 : (rnL x.data.toList).2 ≠ 0
    · rw [if_pos h1] at h; exact absurd h h1
    rw [if_neg h1] at h ⊢
    by_cases h2 : 8388608 < acc.length + (rnL x.data.toList).1.2
    · rw [if_pos h2] at h; cases h
    rw [if_neg h2] at h ⊢
    by_cases h3 : acc.getLast? = some ((rnL x.data.toList).1.1.1, (rnL x.data.toList).1.1.2 - 1)
    · rw [if_pos h3] at h; cases h
    rw [if_neg h3] at h ⊢
    simp only [ne_eq, Decidable.not_not] at h1
    obtain ⟨k1, k2⟩ := rnL_some h1
    generalize (rnL x.data.toList).1 = q at *
    obtain ⟨l, i1, i2, i3, i4, i5, i6⟩ := trF_some r _ _ h
    have hl2 := last_app (a := acc) (expd_last' k2.2.2.1)
    refine ⟨q :: l, ?_, ?_, ?_, ?_, ?_, ?_⟩
    · rw [i1]; simp [expdS]
    · rw [List.map_cons, List.map_cons, i2, k1]
    · intro y hy
      rcases List.mem_cons.1 hy with rfl | hy
      · exact k2
      · exact i3 y hy
    · intro y r' e
      injection e with e _
      subst e
      exact h3
    · cases l with
      | nil => trivial
      | cons y t =>
        refine ⟨fun e => ?_, i5⟩
        have := i4 y t rfl
        rw [hl2, e] at this
        exact this rfl
    · refine .inr ?_
      rcases i6 with rfl | i6
      · simp only [expdS, List.flatMap_cons, List.flatMap_nil, List.append_nil, List.length_append, expd_len]; omega
      · have e : expdS (q :: l) = expd q.1.1 q.1.2 q.2 ++ expdS l := rfl
        rw [e, ← List.append_assoc]; exact i6
theorem trF_of : ∀ (l : List Rn) (acc : List Ev) (i : Nat), (∀ x ∈ l, OkRn x) → NoGo acc l → Chn l → (acc ++ expdS l).length ≤ 8388608 → trF (l.map fun x => mkB (lnR x)) acc i = (acc ++ expdS l, 0, 0)
  | [], acc, i, _, _, _, _ => by simp [trF, expdS]
  | x :: r, acc, i, h, hg, hc, hz => by
    have hx := h x List.mem_cons_self
    have e : expdS (x :: r) = expd x.1.1 x.1.2 x.2 ++ expdS r := rfl
    rw [e] at hz ⊢
    rw [List.map_cons]
    unfold trF
    rw [mkB_dat, rnL_of hx.1 hx.2.1 hx.2.2.1 hx.2.2.2]
    simp only
    rw [if_neg (by simp), if_neg (by simp only [List.length_append, expd_len] at hz; omega), if_neg (hg x r rfl)]
    have hl2 := last_app (a := acc) (expd_last' hx.2.2.1)
    rw [trF_of r _ _ (fun z hz => h z (List.mem_cons_of_mem _ hz)) ?_ ?_ (by rw [List.append_assoc]; exact hz), List.append_assoc]
    · intro y t e2
      subst e2
      rw [hl2]
      intro e3
      injection e3 with e3
      injection e3 with e4 e5
      exact hc.1 (Prod.ext e4.symm (by simp only; omega))
    · cases r with
      | nil => trivial
      | cons y t => exact hc.2
/-- the runs of a trace: what they are -/
theorem runs_take (K : Int) : ∀ (t : List Ev) (a : Int), t = expd K (a + 1) (runL K a t) ++ t.drop (runL K a t) ∧ (t.drop (runL K a t)).head? ≠ some (K, a + runL K a t + 1)
  | [], a => ⟨rfl, by simp [runL]⟩
  | y :: r, a => by
    rw [runL_cons]
    by_cases h : y = (K, a + 1)
    · rw [if_pos h]
      obtain ⟨i1, i2⟩ := runs_take K r (a + 1)
      refine ⟨?_, ?_⟩
      · rw [expd, List.drop_succ_cons, List.cons_append, ← i1, h]
      · rw [List.drop_succ_cons]
        intro e
        apply i2
        rw [e]
        congr 2
        omega
    · rw [if_neg h]
      refine ⟨rfl, ?_⟩
      intro e
      simp at e
      exact h e
theorem runs_ok : ∀ (n : Nat) (l : List Ev), l.length ≤ n → (∀ x ∈ l, (x.1 = 1 ∨ x.1 = 2) ∧ 0 ≤ x.2 ∧ x.2 ≤ 65535) → expdS (runsT l) = l ∧ (∀ x ∈ runsT l, OkRn x) ∧ Chn (runsT l) ∧ (∀ x r, runsT l = x :: r → l.head? = some x.1)
  | 0, l, h, _ => by
    obtain rfl := List.eq_nil_of_length_eq_zero (by omega : l.length = 0)
    exact ⟨rfl, by simp [runsT_nil], trivial, by simp [runsT_nil]⟩
  | n + 1, [], h, _ => ⟨rfl, by simp [runsT_nil], trivial, by simp [runsT_nil]⟩
  | n + 1, (K, a) :: t, h, ho => by
    obtain ⟨h1, h2⟩ := runs_take K t a
    have hlt := runL_le K a t
    rw [runsT_cons]
    simp only
    generalize hm : runL K a t = m at *
    obtain ⟨i1, i2, i3, i4⟩ := runs_ok n (t.drop m) (by rw [List.length_drop]; simp at h; omega) (fun x hx => ho x (List.mem_cons_of_mem _ (List.mem_of_mem_drop hx)))
    have e0 : (K, a) :: t = expd K a (m + 1) ++ t.drop m := by rw [expd, List.cons_append, ← h1]
    refine ⟨?_, ?_, ?_, ?_⟩
    · show expd K a (m + 1) ++ expdS (runsT (t.drop m)) = _
      rw [i1, e0]
    · intro x hx
      rcases List.mem_cons.1 hx with rfl | hx
      · have o1 := ho (K, a) List.mem_cons_self
        have o2 := ho (K, a + m) (by rw [e0, expd_snoc]; simp)
        exact ⟨o1.1, o1.2.1, by simp, by simp only at o2 ⊢; omega⟩
      · exact i2 x hx
    · rcases hr : runsT (t.drop m) with _ | ⟨y, r⟩
      · trivial
      · rw [hr] at i3
        refine ⟨fun e => ?_, i3⟩
        have := i4 y r hr
        rw [e] at this
        apply h2
        rw [this]
        congr 2
        simp only; omega
    · intro x r e
      injection e with e _
      subst e
      rfl
theorem lns_app10 : ∀ (ls : List (List UInt8)), (∀ x ∈ ls, (10 : UInt8) ∉ x) → ls ≠ [] → pts 10 [] ((ls.flatMap (· ++ [10])).dropLast) = ls
  | [], _, h => absurd rfl h
  | [x], h, _ => by
    have : ([x].flatMap (· ++ [10])).dropLast = x := by simp
    rw [this, pts_no 10 _ _ (h x List.mem_cons_self)]
    rfl
  | x :: y :: r, h, _ => by
    have ih := lns_app10 (y :: r) (fun z hz => h z (List.mem_cons_of_mem _ hz)) (by simp)
    have hne : (y :: r).flatMap (· ++ [10]) ≠ [] := by simp
    rw [List.flatMap_cons, List.dropLast_append_of_ne_nil hne, List.append_assoc, List.singleton_append, pts_app 10 _ _ _ (h x List.mem_cons_self), ih]
    rfl
theorem prT_flat (l : List Ev) : prT l = ((runsT l).map lnR).flatMap (· ++ [10]) := by
  unfold prT prTx
  rw [List.flatMap_map]
  congr 1
  funext x
  exact rnTx_ln x
theorem pts_back10 (d : UInt8) : ∀ (l cur : List UInt8), (pts d cur l).flatMap (· ++ [d]) = cur ++ l ++ [d]
  | [], cur => by simp [pts]
  | c :: t, cur => by
    by_cases h : c = d
    · subst h
      rw [pts_hit, List.flatMap_cons, pts_back10 c t]
      simp
    · rw [pts_other h, pts_back10 d t]
      simp
theorem dat_lnS (s : ByteArray) : (lnS s).map (·.data.toList) = pts 10 [] s.data.toList.dropLast := by
  have e : (s.extract 0 (s.size - 1)).data.toList = s.data.toList.dropLast := by
    rw [extList, List.drop_zero, List.dropLast_eq_take]
    simp
  unfold lnS ptsB
  rw [e, List.map_map]
  exact (List.map_congr_left (fun x _ => mkB_dat x)).trans (List.map_id _)
/-- Parse of Print is the trace -/
theorem ps_prT {l : List Ev} (h : chkT l 65536 = (0, 0)) (hn : (runsT l).length ≤ 5000) (hz : (prT l).length ≤ 1048576) : psT ⟨(prT l).toArray⟩ = (l, 0, 0) := by
  obtain ⟨ho1, ho2⟩ := okR_of h
  obtain ⟨h1, h2, h3, h4⟩ := runs_ok _ l (Nat.le_refl _) ho2
  have hsz : (⟨(prT l).toArray⟩ : ByteArray).size = (prT l).length := rfl
  unfold psT
  rw [hsz, if_neg (by omega)]
  rcases hr : runsT l with _ | ⟨x, r⟩
  · rw [hr] at h1
    have : prT l = [] := by unfold prT; rw [hr]; rfl
    rw [this, if_pos (by rfl), ← h1]
    rfl
  have hne : (runsT l).map lnR ≠ [] := by rw [hr]; simp
  have hlast : (prT l).getLast? = some 10 := by
    rw [prT_flat]
    obtain ⟨i, z, e⟩ : ∃ i z, (runsT l).map lnR = i ++ [z] := ⟨_, _, (List.dropLast_concat_getLast hne).symm⟩
    rw [e]
    simp
  have h0 : (prT l).length ≠ 0 := by
    intro e; rw [List.length_eq_zero_iff.1 e] at hlast; cases hlast
  rw [if_neg h0]
  have hL : lnS ⟨(prT l).toArray⟩ = (runsT l).map fun x => mkB (lnR x) := by
    have e := dat_lnS ⟨(prT l).toArray⟩
    rw [show (⟨(prT l).toArray⟩ : ByteArray).data.toList = prT l by simp, prT_flat, lns_app10 _ (fun x hx => by obtain ⟨y, _, rfl⟩ := List.mem_map.1 hx; exact lnR_no10 y) hne] at e
    have e2 := congrArg (List.map mkB) e
    rw [List.map_map, List.map_map] at e2
    rw [← prT_flat] at e2
    refine Eq.trans ?_ e2
    exact ((List.map_congr_left (fun x _ => mkB_back x)).trans (List.map_id _)).symm
  rw [if_neg (by simpa using hlast), hL, if_neg (by rw [List.length_map]; omega), trF_of _ _ _ h2 ?_ h3 (by rw [h1]; simpa using ho1), h1]
  · rfl
  · intro y t _; simp
theorem chkT_ok {l : List Ev} (h : ∀ x ∈ l, (x.1 = 1 ∨ x.1 = 2) ∧ 0 ≤ x.2 ∧ x.2 ≤ 65535) (hz : l.length ≤ 8388608) : chkT l 65536 = (0, 0) := by
  have key : ∀ (l : List Ev) (i : Nat), (∀ x ∈ l, (x.1 = 1 ∨ x.1 = 2) ∧ 0 ≤ x.2 ∧ x.2 ≤ 65535) → chkF 65536 i l = (0, 0) := by
    intro l
    induction l with
    | nil => intro _ _; rfl
    | cons x t ih =>
      intro i hx
      have h0 := hx x List.mem_cons_self
      unfold chkF
      have hg : goodE 65536 x = 0 := by unfold goodE; rw [if_pos h0.1, if_neg (by omega)]
      rw [if_pos hg]
      exact ih _ fun y hy => hx y (List.mem_cons_of_mem _ hy)
  unfold chkT
  rw [if_neg (by omega), if_neg (by omega)]
  exact key l 0 h
theorem expd_mem {K : Int} : ∀ (m : Nat) (a : Int) (x : Ev), x ∈ expd K a m → x.1 = K ∧ a ≤ x.2 ∧ x.2 < a + m
  | 0, _, _, h => by cases h
  | m + 1, a, x, h => by
    rcases List.mem_cons.1 h with rfl | h
    · exact ⟨rfl, by simp, by simp only; omega⟩
    · obtain ⟨h1, h2, h3⟩ := expd_mem m (a + 1) x h
      exact ⟨h1, by omega, by omega⟩
/-- Print of Parse is the text -/
theorem pr_psT {s : ByteArray} (h : (psT s).2.2 = 0) : (⟨(prT (psT s).1).toArray⟩ : ByteArray) = s ∧ chkT (psT s).1 65536 = (0, 0) ∧ (runsT (psT s).1).length ≤ 5000 ∧ (psT s).2.1 = 0 := by
  unfold psT at h ⊢
  split at h
  · cases h
  rename_i h1
  rw [if_neg h1]
  split at h
  · rename_i h2
    rw [if_pos h2]
    refine ⟨?_, by decide, by decide, rfl⟩
    apply ByteArray.ext
    apply Array.ext'
    have : s.data.toList = [] := List.length_eq_zero_iff.1 h2
    rw [this]; rfl
  rename_i h2
  rw [if_neg h2]
  split at h
  · cases h
  rename_i h3
  rw [if_neg h3]
  split at h
  · cases h
  rename_i h4
  rw [if_neg h4]
  obtain ⟨l, i1, i2, i3, i4, i5, i6⟩ := trF_some _ _ _ h
  rw [i1]
  simp only [List.nil_append] at i6 ⊢
  have hr := runsT_chn l i3 i5
  have hlen : l.length = (lnS s).length := by
    have := congrArg List.length i2
    simpa using this.symm
  have hz : (expdS l).length ≤ 8388608 := by
    rcases i6 with rfl | i6
    · simp [expdS]
    · exact i6
  refine ⟨?_, chkT_ok ?_ hz, by rw [hr]; omega, trivial⟩
  · apply ByteArray.ext
    apply Array.ext'
    rw [prT_flat, hr, ← i2, dat_lnS, pts_back10, List.nil_append]
    simp only [ne_eq, Decidable.not_not] at h3
    obtain ⟨i, e⟩ : ∃ i, s.data.toList = i ++ [10] := by
      rw [List.getLast?_eq_some_iff] at h3
      exact h3
    rw [e]
    simp
  · intro x hx
    unfold expdS at hx
    obtain ⟨q, hq1, hq2⟩ := List.mem_flatMap.1 hx
    obtain ⟨o1, o2, o3, o4⟩ := i3 q hq1
    obtain ⟨p1, p2, p3⟩ := expd_mem _ _ _ hq2
    exact ⟨by rw [p1]; exact o1, by omega, by omega⟩
theorem trF_no : ∀ (L : List ByteArray) (acc : List Ev) (i : Nat), (trF L acc i).2.2 ≠ 0 → (trF L acc i).1 = []
  | [], acc, i, h => absurd rfl h
  | x :: r, acc, i, h => by
    have key : ∀ q, trF (x :: r) acc i = q → q.2.2 ≠ 0 → q.1 = [] := by
      intro q hq h
      unfold trF at hq
      split at hq
      · subst hq; rfl
      split at hq
      · subst hq; rfl
      split at hq
      · subst hq; rfl
      subst hq
      exact trF_no r _ _ h
    exact key _ rfl h
theorem psT_no {s : ByteArray} (h : (psT s).2.2 ≠ 0) : (psT s).1 = [] := by
  have key : ∀ q, psT s = q → q.2.2 ≠ 0 → q.1 = [] := by
    intro q hq h
    unfold psT at hq
    split at hq
    · subst hq; rfl
    split at hq
    · subst hq; rfl
    split at hq
    · subst hq; rfl
    split at hq
    · subst hq; rfl
    subst hq
    exact trF_no _ _ _ h
  exact key _ rfl h
end Go.Proofs.YtpgojecldmcopaaGreatDoor
