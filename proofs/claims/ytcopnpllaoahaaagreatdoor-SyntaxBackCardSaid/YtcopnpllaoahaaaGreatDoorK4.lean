/- Tokens: what is taken at a place, over any reading of quoted forms: plain laws. No condition. The text of a token is taken as the token: plain laws. No condition. Quoted forms end where they end: plain laws. No condition. words.Unquote; the reference's quoted and Unquote. The texts of numbers and of strings are read back: plain laws. No condition. -/
import Derived.Test.YtcopnpllaoahaaaGreatDoorK3
import Derived.Test.YtcopnpllaoahaaaGreatDoorQ1
import Derived.Test.YtcopnpllaoahaaaGreatDoorW3
import Derived.Test.YtcopnpllaoahaaaGreatDoorW2
import Derived.Test.YtcopnpllaoahaaaGreatDoorDig
namespace Go.Proofs.YtcopnpllaoahaaaGreatDoor
/-- behind an opening quote: how many bytes up to the closing one, with it -/
def clK : List UInt8 → Option Nat
  | [] => none
  | [c] => if c = 34 then some 1 else none
  | c :: d :: r => if c = 34 then some 1 else if c = 92 then (clK r).map (· + 2) else (clK (d :: r)).map (· + 1)
theorem clK_loc : ∀ (q : Nat) (u : List UInt8) (k : Nat), u.length ≤ q → clK u = some k → 0 < k ∧ k ≤ u.length ∧ ∀ r, clK (u.take k ++ r) = some k
  | _, [], k, _, h => by simp [clK] at h
  | _, [c], k, _, h => by
    by_cases hc : c = 34
    · rw [clK, if_pos hc] at h
      injection h with h
      subst h
      refine ⟨by omega, by simp, fun r => ?_⟩
      simp only [List.take_succ_cons, List.take_zero, List.cons_append, List.nil_append]
      cases r with
      | nil => rw [clK, if_pos hc]
      | cons x y => rw [clK, if_pos hc]
    · rw [clK, if_neg hc] at h; cases h
  | 0, c :: d :: u, k, hq, _ => absurd hq (by simp)
  | q + 1, c :: d :: u, k, hq, h => by
    simp only [List.length_cons] at hq
    by_cases hc : c = 34
    · rw [clK, if_pos hc] at h
      injection h with h
      subst h
      refine ⟨by omega, by simp, fun r => ?_⟩
      simp only [List.take_succ_cons, List.take_zero, List.cons_append, List.nil_append]
      cases r with
      | nil => rw [clK, if_pos hc]
      | cons x y => rw [clK, if_pos hc]
    rw [clK, if_neg hc] at h
    by_cases h2 : c = 92
    · rw [if_pos h2] at h
      obtain ⟨j, hj, rfl⟩ := Option.map_eq_some_iff.1 h
      obtain ⟨j0, j1, j2⟩ := clK_loc q u j (by omega) hj
      refine ⟨by omega, by simp only [List.length_cons]; omega, fun r => ?_⟩
      rw [List.take_succ_cons, List.take_succ_cons, List.cons_append, List.cons_append, clK, if_neg hc, if_pos h2, j2 r]
      rfl
    · rw [if_neg h2] at h
      obtain ⟨j, hj, rfl⟩ := Option.map_eq_some_iff.1 h
      obtain ⟨j0, j1, j2⟩ := clK_loc q (d :: u) j (by simp only [List.length_cons]; omega) hj
      refine ⟨by omega, by simp only [List.length_cons] at j1 ⊢; omega, fun r => ?_⟩
      have h3 := j2 r
      obtain ⟨z, rfl⟩ : ∃ z, j = z + 1 := ⟨j - 1, by omega⟩
      rw [List.take_succ_cons, List.cons_append] at h3
      rw [List.take_succ_cons, List.take_succ_cons, List.cons_append, List.cons_append, clK, if_neg hc, if_neg h2, h3]
      rfl
def wdK (t : List UInt8) : List UInt8 := t.takeWhile (· != 32)
theorem wd_app : ∀ (a b : List UInt8), (b.head? = none ∨ b.head? = some 32) → wdK (a ++ b) = wdK a
  | [], b, h => by
    cases b with
    | nil => rfl
    | cons c u =>
      have hc : c = 32 := by simpa using h
      subst hc
      simp [wdK]
  | c :: a, b, h => by
    have ih := wd_app a b h
    unfold wdK at *
    rw [List.cons_append, List.takeWhile_cons, List.takeWhile_cons, ih]
theorem wd_pre : ∀ (t : List UInt8), t.take (wdK t).length = wdK t
  | [] => rfl
  | c :: u => by
    have ih := wd_pre u
    unfold wdK at *
    rw [List.takeWhile_cons]
    by_cases hc : (c != 32) = true
    · rw [if_pos hc, List.length_cons, List.take_succ_cons, ih]
    · rw [if_neg hc]; rfl
theorem wd_idem : ∀ (t : List UInt8), wdK (wdK t) = wdK t
  | [] => rfl
  | c :: u => by
    have ih := wd_idem u
    unfold wdK at *
    rw [List.takeWhile_cons]
    by_cases hc : (c != 32) = true
    · rw [if_pos hc, List.takeWhile_cons, if_pos hc, ih]
    · rw [if_neg hc]; rfl
theorem wd_len (t : List UInt8) : (wdK t).length ≤ t.length := by
  have := congrArg List.length (wd_pre t)
  rw [List.length_take] at this
  omega
abbrev Bd := Nat × Nat × List UInt8 × (Nat → Bool)
def ruleW : List UInt8 := [114, 117, 108, 101]
def gapW : List UInt8 := [103, 97, 112]
def noK : Nat → Bool := fun _ => false
def allK : Nat → Bool := fun i => decide (i < 256)
/-- the token at the head of a text that is no word -/
def hdK (uq : List UInt8 → List UInt8 × Int) : List UInt8 → (Bd × Nat) ⊕ Nat
  | [] => .inr 0
  | c :: r =>
    if dgK c = true then (match nmK (c :: r) 0 0 with
      | .inl (v, n) => .inl ((3, v, [], noK), n)
      | .inr f => .inr f)
    else if c = 34 then (match clK r with
      | some k => if (uq (c :: r.take k)).2 = 0 then .inl ((4, 0, (uq (c :: r.take k)).1, noK), k + 1) else .inr 0
      | none => .inr 0)
    else if c = 105 ∧ r.head? = some 34 then (match clK (r.drop 1) with
      | some k => if (uq (34 :: (r.drop 1).take k)).2 = 0 then .inl ((5, 0, (uq (34 :: (r.drop 1).take k)).1, noK), k + 2) else .inr 1
      | none => .inr 1)
    else if c = 46 then .inl ((6, 0, [], allK), 1)
    else if c = 91 then (match pfK (c :: r) with
      | (g, n, e) => if e = 0 then .inl ((6, 0, [], g), n) else .inr n)
    else .inr 0
def tkK (uq : List UInt8 → List UInt8 × Int) (t : List UInt8) : (Bd × Nat) ⊕ Nat :=
  if wdK t = ruleW then .inl ((1, 0, [], noK), 4) else if wdK t = gapW then .inl ((2, 0, [], noK), 3) else hdK uq t
theorem nmK_pos {c : UInt8} {r : List UInt8} (hc : dgK c = true) {v n : Nat} (h : nmK (c :: r) 0 0 = .inl (v, n)) : 0 < n := by
  rw [nmK, if_pos hc, if_neg (by omega)] at h
  have := (nmK_loc _ _ _ _ _ h).1
  omega
theorem hdK_loc (uq : List UInt8 → List UInt8 × Int) {t : List UInt8} {b : Bd} {n : Nat} (h : hdK uq t = .inl (b, n)) : 0 < n ∧ n ≤ t.length ∧ ∀ r : List UInt8, (r.head? = none ∨ r.head? = some 32) → hdK uq (t.take n ++ r) = .inl (b, n) := by
  cases t with
  | nil => cases h
  | cons c r =>
  rw [hdK] at h
  by_cases hd : dgK c = true
  · rw [if_pos hd] at h
    rcases hn : nmK (c :: r) 0 0 with ⟨v, k⟩ | f
    · rw [hn] at h
      simp only [Sum.inl.injEq, Prod.mk.injEq] at h
      obtain ⟨rfl, rfl⟩ := h
      have hp := nmK_pos hd hn
      obtain ⟨_, h2, h3⟩ := nmK_loc _ _ _ _ _ hn
      refine ⟨hp, by omega, fun r' hr => ?_⟩
      have h4 := h3 r' hr
      obtain ⟨z, rfl⟩ : ∃ z, k = z + 1 := ⟨k - 1, by omega⟩
      rw [Nat.sub_zero, List.take_succ_cons, List.cons_append] at h4
      rw [List.take_succ_cons, List.cons_append, hdK, if_pos hd, h4]
    · rw [hn] at h; cases h
  rw [if_neg hd] at h
  by_cases h34 : c = 34
  · rw [if_pos h34] at h
    rcases hk : clK r with _ | k
    · rw [hk] at h; cases h
    rw [hk] at h
    simp only at h
    obtain ⟨k0, k1, k2⟩ := clK_loc _ _ _ (Nat.le_refl _) hk
    by_cases hu : (uq (c :: r.take k)).2 = 0
    · rw [if_pos hu] at h
      simp only [Sum.inl.injEq, Prod.mk.injEq] at h
      obtain ⟨rfl, rfl⟩ := h
      refine ⟨by omega, by simp only [List.length_cons]; omega, fun r' hr => ?_⟩
      have hl : (r.take k ++ r').take k = r.take k := by
        have hz : (r.take k).length = k := by rw [List.length_take]; omega
        have := List.take_left (l₁ := r.take k) (l₂ := r')
        rwa [hz] at this
      rw [List.take_succ_cons, List.cons_append, hdK, if_neg hd, if_pos h34, k2 r']
      simp only
      rw [hl, if_pos hu]
    · rw [if_neg hu] at h; cases h
  rw [if_neg h34] at h
  by_cases hi : c = 105 ∧ r.head? = some 34
  · rw [if_pos hi] at h
    rcases hk : clK (r.drop 1) with _ | k
    · rw [hk] at h; cases h
    rw [hk] at h
    simp only at h
    obtain ⟨k0, k1, k2⟩ := clK_loc _ _ _ (Nat.le_refl _) hk
    rw [List.length_drop] at k1
    by_cases hu : (uq (34 :: (r.drop 1).take k)).2 = 0
    · rw [if_pos hu] at h
      simp only [Sum.inl.injEq, Prod.mk.injEq] at h
      obtain ⟨rfl, rfl⟩ := h
      obtain ⟨u, rfl⟩ : ∃ u, r = 34 :: u := by
        cases r with
        | nil => cases hi.2
        | cons x y => exact ⟨y, by simpa using hi.2⟩
      simp only [List.drop_succ_cons, List.drop_zero, List.length_cons] at *
      refine ⟨by omega, by omega, fun r' hr => ?_⟩
      have hl : (u.take k ++ r').take k = u.take k := by
        have hz : (u.take k).length = k := by rw [List.length_take]; omega
        have := List.take_left (l₁ := u.take k) (l₂ := r')
        rwa [hz] at this
      rw [List.take_succ_cons, List.take_succ_cons, List.cons_append, List.cons_append, hdK, if_neg hd, if_neg h34, if_pos ⟨hi.1, rfl⟩]
      simp only [List.drop_succ_cons, List.drop_zero]
      rw [k2 r']
      simp only
      rw [hl, if_pos hu]
    · rw [if_neg hu] at h; cases h
  rw [if_neg hi] at h
  by_cases h46 : c = 46
  · rw [if_pos h46] at h
    simp only [Sum.inl.injEq, Prod.mk.injEq] at h
    obtain ⟨rfl, rfl⟩ := h
    refine ⟨by omega, by simp, fun r' hr => ?_⟩
    rw [List.take_succ_cons, List.take_zero, List.cons_append, List.nil_append, hdK, if_neg hd, if_neg h34, if_neg (by rintro ⟨e, _⟩; rw [h46] at e; exact absurd e (by decide)), if_pos h46]
  rw [if_neg h46] at h
  by_cases h91 : c = 91
  · rw [if_pos h91] at h
    rcases hp : pfK (c :: r) with ⟨g, k, e⟩
    rw [hp] at h
    simp only at h
    by_cases he : e = 0
    · rw [if_pos he] at h
      subst he
      simp only [Sum.inl.injEq, Prod.mk.injEq] at h
      obtain ⟨rfl, rfl⟩ := h
      obtain ⟨k0, k1, k2⟩ := pfK_loc hp
      refine ⟨k0, k1, fun r' hr => ?_⟩
      have h4 := k2 r'
      obtain ⟨z, rfl⟩ : ∃ z, k = z + 1 := ⟨k - 1, by omega⟩
      rw [List.take_succ_cons, List.cons_append] at h4
      rw [List.take_succ_cons, List.cons_append, hdK, if_neg hd, if_neg h34, if_neg (by rintro ⟨e, _⟩; rw [h91] at e; exact absurd e (by decide)), if_neg h46, if_pos h91, h4]
      simp
    · rw [if_neg he] at h; cases h
  · rw [if_neg h91] at h; cases h
theorem hdK_bad (uq : List UInt8 → List UInt8 × Int) {t : List UInt8} {k : Nat} (h : hdK uq t = .inr k) : k ≤ t.length := by
  cases t with
  | nil => simp only [hdK, Sum.inr.injEq] at h; omega
  | cons c r =>
  rw [hdK] at h
  by_cases hd : dgK c = true
  · rw [if_pos hd] at h
    rcases hn : nmK (c :: r) 0 0 with ⟨v, n⟩ | f
    · rw [hn] at h; cases h
    · rw [hn] at h
      simp only [Sum.inr.injEq] at h
      obtain ⟨h1, h2⟩ := nmK_bad _ _ _ _ (by omega) hn
      omega
  rw [if_neg hd] at h
  by_cases h34 : c = 34
  · rw [if_pos h34] at h
    rcases hk : clK r with _ | j
    · rw [hk] at h
      simp only [Sum.inr.injEq] at h; omega
    rw [hk] at h
    simp only at h
    by_cases hu : (uq (c :: r.take j)).2 = 0
    · rw [if_pos hu] at h; cases h
    · rw [if_neg hu] at h
      simp only [Sum.inr.injEq] at h; omega
  rw [if_neg h34] at h
  by_cases hi : c = 105 ∧ r.head? = some 34
  · rw [if_pos hi] at h
    rcases hk : clK (r.drop 1) with _ | j
    · rw [hk] at h
      simp only [Sum.inr.injEq] at h
      simp only [List.length_cons]; omega
    rw [hk] at h
    simp only at h
    by_cases hu : (uq (34 :: (r.drop 1).take j)).2 = 0
    · rw [if_pos hu] at h; cases h
    · rw [if_neg hu] at h
      simp only [Sum.inr.injEq] at h
      simp only [List.length_cons]; omega
  rw [if_neg hi] at h
  by_cases h46 : c = 46
  · rw [if_pos h46] at h; cases h
  rw [if_neg h46] at h
  by_cases h91 : c = 91
  · rw [if_pos h91] at h
    rcases hp : pfK (c :: r) with ⟨g, n, e⟩
    rw [hp] at h
    simp only at h
    by_cases he : e = 0
    · rw [if_pos he] at h; cases h
    · rw [if_neg he] at h
      simp only [Sum.inr.injEq] at h
      have := pfK_bad hp he
      omega
  · rw [if_neg h91] at h
    simp only [Sum.inr.injEq] at h; omega
theorem tkK_ok (uq : List UInt8 → List UInt8 × Int) : TkOk (tkK uq) := by
  have base : ∀ {t : List UInt8} {b : Bd} {n : Nat}, tkK uq t = .inl (b, n) → (wdK t = ruleW ∧ b = (1, 0, [], noK) ∧ n = 4) ∨ (wdK t = gapW ∧ b = (2, 0, [], noK) ∧ n = 3) ∨ (wdK t ≠ ruleW ∧ wdK t ≠ gapW ∧ hdK uq t = .inl (b, n)) := by
    intro t b n h
    unfold tkK at h
    by_cases h1 : wdK t = ruleW
    · rw [if_pos h1] at h
      simp only [Sum.inl.injEq, Prod.mk.injEq] at h
      exact .inl ⟨h1, h.1.symm ▸ rfl, h.2.symm⟩
    rw [if_neg h1] at h
    by_cases h2 : wdK t = gapW
    · rw [if_pos h2] at h
      simp only [Sum.inl.injEq, Prod.mk.injEq] at h
      exact .inr (.inl ⟨h2, h.1.symm ▸ rfl, h.2.symm⟩)
    rw [if_neg h2] at h
    exact .inr (.inr ⟨h1, h2, h⟩)
  refine ⟨fun {t b n} _ h => ?_, fun {t b n} _ h hd r hr => ?_, fun {t k} h => ?_⟩
  · rcases base h with ⟨h1, _, rfl⟩ | ⟨h1, _, rfl⟩ | ⟨_, _, h3⟩
    · have := wd_len t; rw [h1] at this; exact ⟨by omega, this⟩
    · have := wd_len t; rw [h1] at this; exact ⟨by omega, this⟩
    · obtain ⟨a, b, _⟩ := hdK_loc uq h3
      exact ⟨a, b⟩
  · rcases base h with ⟨h1, rfl, rfl⟩ | ⟨h1, rfl, rfl⟩ | ⟨h1, h2, h3⟩
    · have hp := wd_pre t
      rw [h1] at hp
      have e : t.take 4 = ruleW := hp
      unfold tkK
      rw [e, wd_app _ _ hr, if_pos (by decide)]
    · have hp := wd_pre t
      rw [h1] at hp
      have e : t.take 3 = gapW := hp
      unfold tkK
      rw [e, wd_app _ _ hr, if_neg (by decide), if_pos (by decide)]
    · obtain ⟨_, _, h4⟩ := hdK_loc uq h3
      have hw : wdK (t.take n ++ r) = wdK t := by
        rw [wd_app _ _ hr]
        conv => rhs; rw [← List.take_append_drop n t]
        exact (wd_app _ _ hd).symm
      unfold tkK
      rw [hw, if_neg h1, if_neg h2]
      exact h4 r hr
  · unfold tkK at h
    by_cases h1 : wdK t = ruleW
    · rw [if_pos h1] at h; cases h
    rw [if_neg h1] at h
    by_cases h2 : wdK t = gapW
    · rw [if_pos h2] at h; cases h
    rw [if_neg h2] at h
    exact hdK_bad uq h
end Go.Proofs.YtcopnpllaoahaaaGreatDoor
namespace Go.Proofs.YtcopnpllaoahaaaGreatDoor
/-- the texts of numbers and of strings, and what is wanted of them -/
structure TxOk (uq : List UInt8 → List UInt8 × Int) (dg : Nat → List UInt8) (qb : List UInt8 → List UInt8) : Prop where
  num : ∀ n, n ≤ 999999999 → dg n ≠ [] ∧ (∀ c ∈ dg n, dgK c = true) ∧ (dg n).length ≤ 9 ∧ (dg n).foldl (fun n c => 10 * n + (c.toNat - 48)) 0 = n
  cl : ∀ s r, clK (qb s ++ r) = some (qb s).length
  un : ∀ s, uq (34 :: qb s) = (s, 0)
/-- the text of a token (qb: a quoted form behind its opening quote) -/
def txT (dg : Nat → List UInt8) (qb : List UInt8 → List UInt8) (b : Bd) (all : Bool) : List UInt8 :=
  if b.1 = 1 then ruleW else if b.1 = 2 then gapW else if b.1 = 3 then dg b.2.1 else if b.1 = 4 then 34 :: qb b.2.2.1 else if b.1 = 5 then 105 :: 34 :: qb b.2.2.1 else if all then [46] else prK b.2.2.2
theorem wd_other {c : UInt8} {u : List UInt8} (h1 : c ≠ 114) (h2 : c ≠ 103) : wdK (c :: u) ≠ ruleW ∧ wdK (c :: u) ≠ gapW := by
  unfold wdK
  rw [List.takeWhile_cons]
  by_cases hc : (c != 32) = true
  · rw [if_pos hc]
    exact ⟨fun e => by injection e with e _; exact h1 e, fun e => by injection e with e _; exact h2 e⟩
  · rw [if_neg hc]
    exact ⟨fun e => (by cases e), fun e => (by cases e)⟩
theorem tk_other (uq : List UInt8 → List UInt8 × Int) {c : UInt8} {u : List UInt8} (h1 : c ≠ 114) (h2 : c ≠ 103) : tkK uq (c :: u) = hdK uq (c :: u) := by
  obtain ⟨a, b⟩ := wd_other (u := u) h1 h2
  unfold tkK
  rw [if_neg a, if_neg b]
theorem dg_ne {c : UInt8} (h : dgK c = true) : c ≠ 114 ∧ c ≠ 103 := by
  unfold dgK at h
  have := of_decide_eq_true h
  exact ⟨fun e => by subst e; revert this; decide, fun e => by subst e; revert this; decide⟩
theorem tk_rule (uq : List UInt8 → List UInt8 × Int) {r : List UInt8} (hr : r.head? = none ∨ r.head? = some 32) : tkK uq (ruleW ++ r) = .inl ((1, 0, [], noK), 4) := by
  unfold tkK
  rw [wd_app _ _ hr, if_pos (by decide)]
theorem tk_gap (uq : List UInt8 → List UInt8 × Int) {r : List UInt8} (hr : r.head? = none ∨ r.head? = some 32) : tkK uq (gapW ++ r) = .inl ((2, 0, [], noK), 3) := by
  unfold tkK
  rw [wd_app _ _ hr, if_neg (by decide), if_pos (by decide)]
theorem tk_num {uq : List UInt8 → List UInt8 × Int} {dg : Nat → List UInt8} {qb : List UInt8 → List UInt8} (H : TxOk uq dg qb) {n : Nat} (hn : n ≤ 999999999) {r : List UInt8} (hr : r.head? = none ∨ r.head? = some 32) :
    tkK uq (dg n ++ r) = .inl ((3, n, [], noK), (dg n).length) := by
  obtain ⟨h1, h2, h3, h4⟩ := H.num n hn
  have hm := nmK_digits (dg n) 0 0 r h2 (by omega) hr
  rw [h4] at hm
  generalize dg n = ds at *
  cases ds with
  | nil => exact absurd rfl h1
  | cons c u =>
    have hc := h2 c List.mem_cons_self
    obtain ⟨a, b⟩ := dg_ne hc
    rw [List.cons_append] at hm ⊢
    rw [tk_other uq a b, hdK, if_pos hc, hm]
    simp
theorem tk_lit {uq : List UInt8 → List UInt8 × Int} {dg : Nat → List UInt8} {qb : List UInt8 → List UInt8} (H : TxOk uq dg qb) (s r : List UInt8) :
    tkK uq (34 :: qb s ++ r) = .inl ((4, 0, s, noK), (34 :: qb s).length) := by
  rw [List.cons_append, tk_other uq (by decide) (by decide), hdK, if_neg (by decide), if_pos rfl, H.cl s r]
  have hl : (qb s ++ r).take (qb s).length = qb s := List.take_left
  simp only
  rw [hl, H.un s, if_pos rfl]
  rfl
theorem tk_fold {uq : List UInt8 → List UInt8 × Int} {dg : Nat → List UInt8} {qb : List UInt8 → List UInt8} (H : TxOk uq dg qb) (s r : List UInt8) :
    tkK uq (105 :: 34 :: qb s ++ r) = .inl ((5, 0, s, noK), (105 :: 34 :: qb s).length) := by
  rw [List.cons_append, List.cons_append, tk_other uq (by decide) (by decide), hdK, if_neg (by decide), if_neg (by decide), if_pos ⟨rfl, rfl⟩]
  simp only [List.drop_succ_cons, List.drop_zero]
  rw [H.cl s r]
  have hl : (qb s ++ r).take (qb s).length = qb s := List.take_left
  simp only
  rw [hl, H.un s, if_pos rfl]
  rfl
theorem tk_all (uq : List UInt8 → List UInt8 × Int) (r : List UInt8) : tkK uq (46 :: r) = .inl ((6, 0, [], allK), 1) := by
  rw [tk_other uq (by decide) (by decide), hdK, if_neg (by decide), if_neg (by decide), if_neg (by rintro ⟨e, _⟩; exact absurd e (by decide)), if_pos rfl]
theorem prK_head (f : Nat → Bool) : ∃ u, prK f = 91 :: u := by
  unfold prK
  by_cases h : 128 < (mbK f).length
  · rw [if_pos h]; exact ⟨_, rfl⟩
  · rw [if_neg h]; exact ⟨_, rfl⟩
theorem tk_set (uq : List UInt8 → List UInt8 × Int) (f : Nat → Bool) (r : List UInt8) : ∃ g, tkK uq (prK f ++ r) = .inl ((6, 0, [], g), (prK f).length) ∧ ∀ i, i < 256 → g i = f i := by
  obtain ⟨g, h1, h2⟩ := pf_pr f r
  refine ⟨g, ?_, h2⟩
  obtain ⟨u, hu⟩ := prK_head f
  have h3 : prK f ++ r = 91 :: (u ++ r) := by rw [hu]; rfl
  rw [h3] at h1 ⊢
  rw [tk_other uq (by decide) (by decide), hdK, if_neg (by decide), if_neg (by decide), if_neg (by rintro ⟨e, _⟩; exact absurd e (by decide)), if_neg (by decide), if_pos rfl, h1]
  simp
end Go.Proofs.YtcopnpllaoahaaaGreatDoor
namespace Go.Proofs.YtcopnpllaoahaaaGreatDoor
theorem esc_shape (c : UInt8) : (escB c = [c] ∧ c ≠ 34 ∧ c ≠ 92) ∨ (∃ x, escB c = [92, x]) ∨ (∃ a b, escB c = [92, 120, a, b] ∧ a ≠ 34 ∧ a ≠ 92 ∧ b ≠ 34 ∧ b ≠ 92) := by
  refine u8_all (P := fun c => (escB c = [c] ∧ c ≠ 34 ∧ c ≠ 92) ∨ (∃ x, escB c = [92, x]) ∨ (∃ a b, escB c = [92, 120, a, b] ∧ a ≠ 34 ∧ a ≠ 92 ∧ b ≠ 34 ∧ b ≠ 92)) (fun n hn => ?_) c
  have key : ∀ k : Fin 256, (escB (UInt8.ofNat k) = [UInt8.ofNat k] ∧ UInt8.ofNat k ≠ 34 ∧ UInt8.ofNat k ≠ 92) ∨ (escB (UInt8.ofNat k) = [92, (escB (UInt8.ofNat k)).getD 1 0]) ∨ (escB (UInt8.ofNat k) = [92, 120, (escB (UInt8.ofNat k)).getD 2 0, (escB (UInt8.ofNat k)).getD 3 0] ∧ (escB (UInt8.ofNat k)).getD 2 0 ≠ 34 ∧ (escB (UInt8.ofNat k)).getD 2 0 ≠ 92 ∧ (escB (UInt8.ofNat k)).getD 3 0 ≠ 34 ∧ (escB (UInt8.ofNat k)).getD 3 0 ≠ 92) := by decide +kernel
  rcases key ⟨n, hn⟩ with h | h | h
  · exact .inl h
  · exact .inr (.inl ⟨_, h⟩)
  · exact .inr (.inr ⟨_, _, h⟩)
theorem clK_plain {c : UInt8} (h1 : c ≠ 34) (h2 : c ≠ 92) (t : List UInt8) : clK (c :: t) = (clK t).map (· + 1) := by
  cases t with
  | nil => simp [clK, h1]
  | cons d r => rw [clK, if_neg h1, if_neg h2]
theorem clK_esc (x : UInt8) (t : List UInt8) : clK (92 :: x :: t) = (clK t).map (· + 2) := by
  rw [clK, if_neg (by decide), if_pos rfl]
theorem clK_escB (c : UInt8) (t : List UInt8) : clK (escB c ++ t) = (clK t).map (· + (escB c).length) := by
  rcases esc_shape c with ⟨e, h1, h2⟩ | ⟨x, e⟩ | ⟨a, b, e, h1, h2, h3, h4⟩
  · rw [e]
    exact clK_plain h1 h2 t
  · rw [e]
    exact clK_esc x t
  · rw [e]
    show clK (92 :: 120 :: a :: b :: t) = _
    rw [clK_esc, clK_plain h1 h2, clK_plain h3 h4, Option.map_map, Option.map_map]
    rfl
theorem clK_quote : ∀ (s r : List UInt8), clK (s.flatMap escB ++ 34 :: r) = some ((s.flatMap escB).length + 1)
  | [], r => by
    cases r with
    | nil => rfl
    | cons x y => rw [List.flatMap_nil, List.nil_append, clK, if_pos rfl]; rfl
  | c :: s, r => by
    rw [List.flatMap_cons, List.append_assoc, clK_escB, clK_quote s r, Option.map_some, List.length_append]
    congr 1; omega
end Go.Proofs.YtcopnpllaoahaaaGreatDoor
namespace Go.Proofs.YtcopnpllaoahaaaGreatDoor
open Go.RowKit
theorem unq_le (l : List UInt8) : (unquoteL l).2 ≤ l.length := by
  match l with
  | [] => simp [unquoteL]
  | x :: r =>
    unfold unquoteL
    simp only
    by_cases hx : x = 34
    · rw [if_pos hx]
      rcases hq : unq (r.length + 1) r with _ | ⟨b, k⟩
      · simp
      · obtain ⟨h1, h2⟩ := unq_form hq
        have := congrArg List.length h1
        simp only [List.length_append, List.length_cons] at this ⊢
        omega
    · rw [if_neg hx]; simp
def uqOk (l : List UInt8) : Bool := decide ((unquoteL l).2 ≠ 0) && decide ((unquoteL l).2 = l.length)
/-- what Unquote returns -/
def uqS (l : List UInt8) : ByteArray := if uqOk l = true then ⟨(unquoteL l).1.toArray⟩ else ⟨#[]⟩
def uqE (l : List UInt8) : Int := if uqOk l = true then 0 else 6
theorem uq_yes {l : List UInt8} (h : uqOk l = true) : uqS l = ⟨(unquoteL l).1.toArray⟩ ∧ uqE l = 0 := ⟨if_pos h, if_pos h⟩
theorem uq_no {l : List UInt8} (h : uqOk l = false) : uqS l = ⟨#[]⟩ ∧ uqE l = 6 := by
  unfold uqS uqE; rw [h]; exact ⟨rfl, rfl⟩
theorem ret_us {a b : ByteArray} {k : IntKind} {x y : Int} (h : a = b) (h' : x = y) : Ending.returned (.tuple #[.string a, .int k x]) = .returned (.tuple #[.string b, .int k y]) := by rw [h, h']
theorem unquote' (s : ByteArray) (w : World) (hE : Esc w) (hsz : s.size ≤ 1099511627776) {b : List UInt8} {n : Nat} (h : Hid (unquoteL s.data.toList = (b, n))) :
    Calls Tryz.prog 104 #[.string s] w fun e w' => e = .returned (.tuple #[.string ⟨b.toArray⟩, .int .i64 (n : Int)]) ∧ Below w.heap.size w w' := by
  have := unquote s w hE hsz
  unfold unqV at this
  rw [h.out] at this
  exact this
set_option maxRecDepth 100000 in
set_option maxHeartbeats 400000 in
theorem unquoteW (s : ByteArray) (w : World) (hE : Esc w) (hsz : s.size ≤ 1099511627776) :
    Calls Tryz.prog 83 #[.string s] w fun e w' => e = .returned (.tuple #[.string (uqS s.data.toList), .int .i64 (uqE s.data.toList)]) ∧ Below w.heap.size w w' := by
  rcases hq : unquoteL s.data.toList with ⟨b, n⟩
  have hle := unq_le s.data.toList
  have hsl : s.data.toList.length = s.size := by simp
  rw [hq, hsl] at hle
  simp only at hle
  have Hq := Lib.hid hq
  by_cases hn : n = 0
  · have m1 : ((n : Int) == 0) = true := by simp [hn]
    have hR := Lib.hid (uq_no (l := s.data.toList) (by unfold uqOk; rw [hq]; simp [hn]))
    clear hq hsl hn
    go_enter Tryz.func83, Tryz.ntmps83
    go_wp2_with fail
    (with_reducible refine (unquote' s w hE hsz Hq).mono ?_); rintro e w1 ⟨rfl, hb1⟩
    go_wp2
    go_ret2
    exact ⟨ret_us (by rw [hR.out.1]) (by rw [hR.out.2]), hb1⟩
  have m1 : ((n : Int) == 0) = false := by rw [beq_eq_false_iff_ne]; omega
  by_cases hns : n = s.size
  · have m2 : s.size ≤ n := by omega
    have hR := Lib.hid (uq_yes (l := s.data.toList) (by unfold uqOk; rw [hq, hsl]; simp only [Bool.and_eq_true, decide_eq_true_eq]; exact ⟨by omega, hns⟩))
    rw [hq] at hR
    clear hq hsl hn hns
    go_enter Tryz.func83, Tryz.ntmps83
    go_wp2_with fail
    (with_reducible refine (unquote' s w hE hsz Hq).mono ?_); rintro e w1 ⟨rfl, hb1⟩
    go_wp2
    go_ret2
    exact ⟨ret_us (by rw [hR.out.1]) (by rw [hR.out.2]), hb1⟩
  · have m2 : n < s.size := by omega
    have hR := Lib.hid (uq_no (l := s.data.toList) (by unfold uqOk; rw [hq, hsl]; simp [hns]))
    clear hq hsl hn hns
    go_enter Tryz.func83, Tryz.ntmps83
    go_wp2_with fail
    (with_reducible refine (unquote' s w hE hsz Hq).mono ?_); rintro e w1 ⟨rfl, hb1⟩
    go_wp2
    go_ret2
    exact ⟨ret_us (by rw [hR.out.1]) (by rw [hR.out.2]), hb1⟩

theorem escapedI (i : Int) (c : UInt8) (hi : Hid (i = (c.toNat : Int))) (w : World) :
    Calls Tryz.prog 88 #[.int .u8 i] w fun e w' => e = .returned (.string (escS c)) ∧ Below w.heap.size w w' := by
  rw [hi.out]; exact escaped c w
/-- the search for the byte whose form stands here -/
def Seek (R : List UInt8) (out out' : List UInt8) (a a' : Nat) (found : Bool) (c : Nat) : Prop :=
  (found = false ∧ out' = out ∧ a' = a ∧ ∀ d, d < c → ¬ escB (UInt8.ofNat d) <+: R) ∨ (found = true ∧ ∃ d n, headQ R = some (d, n) ∧ out' = out ++ [d] ∧ a' = a + n)
theorem headQ_pre {R : List UInt8} {c : UInt8} (h : escB c <+: R) : headQ R = some (c, (escB c).length) := by
  obtain ⟨t, rfl⟩ := h
  exact headQ_esc c t
theorem headQ_nopre {R : List UInt8} (h : ∀ d, d < 256 → ¬ escB (UInt8.ofNat d) <+: R) : headQ R = none := by
  rcases hh : headQ R with _ | ⟨c, n⟩
  · rfl
  · obtain ⟨h1, _⟩ := headQ_form hh
    have hh2 := h c.toNat c.toNat_lt
    rw [UInt8.ofNat_toNat] at hh2
    exact absurd ⟨_, h1.symm⟩ hh2
theorem ext_list2 (s : ByteArray) (a b : Nat) : (s.extract a b).data.toList = (s.data.toList.drop a).take (b - a) := by
  rw [ByteArray.data_extract, Array.toList_extract]
theorem ext_pre {s f : ByteArray} {a : Nat} (h : f.data.toList <+: s.data.toList.drop a) (ha : a ≤ s.size) : a + f.size ≤ s.size ∧ s.extract a (a + f.size) = f := by
  have h1 := h.length_le
  have h2 : f.data.toList.length = f.size := by simp
  have h3 : s.data.toList.length = s.size := by simp
  rw [List.length_drop] at h1
  refine ⟨by omega, ?_⟩
  apply ByteArray.ext
  apply Array.toList_inj.1
  rw [ext_list2, show a + f.size - a = f.data.toList.length by omega]
  exact (List.prefix_iff_eq_take.1 h).symm
theorem pre_ext {s f : ByteArray} {a : Nat} (h : s.extract a (a + f.size) = f) : f.data.toList <+: s.data.toList.drop a := by
  have := congrArg (fun b : ByteArray => b.data.toList) h
  rw [ext_list2] at this
  rw [← this]
  exact List.take_prefix _ _
theorem beq_list {a b : ByteArray} : (a.toList == b.toList) = decide (a = b) := by
  have e : (a.toList = b.toList) ↔ a = b := ⟨fun h => by rw [ByteArray.toList_eq, ByteArray.toList_eq] at h; exact ByteArray.ext (Array.toList_inj.1 h), fun h => by rw [h]⟩
  rw [Bool.eq_iff_iff]
  simp [e]
end Go.Proofs.YtcopnpllaoahaaaGreatDoor
namespace Go.Proofs.YtcopnpllaoahaaaGreatDoor
/-- what Unquote answers, in lists -/
def uqK (l : List UInt8) : List UInt8 × Int := ((uqS l).data.toList, uqE l)
/-- a quoted form behind its opening quote -/
def qbK (s : List UInt8) : List UInt8 := s.flatMap escB ++ [34]
theorem qb_quote (s : List UInt8) : quoteB s = 34 :: qbK s := rfl
theorem uq_quoted (s : List UInt8) : uqK (34 :: qbK s) = (s, 0) := by
  have h1 := unquoteL_quote s
  rw [qb_quote] at h1
  have h2 : uqOk (34 :: qbK s) = true := by
    unfold uqOk
    rw [h1]
    simp
  obtain ⟨h3, h4⟩ := uq_yes h2
  unfold uqK
  rw [h3, h4, h1]
theorem txOk : TxOk uqK Lib.decDigits qbK := by
  refine ⟨fun n hn => ?_, fun s r => ?_, uq_quoted⟩
  · obtain ⟨h1, h2, _, h4, _⟩ := dec_parts n
    obtain ⟨d1, d2⟩ := dec_digs n
    refine ⟨h4, fun c hc => ?_, ?_, h2⟩
    · have := (digB_iff c).1 (List.all_eq_true.1 h1 c hc)
      unfold dgK
      exact decide_eq_true this
    · rcases Nat.lt_or_ge 9 (Lib.decDigits n).length with h | h
      · exfalso
        have h5 := digs_ge d1 (by omega)
        have h6 : 10 ^ 9 ≤ 10 ^ ((Lib.decDigits n).length - 1) := Nat.pow_le_pow_right (by decide) (by omega)
        rw [d2] at h5
        omega
      · exact h
  · unfold qbK
    rw [List.append_assoc]
    have := clK_quote s r
    rw [List.length_append]
    exact this
end Go.Proofs.YtcopnpllaoahaaaGreatDoor
