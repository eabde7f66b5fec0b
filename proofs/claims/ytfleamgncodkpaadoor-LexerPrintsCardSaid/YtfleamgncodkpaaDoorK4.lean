/- Tokens: what is taken at a place, over any reading of quoted forms: plain laws. No condition. -/
import Derived.Test.YtfleamgncodkpaaDoorK3
namespace Go.Proofs.YtfleamgncodkpaaDoor
/-- behind an opening quote: how many bytes up to the closing one, with it -/
def clK : List UInt8 → Option Nat
  | [] => none
  | [c] => if c = 34 then some 1 else none
  | c :: d :: r => if c = 34 then some 1 else if c = 92 then (clK r).map (· + 2) else (clK (d :: r)).map (· + 1)
theorem clK_loc : ∀ (q : Nat) (u : List UInt8) (k : Nat), u.length ≤ q → clK u = some k → 0 < k ∧ k ≤ u.length ∧ ∀ r, clK (u.take k ++ r) = some k
  | _, [], k, _, h => by simp [clK] at h
  | _, [c], k, _, h => by
    by_cases hc : c = 34
    · rw [clK, if_pos hc] at h
      injection h with h
      subst h
      refine ⟨by omega, by simp, fun r => ?_⟩
      simp only [List.take_succ_cons, List.take_zero, List.cons_append, List.nil_append]
      cases r with
      | nil => rw [clK, if_pos hc]
      | cons x y => rw [clK, if_pos hc]
    · rw [clK, if_neg hc] at h; cases h
  | 0, c :: d :: u, k, hq, _ => absurd hq (by simp)
  | q + 1, c :: d :: u, k, hq, h => by
    simp only [List.length_cons] at hq
    by_cases hc : c = 34
    · rw [clK, if_pos hc] at h
      injection h with h
      subst h
      refine ⟨by omega, by simp, fun r => ?_⟩
      simp only [List.take_succ_cons, List.take_zero, List.cons_append, List.nil_append]
      cases r with
      | nil => rw [clK, if_pos hc]
      | cons x y => rw [clK, if_pos hc]
    rw [clK, if_neg hc] at h
    by_cases h2 : c = 92
    · rw [if_pos h2] at h
      obtain ⟨j, hj, rfl⟩ := Option.map_eq_some_iff.1 h
      obtain ⟨j0, j1, j2⟩ := clK_loc q u j (by omega) hj
      refine ⟨by omega, by simp only [List.length_cons]; omega, fun r => ?_⟩
      rw [List.take_succ_cons, List.take_succ_cons, List.cons_append, List.cons_append, clK, if_neg hc, if_pos h2, j2 r]
      rfl
    · rw [if_neg h2] at h
      obtain ⟨j, hj, rfl⟩ := Option.map_eq_some_iff.1 h
      obtain ⟨j0, j1, j2⟩ := clK_loc q (d :: u) j (by simp only [List.length_cons]; omega) hj
      refine ⟨by omega, by simp only [List.length_cons] at j1 ⊢; omega, fun r => ?_⟩
      have h3 := j2 r
      obtain ⟨z, rfl⟩ : ∃ z, j = z + 1 := ⟨j - 1, by omega⟩
      rw [List.take_succ_cons, List.cons_append] at h3
      rw [List.take_succ_cons, List.take_succ_cons, List.cons_append, List.cons_append, clK, if_neg hc, if_neg h2, h3]
      rfl
def wdK (t : List UInt8) : List UInt8 := t.takeWhile (· != 32)
theorem wd_app : ∀ (a b : List UInt8), (b.head? = none ∨ b.head? = some 32) → wdK (a ++ b) = wdK a
  | [], b, h => by
    cases b with
    | nil => rfl
    | cons c u =>
      have hc : c = 32 := by simpa using h
      subst hc
      simp [wdK]
  | c :: a, b, h => by
    have ih := wd_app a b h
    unfold wdK at *
    rw [List.cons_append, List.takeWhile_cons, List.takeWhile_cons, ih]
theorem wd_pre : ∀ (t : List UInt8), t.take (wdK t).length = wdK t
  | [] => rfl
  | c :: u => by
    have ih := wd_pre u
    unfold wdK at *
    rw [List.takeWhile_cons]
    by_cases hc : (c != 32) = true
    · rw [if_pos hc, List.length_cons, List.take_succ_cons, ih]
    · rw [if_neg hc]; rfl
theorem wd_idem : ∀ (t : List UInt8), wdK (wdK t) = wdK t
  | [] => rfl
  | c :: u => by
    have ih := wd_idem u
    unfold wdK at *
    rw [List.takeWhile_cons]
    by_cases hc : (c != 32) = true
    · rw [if_pos hc, List.takeWhile_cons, if_pos hc, ih]
    · rw [if_neg hc]; rfl
theorem wd_len (t : List UInt8) : (wdK t).length ≤ t.length := by
  have := congrArg List.length (wd_pre t)
  rw [List.length_take] at this
  omega
abbrev Bd := Nat × Nat × List UInt8 × (Nat → Bool)
def ruleW : List UInt8 := [114, 117, 108, 101]
def gapW : List UInt8 := [103, 97, 112]
def noK : Nat → Bool := fun _ => false
def allK : Nat → Bool := fun i => decide (i < 256)
/-- the token at the head of a text that is no word -/
def hdK (uq : List UInt8 → List UInt8 × Int) : List UInt8 → (Bd × Nat) ⊕ Nat
  | [] => .inr 0
  | c :: r =>
    if dgK c = true then (match nmK (c :: r) 0 0 with
      | .inl (v, n) => .inl ((3, v, [], noK), n)
      | .inr f => .inr f)
    else if c = 34 then (match clK r with
      | some k => if (uq (c :: r.take k)).2 = 0 then .inl ((4, 0, (uq (c :: r.take k)).1, noK), k + 1) else .inr 0
      | none => .inr 0)
    else if c = 105 ∧ r.head? = some 34 then (match clK (r.drop 1) with
      | some k => if (uq (34 :: (r.drop 1).take k)).2 = 0 then .inl ((5, 0, (uq (34 :: (r.drop 1).take k)).1, noK), k + 2) else .inr 1
      | none => .inr 1)
    else if c = 46 then .inl ((6, 0, [], allK), 1)
    else if c = 91 then (match pfK (c :: r) with
      | (g, n, e) => if e = 0 then .inl ((6, 0, [], g), n) else .inr n)
    else .inr 0
def tkK (uq : List UInt8 → List UInt8 × Int) (t : List UInt8) : (Bd × Nat) ⊕ Nat :=
  if wdK t = ruleW then .inl ((1, 0, [], noK), 4) else if wdK t = gapW then .inl ((2, 0, [], noK), 3) else hdK uq t
theorem nmK_pos {c : UInt8} {r : List UInt8} (hc : dgK c = true) {v n : Nat} (h : nmK (c :: r) 0 0 = .inl (v, n)) : 0 < n := by
  rw [nmK, if_pos hc, if_neg (by omega)] at h
  have := (nmK_loc _ _ _ _ _ h).1
  omega
theorem hdK_loc (uq : List UInt8 → List UInt8 × Int) {t : List UInt8} {b : Bd} {n : Nat} (h : hdK uq t = .inl (b, n)) : 0 < n ∧ n ≤ t.length ∧ ∀ r : List UInt8, (r.head? = none ∨ r.head? = some 32) → hdK uq (t.take n ++ r) = .inl (b, n) := by
  cases t with
  | nil => cases h
  | cons c r =>
  rw [hdK] at h
  by_cases hd : dgK c = true
  · rw [if_pos hd] at h
    rcases hn : nmK (c :: r) 0 0 with ⟨v, k⟩ | f
    · rw [hn] at h
      simp only [Sum.inl.injEq, Prod.mk.injEq] at h
      obtain ⟨rfl, rfl⟩ := h
      have hp := nmK_pos hd hn
      obtain ⟨_, h2, h3⟩ := nmK_loc _ _ _ _ _ hn
      refine ⟨hp, by omega, fun r' hr => ?_⟩
      have h4 := h3 r' hr
      obtain ⟨z, rfl⟩ : ∃ z, k = z + 1 := ⟨k - 1, by omega⟩
      rw [Nat.sub_zero, List.take_succ_cons, List.cons_append] at h4
      rw [List.take_succ_cons, List.cons_append, hdK, if_pos hd, h4]
    · rw [hn] at h; cases h
  rw [if_neg hd] at h
  by_cases h34 : c = 34
  · rw [if_pos h34] at h
    rcases hk : clK r with _ | k
    · rw [hk] at h; cases h
    rw [hk] at h
    simp only at h
    obtain ⟨k0, k1, k2⟩ := clK_loc _ _ _ (Nat.le_refl _) hk
    by_cases hu : (uq (c :: r.take k)).2 = 0
    · rw [if_pos hu] at h
      simp only [Sum.inl.injEq, Prod.mk.injEq] at h
      obtain ⟨rfl, rfl⟩ := h
      refine ⟨by omega, by simp only [List.length_cons]; omega, fun r' hr => ?_⟩
      have hl : (r.take k ++ r').take k = r.take k := by
        have hz : (r.take k).length = k := by rw [List.length_take]; omega
        have := List.take_left (l₁ := r.take k) (l₂ := r')
        rwa [hz] at this
      rw [List.take_succ_cons, List.cons_append, hdK, if_neg hd, if_pos h34, k2 r']
      simp only
      rw [hl, if_pos hu]
    · rw [if_neg hu] at h; cases h
  rw [if_neg h34] at h
  by_cases hi : c = 105 ∧ r.head? = some 34
  · rw [if_pos hi] at h
    rcases hk : clK (r.drop 1) with _ | k
    · rw [hk] at h; cases h
    rw [hk] at h
    simp only at h
    obtain ⟨k0, k1, k2⟩ := clK_loc _ _ _ (Nat.le_refl _) hk
    rw [List.length_drop] at k1
    by_cases hu : (uq (34 :: (r.drop 1).take k)).2 = 0
    · rw [if_pos hu] at h
      simp only [Sum.inl.injEq, Prod.mk.injEq] at h
      obtain ⟨rfl, rfl⟩ := h
      obtain ⟨u, rfl⟩ : ∃ u, r = 34 :: u := by
        cases r with
        | nil => cases hi.2
        | cons x y => exact ⟨y, by simpa using hi.2⟩
      simp only [List.drop_succ_cons, List.drop_zero, List.length_cons] at *
      refine ⟨by omega, by omega, fun r' hr => ?_⟩
      have hl : (u.take k ++ r').take k = u.take k := by
        have hz : (u.take k).length = k := by rw [List.length_take]; omega
        have := List.take_left (l₁ := u.take k) (l₂ := r')
        rwa [hz] at this
      rw [List.take_succ_cons, List.take_succ_cons, List.cons_append, List.cons_append, hdK, if_neg hd, if_neg h34, if_pos ⟨hi.1, rfl⟩]
      simp only [List.drop_succ_cons, List.drop_zero]
      rw [k2 r']
      simp only
      rw [hl, if_pos hu]
    · rw [if_neg hu] at h; cases h
  rw [if_neg hi] at h
  by_cases h46 : c = 46
  · rw [if_pos h46] at h
    simp only [Sum.inl.injEq, Prod.mk.injEq] at h
    obtain ⟨rfl, rfl⟩ := h
    refine ⟨by omega, by simp, fun r' hr => ?_⟩
    rw [List.take_succ_cons, List.take_zero, List.cons_append, List.nil_append, hdK, if_neg hd, if_neg h34, if_neg (by rintro ⟨e, _⟩; rw [h46] at e; exact absurd e (by decide)), if_pos h46]
  rw [if_neg h46] at h
  by_cases h91 : c = 91
  · rw [if_pos h91] at h
    rcases hp : pfK (c :: r) with ⟨g, k, e⟩
    rw [hp] at h
    simp only at h
    by_cases he : e = 0
    · rw [if_pos he] at h
      subst he
      simp only [Sum.inl.injEq, Prod.mk.injEq] at h
      obtain ⟨rfl, rfl⟩ := h
      obtain ⟨k0, k1, k2⟩ := pfK_loc hp
      refine ⟨k0, k1, fun r' hr => ?_⟩
      have h4 := k2 r'
      obtain ⟨z, rfl⟩ : ∃ z, k = z + 1 := ⟨k - 1, by omega⟩
      rw [List.take_succ_cons, List.cons_append] at h4
      rw [List.take_succ_cons, List.cons_append, hdK, if_neg hd, if_neg h34, if_neg (by rintro ⟨e, _⟩; rw [h91] at e; exact absurd e (by decide)), if_neg h46, if_pos h91, h4]
      simp
    · rw [if_neg he] at h; cases h
  · rw [if_neg h91] at h; cases h
theorem hdK_bad (uq : List UInt8 → List UInt8 × Int) {t : List UInt8} {k : Nat} (h : hdK uq t = .inr k) : k ≤ t.length := by
  cases t with
  | nil => simp only [hdK, Sum.inr.injEq] at h; omega
  | cons c r =>
  rw [hdK] at h
  by_cases hd : dgK c = true
  · rw [if_pos hd] at h
    rcases hn : nmK (c :: r) 0 0 with ⟨v, n⟩ | f
    · rw [hn] at h; cases h
    · rw [hn] at h
      simp only [Sum.inr.injEq] at h
      obtain ⟨h1, h2⟩ := nmK_bad _ _ _ _ (by omega) hn
      omega
  rw [if_neg hd] at h
  by_cases h34 : c = 34
  · rw [if_pos h34] at h
    rcases hk : clK r with _ | j
    · rw [hk] at h
      simp only [Sum.inr.injEq] at h; omega
    rw [hk] at h
    simp only at h
    by_cases hu : (uq (c :: r.take j)).2 = 0
    · rw [if_pos hu] at h; cases h
    · rw [if_neg hu] at h
      simp only [Sum.inr.injEq] at h; omega
  rw [if_neg h34] at h
  by_cases hi : c = 105 ∧ r.head? = some 34
  · rw [if_pos hi] at h
    rcases hk : clK (r.drop 1) with _ | j
    · rw [hk] at h
      simp only [Sum.inr.injEq] at h
      simp only [List.length_cons]; omega
    rw [hk] at h
    simp only at h
    by_cases hu : (uq (34 :: (r.drop 1).take j)).2 = 0
    · rw [if_pos hu] at h; cases h
    · rw [if_neg hu] at h
      simp only [Sum.inr.injEq] at h
      simp only [List.length_cons]; omega
  rw [if_neg hi] at h
  by_cases h46 : c = 46
  · rw [if_pos h46] at h; cases h
  rw [if_neg h46] at h
  by_cases h91 : c = 91
  · rw [if_pos h91] at h
    rcases hp : pfK (c :: r) with ⟨g, n, e⟩
    rw [hp] at h
    simp only at h
    by_cases he : e = 0
    · rw [if_pos he] at h; cases h
    · rw [if_neg he] at h
      simp only [Sum.inr.injEq] at h
      have := pfK_bad hp he
      omega
  · rw [if_neg h91] at h
    simp only [Sum.inr.injEq] at h; omega
theorem tkK_ok (uq : List UInt8 → List UInt8 × Int) : TkOk (tkK uq) := by
  have base : ∀ {t : List UInt8} {b : Bd} {n : Nat}, tkK uq t = .inl (b, n) → (wdK t = ruleW ∧ b = (1, 0, [], noK) ∧ n = 4) ∨ (wdK t = gapW ∧ b = (2, 0, [], noK) ∧ n = 3) ∨ (wdK t ≠ ruleW ∧ wdK t ≠ gapW ∧ hdK uq t = .inl (b, n)) := by
    intro t b n h
    unfold tkK at h
    by_cases h1 : wdK t = ruleW
    · rw [if_pos h1] at h
      simp only [Sum.inl.injEq, Prod.mk.injEq] at h
      exact .inl ⟨h1, h.1.symm ▸ rfl, h.2.symm⟩
    rw [if_neg h1] at h
    by_cases h2 : wdK t = gapW
    · rw [if_pos h2] at h
      simp only [Sum.inl.injEq, Prod.mk.injEq] at h
      exact .inr (.inl ⟨h2, h.1.symm ▸ rfl, h.2.symm⟩)
    rw [if_neg h2] at h
    exact .inr (.inr ⟨h1, h2, h⟩)
  refine ⟨fun {t b n} _ h => ?_, fun {t b n} _ h hd r hr => ?_, fun {t k} h => ?_⟩
  · rcases base h with ⟨h1, _, rfl⟩ | ⟨h1, _, rfl⟩ | ⟨_, _, h3⟩
    · have := wd_len t; rw [h1] at this; exact ⟨by omega, this⟩
    · have := wd_len t; rw [h1] at this; exact ⟨by omega, this⟩
    · obtain ⟨a, b, _⟩ := hdK_loc uq h3
      exact ⟨a, b⟩
  · rcases base h with ⟨h1, rfl, rfl⟩ | ⟨h1, rfl, rfl⟩ | ⟨h1, h2, h3⟩
    · have hp := wd_pre t
      rw [h1] at hp
      have e : t.take 4 = ruleW := hp
      unfold tkK
      rw [e, wd_app _ _ hr, if_pos (by decide)]
    · have hp := wd_pre t
      rw [h1] at hp
      have e : t.take 3 = gapW := hp
      unfold tkK
      rw [e, wd_app _ _ hr, if_neg (by decide), if_pos (by decide)]
    · obtain ⟨_, _, h4⟩ := hdK_loc uq h3
      have hw : wdK (t.take n ++ r) = wdK t := by
        rw [wd_app _ _ hr]
        conv => rhs; rw [← List.take_append_drop n t]
        exact (wd_app _ _ hd).symm
      unfold tkK
      rw [hw, if_neg h1, if_neg h2]
      exact h4 r hr
  · unfold tkK at h
    by_cases h1 : wdK t = ruleW
    · rw [if_pos h1] at h; cases h
    rw [if_neg h1] at h
    by_cases h2 : wdK t = gapW
    · rw [if_pos h2] at h; cases h
    rw [if_neg h2] at h
    exact hdK_bad uq h
end Go.Proofs.YtfleamgncodkpaaDoor
