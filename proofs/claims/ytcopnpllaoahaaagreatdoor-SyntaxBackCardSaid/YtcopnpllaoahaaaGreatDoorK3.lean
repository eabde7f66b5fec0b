/- Tokens' texts: a set's text and a number's text end where they end: plain laws. No condition. -/
import Derived.Test.YtcopnpllaoahaaaGreatDoorK2
namespace Go.Proofs.YtcopnpllaoahaaaGreatDoor
theorem onK_loc {t : List UInt8} {b : UInt8} {k : Nat} (h : onK t = (some b, k)) : 0 < k ∧ k ≤ t.length ∧ ∀ r, onK (t.take k ++ r) = (some b, k) := by
  match t with
  | [] => simp [onK] at h
  | c :: u =>
    by_cases hc : c = 92
    · subst hc
      match u with
      | [] => simp [onK] at h
      | d :: u2 =>
        by_cases hs : spK d = true
        · have : onK (92 :: d :: u2) = (some d, 2) := by simp [onK, hs]
          rw [this] at h
          injection h with h1 h2
          injection h1 with h1
          subst h1 h2
          exact ⟨by omega, by simp, fun r => by simp [onK, hs]⟩
        · by_cases hd : d = 120
          · subst hd
            match u2 with
            | [] => simp [onK, hs] at h
            | x :: u3 =>
              by_cases hx : vlK x = 16
              · simp [onK, hs, hx] at h
              · match u3 with
                | [] => simp [onK, hs, hx] at h
                | y :: u4 =>
                  by_cases hy : vlK y = 16
                  · simp [onK, hs, hx, hy] at h
                  · have : onK (92 :: 120 :: x :: y :: u4) = (some (UInt8.ofNat (16 * vlK x + vlK y)), 4) := by simp [onK, hs, hx, hy]
                    rw [this] at h
                    injection h with h1 h2
                    injection h1 with h1
                    subst h1 h2
                    exact ⟨by omega, by simp, fun r => by simp [onK, hs, hx, hy]⟩
          · simp [onK, hs, hd] at h
    · by_cases hp : (plK c && !spK c) = true
      · have : onK (c :: u) = (some c, 1) := by simp only [onK]; rw [if_pos hc, if_pos hp]
        rw [this] at h
        injection h with h1 h2
        injection h1 with h1
        subst h1 h2
        exact ⟨by omega, by simp, fun r => by simp only [List.take_succ_cons, List.take_zero, List.cons_append, List.nil_append, onK]; rw [if_pos hc, if_pos hp]⟩
      · have : onK (c :: u) = (none, 0) := by simp only [onK]; rw [if_pos hc, if_neg hp]
        rw [this] at h; cases h
theorem onK_bad {t : List UInt8} {k : Nat} (h : onK t = (none, k)) : k ≤ t.length := by
  match t with
  | [] => simp [onK] at h; omega
  | c :: u =>
    unfold onK at h
    repeat' (split at h)
    all_goals (simp only [Prod.mk.injEq, reduceCtorEq, false_and, true_and] at h)
    all_goals (try (subst h; first
      | (simp; done)
      | (rename_i heq; injection heq with _ h2; rw [h2]; simp; done)
      | (rename_i heq _; injection heq with _ h2; rw [h2]; simp; done)))
theorem tk_split (t r : List UInt8) {k n : Nat} (hk : k ≤ n) : t.take n ++ r = t.take k ++ ((t.drop k).take (n - k) ++ r) := by
  rw [← List.append_assoc]
  congr 1
  conv => lhs; rw [show n = k + (n - k) by omega, List.take_add]
theorem tk_drop (t r : List UInt8) {k n : Nat} (hk : k ≤ n) (hn : k ≤ t.length) : (t.take n ++ r).drop k = (t.drop k).take (n - k) ++ r := by
  rw [tk_split t r hk]
  have hl : (t.take k).length = k := by rw [List.length_take]; omega
  have := List.drop_left (l₁ := t.take k) (l₂ := (t.drop k).take (n - k) ++ r)
  rwa [hl] at this
theorem tk_head (t r : List UInt8) {n : Nat} (h0 : 0 < n) (hn : n ≤ t.length) : (t.take n ++ r).head? = t.head? := by
  cases t with
  | nil => simp at hn; omega
  | cons c u =>
    obtain ⟨n, rfl⟩ : ∃ q, n = q + 1 := ⟨n - 1, by omega⟩
    simp
theorem pxK_loc : ∀ (q : Nat) (t : List UInt8) (at_ : Nat) (acc g : Nat → Bool) (e : Nat), pxK q t at_ acc = (g, e, 0) → ∃ n, e = at_ + n ∧ 0 < n ∧ n ≤ t.length ∧ ∀ (q' : Nat) (r : List UInt8), n ≤ q' → pxK q' (t.take n ++ r) at_ acc = (g, e, 0)
  | 0, t, at_, acc, g, e, h => by simp [pxK] at h
  | q + 1, [], at_, acc, g, e, h => by simp [pxK] at h
  | q + 1, c :: u, at_, acc, g, e, h => by
    rw [pxK] at h
    by_cases hc : c = 93
    · rw [if_pos hc] at h
      simp only [Prod.mk.injEq, and_true] at h
      obtain ⟨rfl, rfl⟩ := h
      refine ⟨1, rfl, by omega, by simp, fun q' r hq => ?_⟩
      obtain ⟨q', rfl⟩ : ∃ z, q' = z + 1 := ⟨q' - 1, by omega⟩
      simp only [List.take_succ_cons, List.take_zero, List.cons_append, List.nil_append]
      rw [pxK, if_pos hc]
    rw [if_neg hc] at h
    rcases ho : onK (c :: u) with ⟨_ | lo, k⟩
    · rw [ho] at h
      simp only [Prod.mk.injEq] at h
      exact absurd h.2.2 (by decide)
    rw [ho] at h
    simp only at h
    obtain ⟨k1, k2, k3⟩ := onK_loc ho
    by_cases hd : ((c :: u).drop k).head? = some 45
    · rw [if_pos hd] at h
      rcases ho2 : onK ((c :: u).drop (k + 1)) with ⟨_ | hi, j⟩
      · rw [ho2] at h
        simp only [Prod.mk.injEq] at h
        exact absurd h.2.2 (by decide)
      rw [ho2] at h
      simp only at h
      obtain ⟨j1, j2, j3⟩ := onK_loc ho2
      rw [List.length_drop] at j2
      by_cases hlt : hi.toNat < lo.toNat
      · rw [if_pos hlt] at h
        simp only [Prod.mk.injEq] at h
        exact absurd h.2.2 (by decide)
      rw [if_neg hlt] at h
      obtain ⟨n, e1, e2, e3, e4⟩ := pxK_loc q _ _ _ _ _ h
      rw [List.length_drop] at e3
      refine ⟨k + 1 + j + n, by omega, by omega, by omega, fun q' r hq => ?_⟩
      obtain ⟨q', rfl⟩ : ∃ z, q' = z + 1 := ⟨q' - 1, by omega⟩
      have g1 : onK ((c :: u).take (k + 1 + j + n) ++ r) = (some lo, k) := by rw [tk_split _ r (show k ≤ k + 1 + j + n by omega)]; exact k3 _
      have g2 : ((c :: u).take (k + 1 + j + n) ++ r).drop k = ((c :: u).drop k).take (1 + j + n) ++ r := by rw [tk_drop _ r (by omega) k2]; congr 2; omega
      have g3 : ((c :: u).take (k + 1 + j + n) ++ r).drop (k + 1) = ((c :: u).drop (k + 1)).take (j + n) ++ r := by rw [tk_drop _ r (by omega) (by omega)]; congr 2; omega
      have g4 : ((c :: u).take (k + 1 + j + n) ++ r).drop (k + 1 + j) = ((c :: u).drop (k + 1 + j)).take n ++ r := by rw [tk_drop _ r (by omega) (by omega)]; congr 2; omega
      have g5 : (((c :: u).drop k).take (1 + j + n) ++ r).head? = some 45 := by rw [tk_head _ r (by omega) (by rw [List.length_drop]; omega)]; exact hd
      have g6 : onK (((c :: u).drop (k + 1)).take (j + n) ++ r) = (some hi, j) := by rw [tk_split _ r (show j ≤ j + n by omega)]; exact j3 _
      have hz : (c :: u).take (k + 1 + j + n) ++ r = c :: (u.take (k + j + n) ++ r) := by rw [show k + 1 + j + n = (k + j + n) + 1 by omega, List.take_succ_cons, List.cons_append]
      rw [hz] at g1 g2 g3 g4 ⊢
      rw [pxK, if_neg hc, g1]
      simp only
      rw [g2, if_pos g5, g3, g6]
      simp only
      rw [if_neg hlt, g4]
      exact e4 q' r (by omega)
    · rw [if_neg hd] at h
      obtain ⟨n, e1, e2, e3, e4⟩ := pxK_loc q _ _ _ _ _ h
      rw [List.length_drop] at e3
      refine ⟨k + n, by omega, by omega, by omega, fun q' r hq => ?_⟩
      obtain ⟨q', rfl⟩ : ∃ z, q' = z + 1 := ⟨q' - 1, by omega⟩
      have g1 : onK ((c :: u).take (k + n) ++ r) = (some lo, k) := by rw [tk_split _ r (show k ≤ k + n by omega)]; exact k3 _
      have g2 : ((c :: u).take (k + n) ++ r).drop k = ((c :: u).drop k).take n ++ r := by rw [tk_drop _ r (by omega) k2]; congr 2; omega
      have g5 : (((c :: u).drop k).take n ++ r).head? ≠ some 45 := by rw [tk_head _ r e2 (by rw [List.length_drop]; omega)]; exact hd
      have hz : (c :: u).take (k + n) ++ r = c :: (u.take (k + n - 1) ++ r) := by
        obtain ⟨z, hz⟩ : ∃ z, k + n = z + 1 := ⟨k + n - 1, by omega⟩
        rw [hz, List.take_succ_cons, List.cons_append]; rfl
      rw [hz] at g1 g2 ⊢
      rw [pxK, if_neg hc, g1]
      simp only
      rw [g2, if_neg g5]
      exact e4 q' r (by omega)
theorem pxK_bad : ∀ (q : Nat) (t : List UInt8) (at_ : Nat) (acc g : Nat → Bool) (e : Nat) (er : Int), t.length < q → pxK q t at_ acc = (g, e, er) → er ≠ 0 → e ≤ at_ + t.length
  | 0, _, _, _, _, _, _, h, _, _ => absurd h (by omega)
  | q + 1, [], at_, acc, g, e, er, _, h, _ => by
    simp only [pxK, Prod.mk.injEq] at h
    omega
  | q + 1, c :: u, at_, acc, g, e, er, hq, h, her => by
    rw [pxK] at h
    simp only [List.length_cons] at hq ⊢
    by_cases hc : c = 93
    · rw [if_pos hc] at h
      simp only [Prod.mk.injEq] at h
      exact absurd h.2.2.symm her
    rw [if_neg hc] at h
    rcases ho : onK (c :: u) with ⟨_ | lo, k⟩
    · rw [ho] at h
      simp only [Prod.mk.injEq] at h
      have := onK_bad ho
      simp only [List.length_cons] at this
      omega
    rw [ho] at h
    simp only at h
    obtain ⟨k1, k2, k3⟩ := onK_loc ho
    simp only [List.length_cons] at k2
    by_cases hd : ((c :: u).drop k).head? = some 45
    · rw [if_pos hd] at h
      have hk : k < (c :: u).length := by
        rcases Nat.lt_or_ge k (c :: u).length with h5 | h5
        · exact h5
        · rw [List.drop_eq_nil_of_le h5] at hd; cases hd
      simp only [List.length_cons] at hk
      rcases ho2 : onK ((c :: u).drop (k + 1)) with ⟨_ | hi, j⟩
      · rw [ho2] at h
        simp only [Prod.mk.injEq] at h
        have := onK_bad ho2
        rw [List.length_drop] at this
        simp only [List.length_cons] at this
        omega
      rw [ho2] at h
      simp only at h
      obtain ⟨j1, j2, j3⟩ := onK_loc ho2
      rw [List.length_drop] at j2
      simp only [List.length_cons] at j2
      by_cases hlt : hi.toNat < lo.toNat
      · rw [if_pos hlt] at h
        simp only [Prod.mk.injEq] at h
        omega
      rw [if_neg hlt] at h
      have := pxK_bad q _ _ _ _ _ _ (by rw [List.length_drop]; simp only [List.length_cons]; omega) h her
      rw [List.length_drop] at this
      simp only [List.length_cons] at this
      omega
    · rw [if_neg hd] at h
      have := pxK_bad q _ _ _ _ _ _ (by rw [List.length_drop]; simp only [List.length_cons]; omega) h her
      rw [List.length_drop] at this
      simp only [List.length_cons] at this
      omega
theorem pfK_hat (r : List UInt8) : pfK (91 :: 94 :: r) = if (pxK (r.length + 1) r 2 fun _ => false).2.2 = 0 then ((fun i => !(pxK (r.length + 1) r 2 fun _ => false).1 i), (pxK (r.length + 1) r 2 fun _ => false).2) else pxK (r.length + 1) r 2 fun _ => false := rfl
theorem pfK_open {r : List UInt8} (h : r.head? ≠ some 94) : pfK (91 :: r) = pxK (r.length + 1) r 1 fun _ => false := by
  rw [pfK]
  intro v hv
  subst hv
  exact h rfl
theorem pfK_not {t : List UInt8} (h : t.head? ≠ some 91) : pfK t = (fun _ => false, 0, 6) := by
  rw [pfK]
  · rintro r rfl; exact h rfl
  · rintro r rfl; exact h rfl
theorem pfK_loc {t : List UInt8} {g : Nat → Bool} {n : Nat} (h : pfK t = (g, n, 0)) : 0 < n ∧ n ≤ t.length ∧ ∀ r, pfK (t.take n ++ r) = (g, n, 0) := by
  by_cases h91 : t.head? = some 91
  case neg =>
    rw [pfK_not h91] at h
    simp only [Prod.mk.injEq] at h
    exact absurd h.2.2 (by decide)
  obtain ⟨r0, rfl⟩ : ∃ r0, t = 91 :: r0 := by
    cases t with
    | nil => cases h91
    | cons c u => exact ⟨u, by simpa using h91⟩
  by_cases h94 : r0.head? = some 94
  · obtain ⟨u, rfl⟩ : ∃ u, r0 = 94 :: u := by
      cases r0 with
      | nil => cases h94
      | cons c u => exact ⟨u, by simpa using h94⟩
    rw [pfK_hat] at h
    rcases hp : pxK (u.length + 1) u 2 fun _ => false with ⟨g0, e0, er⟩
    rw [hp] at h
    simp only at h
    by_cases her : er = 0
    · subst her
      rw [if_pos rfl] at h
      simp only [Prod.mk.injEq, and_true] at h
      obtain ⟨rfl, rfl⟩ := h
      obtain ⟨n, rfl, n0, n1, hl⟩ := pxK_loc _ _ _ _ _ _ hp
      refine ⟨by omega, by simp only [List.length_cons]; omega, fun r => ?_⟩
      rw [show 2 + n = n + 1 + 1 by omega, List.take_succ_cons, List.take_succ_cons, List.cons_append, List.cons_append, pfK_hat, hl _ r (by rw [List.length_append, List.length_take]; omega)]
      simp only [if_true]
      rw [show n + 1 + 1 = 2 + n by omega]
    · rw [if_neg her] at h
      simp only [Prod.mk.injEq] at h
      exact absurd h.2.2 her
  · rw [pfK_open h94] at h
    obtain ⟨n, rfl, n0, n1, hl⟩ := pxK_loc _ _ _ _ _ _ h
    refine ⟨by omega, by simp only [List.length_cons]; omega, fun r => ?_⟩
    rw [show 1 + n = n + 1 by omega, List.take_succ_cons, List.cons_append, pfK_open (by rw [tk_head _ r n0 n1]; exact h94), hl _ r (by rw [List.length_append, List.length_take]; omega)]
    rw [show n + 1 = 1 + n by omega]
theorem pfK_bad {t : List UInt8} {g : Nat → Bool} {n : Nat} {er : Int} (h : pfK t = (g, n, er)) (her : er ≠ 0) : n ≤ t.length := by
  by_cases h91 : t.head? = some 91
  case neg =>
    rw [pfK_not h91] at h
    simp only [Prod.mk.injEq] at h
    omega
  obtain ⟨r0, rfl⟩ : ∃ r0, t = 91 :: r0 := by
    cases t with
    | nil => cases h91
    | cons c u => exact ⟨u, by simpa using h91⟩
  by_cases h94 : r0.head? = some 94
  · obtain ⟨u, rfl⟩ : ∃ u, r0 = 94 :: u := by
      cases r0 with
      | nil => cases h94
      | cons c u => exact ⟨u, by simpa using h94⟩
    rw [pfK_hat] at h
    rcases hp : pxK (u.length + 1) u 2 fun _ => false with ⟨g0, e0, er0⟩
    rw [hp] at h
    simp only at h
    by_cases he : er0 = 0
    · rw [if_pos he] at h
      simp only [Prod.mk.injEq] at h
      exact absurd (h.2.2.symm.trans he) her
    · rw [if_neg he] at h
      simp only [Prod.mk.injEq] at h
      have := pxK_bad _ _ _ _ _ _ _ (by omega) hp he
      simp only [List.length_cons]
      omega
  · rw [pfK_open h94] at h
    have := pxK_bad _ _ _ _ _ _ _ (by omega) h her
    simp only [List.length_cons]
    omega
/-! numbers -/
def dgK (c : UInt8) : Bool := decide (48 ≤ c.toNat ∧ c.toNat ≤ 57)
def nmK : List UInt8 → Nat → Nat → (Nat × Nat) ⊕ Nat
  | [], k, v => .inl (v, k)
  | c :: r, k, v => if dgK c = true then (if k = 9 then .inr 9 else nmK r (k + 1) (10 * v + (c.toNat - 48))) else .inl (v, k)
theorem nmK_loc : ∀ (t : List UInt8) (k v n x : Nat), nmK t k v = .inl (x, n) → k ≤ n ∧ n - k ≤ t.length ∧ ∀ r : List UInt8, (r.head? = none ∨ r.head? = some 32) → nmK (t.take (n - k) ++ r) k v = .inl (x, n)
  | [], k, v, n, x, h => by
    simp only [nmK, Sum.inl.injEq, Prod.mk.injEq] at h
    obtain ⟨rfl, rfl⟩ := h
    refine ⟨Nat.le_refl _, by simp, fun r hr => ?_⟩
    simp only [List.take_nil, List.nil_append]
    cases r with
    | nil => rfl
    | cons c u =>
      have hc : c = 32 := by simpa using hr
      subst hc
      simp [nmK, dgK]
  | c :: t, k, v, n, x, h => by
    rw [nmK] at h
    by_cases hc : dgK c = true
    · rw [if_pos hc] at h
      by_cases hk : k = 9
      · rw [if_pos hk] at h; cases h
      rw [if_neg hk] at h
      obtain ⟨h1, h2, h3⟩ := nmK_loc t _ _ _ _ h
      refine ⟨by omega, by simp only [List.length_cons]; omega, fun r hr => ?_⟩
      have e : n - k = (n - (k + 1)) + 1 := by omega
      rw [e, List.take_succ_cons, List.cons_append, nmK, if_pos hc, if_neg hk]
      exact h3 r hr
    · rw [if_neg hc] at h
      simp only [Sum.inl.injEq, Prod.mk.injEq] at h
      obtain ⟨rfl, rfl⟩ := h
      refine ⟨Nat.le_refl _, by simp, fun r hr => ?_⟩
      simp only [Nat.sub_self, List.take_zero, List.nil_append]
      cases r with
      | nil => rfl
      | cons c u =>
        have hc : c = 32 := by simpa using hr
        subst hc
        simp [nmK, dgK]
theorem nmK_bad : ∀ (t : List UInt8) (k v f : Nat), k ≤ 9 → nmK t k v = .inr f → f = 9 ∧ 9 - k < t.length + 1
  | [], k, v, f, _, h => by simp [nmK] at h
  | c :: t, k, v, f, hk9, h => by
    rw [nmK] at h
    by_cases hc : dgK c = true
    · rw [if_pos hc] at h
      by_cases hk : k = 9
      · rw [if_pos hk] at h
        injection h with h
        exact ⟨h.symm, by simp only [List.length_cons]; omega⟩
      rw [if_neg hk] at h
      obtain ⟨h1, h2⟩ := nmK_bad t _ _ _ (by omega) h
      exact ⟨h1, by simp only [List.length_cons]; omega⟩
    · rw [if_neg hc] at h; cases h
theorem nmK_digits : ∀ (ds : List UInt8) (k v : Nat) (r : List UInt8), (∀ c ∈ ds, dgK c = true) → k + ds.length ≤ 9 → (r.head? = none ∨ r.head? = some 32) → nmK (ds ++ r) k v = .inl (ds.foldl (fun n c => 10 * n + (c.toNat - 48)) v, k + ds.length)
  | [], k, v, r, _, _, hr => by
    rw [List.nil_append]
    cases r with
    | nil => rfl
    | cons c u =>
      have hc : c = 32 := by simpa using hr
      subst hc
      simp [nmK, dgK]
  | d :: ds, k, v, r, h, hk, hr => by
    simp only [List.length_cons] at hk
    rw [List.cons_append, nmK, if_pos (h d List.mem_cons_self), if_neg (by omega), nmK_digits ds _ _ r (fun c hc => h c (List.mem_cons_of_mem _ hc)) (by omega) hr, List.foldl_cons, List.length_cons]
    congr 2
    omega
end Go.Proofs.YtcopnpllaoahaaaGreatDoor
