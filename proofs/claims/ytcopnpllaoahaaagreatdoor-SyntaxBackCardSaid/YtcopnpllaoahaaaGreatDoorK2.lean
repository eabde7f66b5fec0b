/- Lines of tokens over any taker of one token: plain laws. No condition. -/
import Derived.Test.YtcopnpllaoahaaaGreatDoorK1
namespace Go.Proofs.YtcopnpllaoahaaaGreatDoor
section
variable {β : Type}
/-- a taker: the token at the head of a text and its bytes, or the place of the fault -/
abbrev Tk (β : Type) := List UInt8 → (β × Nat) ⊕ Nat
structure TkOk (tk : Tk β) : Prop where
  pos : ∀ {t : List UInt8} {b : β} {n : Nat}, t.head? ≠ some 32 → tk t = .inl (b, n) → 0 < n ∧ n ≤ t.length
  loc : ∀ {t : List UInt8} {b : β} {n : Nat}, t.head? ≠ some 32 → tk t = .inl (b, n) → ((t.drop n).head? = none ∨ (t.drop n).head? = some 32) → ∀ r : List UInt8, (r.head? = none ∨ r.head? = some 32) → tk (t.take n ++ r) = .inl (b, n)
  bad : ∀ {t : List UInt8} {k : Nat}, tk t = .inr k → k ≤ t.length
/-- a line from a place on: the tokens with their places, the place of the fault, the error -/
def lnK (tk : Tk β) (most : Nat) : Nat → List UInt8 → Nat → List (β × Nat × Nat) → List (β × Nat × Nat) × Nat × Int
  | 0, _, at_, _ => ([], at_, 6)
  | _ + 1, [], _, acc => (acc, 0, 0)
  | n + 1, c :: r, at_, acc =>
    if c = 32 then lnK tk most n r (at_ + 1) acc else
    if acc.length = most then ([], at_, 3) else
    match tk (c :: r) with
    | .inr k => ([], at_ + k, 6)
    | .inl (b, m) =>
      if ((c :: r).drop m).head? = none ∨ ((c :: r).drop m).head? = some 32 then lnK tk most n ((c :: r).drop m) (at_ + m) (acc ++ [(b, at_, at_ + m)])
      else ([], at_ + m, 6)
/-- what is said of the tokens behind a place -/
def AscK (lo : Nat) : List (β × Nat × Nat) → Nat → Prop
  | [], _ => True
  | x :: t, hi => lo ≤ x.2.1 ∧ x.2.1 < x.2.2 ∧ x.2.2 ≤ hi ∧ AscK (x.2.2 + 1) t hi
theorem lnK_asc {tk : Tk β} (H : TkOk tk) {most : Nat} : ∀ (n : Nat) (t : List UInt8) (at_ : Nat) (acc l : List (β × Nat × Nat)), t.length < n → lnK tk most n t at_ acc = (l, 0, 0) →
    ∃ m, l = acc ++ m ∧ AscK (if t.head? = some 32 then at_ + 1 else at_) m (at_ + t.length)
  | 0, _, _, _, _, h, _ => absurd h (by omega)
  | n + 1, [], at_, acc, l, _, h => by
    simp only [lnK, Prod.mk.injEq, and_true] at h
    exact ⟨[], by simp [h], trivial⟩
  | n + 1, c :: r, at_, acc, l, hn, h => by
    rw [lnK] at h
    by_cases hc : c = 32
    · rw [if_pos hc] at h
      obtain ⟨m, e, ha⟩ := lnK_asc H n r (at_ + 1) acc l (by simp at hn; omega) h
      refine ⟨m, e, ?_⟩
      subst hc
      simp only [List.head?_cons, if_true, List.length_cons]
      have e2 : at_ + (r.length + 1) = at_ + 1 + r.length := by omega
      rw [e2]
      split at ha
      · cases m with
        | nil => trivial
        | cons x u => exact ⟨by have := ha.1; omega, ha.2⟩
      · exact ha
    · rw [if_neg hc] at h
      by_cases hm : acc.length = most
      · rw [if_pos hm] at h
        simp only [Prod.mk.injEq] at h
        exact absurd h.2.2 (by decide)
      rw [if_neg hm] at h
      have hh : (c :: r).head? ≠ some 32 := by simpa using hc
      rcases ht : tk (c :: r) with ⟨b, m⟩ | k
      · rw [ht] at h
        simp only at h
        obtain ⟨p1, p2⟩ := H.pos hh ht
        by_cases hd : ((c :: r).drop m).head? = none ∨ ((c :: r).drop m).head? = some 32
        · rw [if_pos hd] at h
          obtain ⟨u, e, ha⟩ := lnK_asc H n _ (at_ + m) _ l (by rw [List.length_drop]; simp at hn p2 ⊢; omega) h
          refine ⟨(b, at_, at_ + m) :: u, by rw [e]; simp, ?_⟩
          rw [if_neg hh]
          refine ⟨Nat.le_refl _, by simp only; omega, by simp only; omega, ?_⟩
          simp only
          rw [List.length_drop] at ha
          have e3 : at_ + m + ((c :: r).length - m) = at_ + (c :: r).length := by omega
          rw [e3] at ha
          rcases hd with hd | hd
          · rw [hd] at ha
            have hz : (c :: r).drop m = [] := List.head?_eq_none_iff.1 hd
            -- nothing is left
            have hu : u = [] := by
              rw [hz] at h
              cases n with
              | zero => simp [lnK] at h
              | succ n =>
                simp only [lnK, Prod.mk.injEq, and_true] at h
                rw [e] at h
                simpa using h.symm
            rw [hu]; trivial
          · rw [if_pos hd] at ha
            exact ha
        · rw [if_neg hd] at h
          simp only [Prod.mk.injEq] at h
          exact absurd h.2.2 (by decide)
      · rw [ht] at h
        simp only [Prod.mk.injEq] at h
        exact absurd h.2.2 (by decide)
/-- a token's places moved -/
def shK (d : Nat) (x : β × Nat × Nat) : β × Nat × Nat := (x.1, x.2.1 + d, x.2.2 + d)
theorem lnK_more {tk : Tk β} (H : TkOk tk) {most : Nat} : ∀ (n n' : Nat) (t : List UInt8) (at_ : Nat) (acc : List (β × Nat × Nat)), t.length < n → t.length < n' → lnK tk most n t at_ acc = lnK tk most n' t at_ acc
  | 0, _, _, _, _, h, _ => absurd h (by omega)
  | _, 0, _, _, _, _, h => absurd h (by omega)
  | n + 1, n' + 1, [], at_, acc, _, _ => rfl
  | n + 1, n' + 1, c :: r, at_, acc, h, h' => by
    rw [lnK, lnK]
    simp only [List.length_cons] at h h'
    by_cases hc : c = 32
    · rw [if_pos hc, if_pos hc]; exact lnK_more H n n' r _ _ (by omega) (by omega)
    rw [if_neg hc, if_neg hc]
    by_cases hm : acc.length = most
    · rw [if_pos hm, if_pos hm]
    rw [if_neg hm, if_neg hm]
    have hh : (c :: r).head? ≠ some 32 := by simpa using hc
    rcases ht : tk (c :: r) with ⟨b, m⟩ | k
    · simp only
      obtain ⟨p1, p2⟩ := H.pos hh ht
      by_cases hd : ((c :: r).drop m).head? = none ∨ ((c :: r).drop m).head? = some 32
      · rw [if_pos hd, if_pos hd]
        exact lnK_more H n n' _ _ _ (by rw [List.length_drop]; simp only [List.length_cons] at p2 ⊢; omega) (by rw [List.length_drop]; simp only [List.length_cons] at p2 ⊢; omega)
      · rw [if_neg hd, if_neg hd]
    · rfl
/-- blanks ahead -/
theorem lnK_lead {tk : Tk β} {most : Nat} : ∀ (q n : Nat) (t : List UInt8) (at_ : Nat) (acc : List (β × Nat × Nat)), lnK tk most (n + q) (List.replicate q 32 ++ t) at_ acc = lnK tk most n t (at_ + q) acc
  | 0, _, _, _, _ => rfl
  | q + 1, n, t, at_, acc => by
    rw [List.replicate_succ, List.cons_append, show n + (q + 1) = (n + q) + 1 by omega, lnK, if_pos rfl, lnK_lead q n t (at_ + 1) acc]
    congr 1; omega
theorem head_app {t bl : List UInt8} (hb : bl = List.replicate bl.length 32) (h : t.head? = none ∨ t.head? = some 32) : (t ++ bl).head? = none ∨ (t ++ bl).head? = some 32 := by
  cases t with
  | nil =>
    rw [List.nil_append, hb]
    rcases bl.length with _ | q
    · exact .inl rfl
    · exact .inr rfl
  | cons c r => simpa using h
/-- the whole of a token and what lies behind it -/
theorem TkOk.again {tk : Tk β} (H : TkOk tk) {t : List UInt8} {b : β} {m : Nat} (hh : t.head? ≠ some 32) (ht : tk t = .inl (b, m)) (hd : (t.drop m).head? = none ∨ (t.drop m).head? = some 32) (r : List UInt8) (hr : r.head? = none ∨ r.head? = some 32) :
    tk (t.take m ++ r) = .inl (b, m) ∧ (t.take m ++ r).drop m = r ∧ (t.take m ++ r).head? ≠ some 32 ∧ t.take m ++ r ≠ [] := by
  obtain ⟨p1, p2⟩ := H.pos hh ht
  have hl : (t.take m).length = m := by rw [List.length_take]; omega
  refine ⟨H.loc hh ht hd r hr, ?_, ?_, ?_⟩
  · have := List.drop_left (l₁ := t.take m) (l₂ := r)
    rwa [hl] at this
  · cases t with
    | nil => simp at p2; omega
    | cons c u =>
      obtain ⟨m, rfl⟩ : ∃ q, m = q + 1 := ⟨m - 1, by omega⟩
      simpa using hh
  · cases t with
    | nil => simp at p2; omega
    | cons c u =>
      obtain ⟨m, rfl⟩ : ∃ q, m = q + 1 := ⟨m - 1, by omega⟩
      simp
/-- a text at another place: the same tokens, moved -/
theorem lnK_shift {tk : Tk β} (H : TkOk tk) {most : Nat} (d : Nat) : ∀ (n : Nat) (t : List UInt8) (at_ : Nat) (acc l : List (β × Nat × Nat)), t.length < n → lnK tk most n t at_ acc = (l, 0, 0) → ∀ acc' : List (β × Nat × Nat), acc'.length = acc.length →
    ∃ m, l = acc ++ m ∧ lnK tk most n t (at_ + d) acc' = (acc' ++ m.map (shK d), 0, 0)
  | 0, _, _, _, _, h, _, _, _ => absurd h (by omega)
  | n + 1, [], at_, acc, l, _, h, acc', _ => by
    simp only [lnK, Prod.mk.injEq, and_true] at h
    exact ⟨[], by simp [h], by simp [lnK]⟩
  | n + 1, c :: r, at_, acc, l, hn, h, acc', ha => by
    rw [lnK] at h ⊢
    simp only [List.length_cons] at hn
    by_cases hc : c = 32
    · rw [if_pos hc] at h ⊢
      rw [show at_ + d + 1 = at_ + 1 + d by omega]
      exact lnK_shift H d n r _ acc l (by omega) h acc' ha
    rw [if_neg hc] at h ⊢
    by_cases hm : acc.length = most
    · rw [if_pos hm] at h
      simp only [Prod.mk.injEq] at h
      exact absurd h.2.2 (by decide)
    rw [if_neg hm] at h
    rw [if_neg (by rw [ha]; exact hm)]
    have hh : (c :: r).head? ≠ some 32 := by simpa using hc
    rcases ht : tk (c :: r) with ⟨b, m⟩ | k
    · rw [ht] at h
      simp only at h ⊢
      obtain ⟨p1, p2⟩ := H.pos hh ht
      simp only [List.length_cons] at p2
      by_cases hd : ((c :: r).drop m).head? = none ∨ ((c :: r).drop m).head? = some 32
      · rw [if_pos hd] at h ⊢
        obtain ⟨u, e1, e2⟩ := lnK_shift H d n _ _ _ l (by rw [List.length_drop]; simp only [List.length_cons]; omega) h (acc' ++ [(b, at_ + d, at_ + d + m)]) (by simp [ha])
        refine ⟨(b, at_, at_ + m) :: u, by rw [e1]; simp, ?_⟩
        rw [show at_ + d + m = at_ + m + d by omega]
        rw [show at_ + d + m = at_ + m + d by omega] at e2
        rw [e2]
        simp [shK]
      · rw [if_neg hd] at h
        simp only [Prod.mk.injEq] at h
        exact absurd h.2.2 (by decide)
    · rw [ht] at h
      simp only [Prod.mk.injEq] at h
      exact absurd h.2.2 (by decide)
/-- blanks behind -/
theorem lnK_tail {tk : Tk β} (H : TkOk tk) {most : Nat} (q : Nat) : ∀ (n : Nat) (t : List UInt8) (at_ : Nat) (acc l : List (β × Nat × Nat)), t.length < n → lnK tk most n t at_ acc = (l, 0, 0) → lnK tk most (n + q) (t ++ List.replicate q 32) at_ acc = (l, 0, 0)
  | 0, _, _, _, _, h, _ => absurd h (by omega)
  | n + 1, [], at_, acc, l, _, h => by
    simp only [lnK, Prod.mk.injEq, and_true] at h
    subst h
    rw [List.nil_append]
    have := lnK_lead (tk := tk) (most := most) q (n + 1) [] at_ acc
    rw [List.append_nil] at this
    rw [this]
    rfl
  | n + 1, c :: r, at_, acc, l, hn, h => by
    rw [lnK] at h
    simp only [List.length_cons] at hn
    rw [show n + 1 + q = (n + q) + 1 by omega, List.cons_append, lnK]
    by_cases hc : c = 32
    · rw [if_pos hc] at h ⊢
      exact lnK_tail H q n r _ acc l (by omega) h
    rw [if_neg hc] at h ⊢
    by_cases hm : acc.length = most
    · rw [if_pos hm] at h
      simp only [Prod.mk.injEq] at h
      exact absurd h.2.2 (by decide)
    rw [if_neg hm] at h ⊢
    have hh : (c :: r).head? ≠ some 32 := by simpa using hc
    rcases ht : tk (c :: r) with ⟨b, m⟩ | k
    · rw [ht] at h
      simp only at h
      obtain ⟨p1, p2⟩ := H.pos hh ht
      by_cases hd : ((c :: r).drop m).head? = none ∨ ((c :: r).drop m).head? = some 32
      · rw [if_pos hd] at h
        have hd2 := head_app (bl := List.replicate q 32) (by simp) hd
        obtain ⟨g1, g2, _, _⟩ := H.again hh ht hd (((c :: r).drop m) ++ List.replicate q 32) hd2
        have e : (c :: r).take m ++ (((c :: r).drop m) ++ List.replicate q 32) = c :: (r ++ List.replicate q 32) := by
          rw [← List.append_assoc, List.take_append_drop]; rfl
        rw [e] at g1 g2
        rw [g1]
        simp only
        rw [g2, if_pos hd2]
        exact lnK_tail H q n _ _ _ l (by rw [List.length_drop]; simp only [List.length_cons] at p2 ⊢; omega) h
      · rw [if_neg hd] at h
        simp only [Prod.mk.injEq] at h
        exact absurd h.2.2 (by decide)
    · rw [ht] at h
      simp only [Prod.mk.injEq] at h
      exact absurd h.2.2 (by decide)
/-- where a token was taken -/
theorem lnK_mem {tk : Tk β} (H : TkOk tk) {most : Nat} : ∀ (n : Nat) (t : List UInt8) (at_ : Nat) (acc l : List (β × Nat × Nat)), t.length < n → lnK tk most n t at_ acc = (l, 0, 0) →
    ∃ m, l = acc ++ m ∧ ∀ x ∈ m, ∃ f k, x.2.1 = at_ + f ∧ x.2.2 = at_ + f + k ∧ 0 < k ∧ f + k ≤ t.length ∧ (t.drop f).head? ≠ some 32 ∧ tk (t.drop f) = .inl (x.1, k) ∧ (((t.drop f).drop k).head? = none ∨ ((t.drop f).drop k).head? = some 32)
  | 0, _, _, _, _, h, _ => absurd h (by omega)
  | n + 1, [], at_, acc, l, _, h => by
    simp only [lnK, Prod.mk.injEq, and_true] at h
    exact ⟨[], by simp [h], fun x hx => by cases hx⟩
  | n + 1, c :: r, at_, acc, l, hn, h => by
    rw [lnK] at h
    simp only [List.length_cons] at hn
    by_cases hc : c = 32
    · rw [if_pos hc] at h
      obtain ⟨m, e, hm⟩ := lnK_mem H n r _ acc l (by omega) h
      refine ⟨m, e, fun x hx => ?_⟩
      obtain ⟨f, k, h1, h2, h3, h4, h5⟩ := hm x hx
      exact ⟨f + 1, k, by omega, by omega, h3, by simp only [List.length_cons]; omega, by simpa using h5⟩
    rw [if_neg hc] at h
    by_cases hm : acc.length = most
    · rw [if_pos hm] at h
      simp only [Prod.mk.injEq] at h
      exact absurd h.2.2 (by decide)
    rw [if_neg hm] at h
    have hh : (c :: r).head? ≠ some 32 := by simpa using hc
    rcases ht : tk (c :: r) with ⟨b, m⟩ | k
    · rw [ht] at h
      simp only at h
      obtain ⟨p1, p2⟩ := H.pos hh ht
      simp only [List.length_cons] at p2
      by_cases hd : ((c :: r).drop m).head? = none ∨ ((c :: r).drop m).head? = some 32
      · rw [if_pos hd] at h
        obtain ⟨u, e1, e2⟩ := lnK_mem H n _ _ _ l (by rw [List.length_drop]; simp only [List.length_cons]; omega) h
        refine ⟨(b, at_, at_ + m) :: u, by rw [e1]; simp, fun x hx => ?_⟩
        rcases List.mem_cons.1 hx with rfl | hx
        · exact ⟨0, m, rfl, rfl, p1, by simp only [List.length_cons]; omega, hh, ht, hd⟩
        · obtain ⟨f, k, h1, h2, h3, h4, h5⟩ := e2 x hx
          rw [List.length_drop] at h4
          simp only [List.length_cons] at h4
          rw [List.drop_drop] at h5
          exact ⟨m + f, k, by omega, by omega, h3, by simp only [List.length_cons]; omega, h5⟩
      · rw [if_neg hd] at h
        simp only [Prod.mk.injEq] at h
        exact absurd h.2.2 (by decide)
    · rw [ht] at h
      simp only [Prod.mk.injEq] at h
      exact absurd h.2.2 (by decide)
/-- the cut of a token is a line of this token alone -/
theorem lnK_cut {tk : Tk β} (H : TkOk tk) {most : Nat} (h0 : 0 < most) {u : List UInt8} {b : β} {k : Nat} (hh : u.head? ≠ some 32) (ht : tk u = .inl (b, k)) (hd : (u.drop k).head? = none ∨ (u.drop k).head? = some 32) {n : Nat} (hn : k < n) :
    lnK tk most n (u.take k) 0 [] = ([(b, 0, k)], 0, 0) := by
  obtain ⟨g1, g2, g3, g4⟩ := H.again hh ht hd [] (.inl rfl)
  obtain ⟨p1, p2⟩ := H.pos hh ht
  rw [List.append_nil] at g1 g2 g3 g4
  obtain ⟨n, rfl⟩ : ∃ q, n = q + 1 + 1 := ⟨n - 2, by omega⟩
  rcases hu : u.take k with _ | ⟨c, r⟩
  · exact absurd hu g4
  rw [hu] at g1 g2 g3
  have hc : c ≠ 32 := by simpa using g3
  rw [lnK, if_neg hc, if_neg (by simp; omega), g1]
  simp only
  rw [g2, if_pos (.inl rfl)]
  simp [lnK]
theorem head_ins {u : List UInt8} (h : u.head? = none ∨ u.head? = some 32) (p q : Nat) : (u.take p ++ (List.replicate q 32 ++ u.drop p)).head? = none ∨ (u.take p ++ (List.replicate q 32 ++ u.drop p)).head? = some 32 := by
  cases u with
  | nil =>
    cases q with
    | zero => exact .inl (by simp)
    | succ q => exact .inr (by simp [List.replicate_succ])
  | cons c r =>
    have hc : c = 32 := by simpa using h
    subst hc
    cases p with
    | zero =>
      cases q with
      | zero => exact .inr (by simp)
      | succ q => exact .inr (by simp [List.replicate_succ])
    | succ p => exact .inr (by simp)
/-- blanks behind the k-th token (ahead of the line for k = 0) -/
theorem lnK_ins {tk : Tk β} (H : TkOk tk) {most : Nat} (q : Nat) : ∀ (n : Nat) (t : List UInt8) (at_ : Nat) (acc l : List (β × Nat × Nat)), t.length < n → lnK tk most n t at_ acc = (l, 0, 0) →
    ∃ m, l = acc ++ m ∧ ∀ k, k ≤ m.length → ∃ p, p ≤ t.length ∧ (k = 0 → p = 0) ∧ (∀ j x, k = j + 1 → m[j]? = some x → at_ + p = x.2.2) ∧ ∀ n', t.length + q < n' → lnK tk most n' (t.take p ++ (List.replicate q 32 ++ t.drop p)) at_ acc = (acc ++ (m.take k ++ (m.drop k).map (shK q)), 0, 0)
  | 0, _, _, _, _, h, _ => absurd h (by omega)
  | n + 1, t, at_, acc, l, hn, h => by
    have zero : ∀ m, l = acc ++ m → ∀ n', t.length + q < n' → lnK tk most n' (List.replicate q 32 ++ t) at_ acc = (acc ++ m.map (shK q), 0, 0) := by
      intro m hm n' hn'
      obtain ⟨m2, e1, e2⟩ := lnK_shift H q (n + 1) t at_ acc l hn h acc rfl
      have em : m2 = m := List.append_cancel_left (e1.symm.trans hm)
      subst em
      obtain ⟨n'', rfl⟩ : ∃ z, n' = z + q := ⟨n' - q, by omega⟩
      rw [lnK_lead, ← lnK_more H (n + 1) n'' t _ _ hn (by omega)]
      exact e2
    cases t with
    | nil =>
      have h' := h
      simp only [lnK, Prod.mk.injEq, and_true] at h
      refine ⟨[], by simp [h], fun k hk => ?_⟩
      obtain rfl : k = 0 := by simpa using hk
      refine ⟨0, Nat.le_refl _, fun _ => rfl, fun j x hj => by omega, fun n' hn' => ?_⟩
      have := zero [] (by simp [h]) n' hn'
      simpa using this
    | cons c r =>
    rw [lnK] at h
    simp only [List.length_cons] at hn
    by_cases hc : c = 32
    · rw [if_pos hc] at h
      obtain ⟨m, e, hm⟩ := lnK_ins H q n r _ acc l (by omega) h
      refine ⟨m, e, fun k hk => ?_⟩
      rcases k with _ | k
      · refine ⟨0, Nat.zero_le _, fun _ => rfl, fun j x hj => by omega, fun n' hn' => ?_⟩
        simpa using zero m e n' hn'
      · obtain ⟨p, h1, h2, h3, h4⟩ := hm (k + 1) hk
        refine ⟨p + 1, by simp only [List.length_cons]; omega, fun hz => by omega, fun j x hj hx => by have := h3 j x hj hx; omega, fun n' hn' => ?_⟩
        simp only [List.length_cons] at hn'
        obtain ⟨n', rfl⟩ : ∃ z, n' = z + 1 := ⟨n' - 1, by omega⟩
        rw [List.take_succ_cons, List.drop_succ_cons, List.cons_append, lnK, if_pos hc]
        exact h4 n' (by omega)
    rw [if_neg hc] at h
    by_cases hm : acc.length = most
    · rw [if_pos hm] at h
      simp only [Prod.mk.injEq] at h
      exact absurd h.2.2 (by decide)
    rw [if_neg hm] at h
    have hh : (c :: r).head? ≠ some 32 := by simpa using hc
    rcases ht : tk (c :: r) with ⟨b, w⟩ | w
    · rw [ht] at h
      simp only at h
      obtain ⟨p1, p2⟩ := H.pos hh ht
      simp only [List.length_cons] at p2
      by_cases hd : ((c :: r).drop w).head? = none ∨ ((c :: r).drop w).head? = some 32
      · rw [if_pos hd] at h
        obtain ⟨m, e, hm2⟩ := lnK_ins H q n _ _ _ l (by rw [List.length_drop]; simp only [List.length_cons]; omega) h
        have e' : l = acc ++ ((b, at_, at_ + w) :: m) := by rw [e]; simp
        refine ⟨(b, at_, at_ + w) :: m, e', fun k hk => ?_⟩
        rcases k with _ | k
        · refine ⟨0, Nat.zero_le _, fun _ => rfl, fun j x hj => by omega, fun n' hn' => ?_⟩
          simpa using zero _ e' n' hn'
        · obtain ⟨p, h1, h2, h3, h4⟩ := hm2 k (by simpa using hk)
          rw [List.length_drop] at h1 h4
          simp only [List.length_cons] at h1 h4
          refine ⟨w + p, by simp only [List.length_cons]; omega, fun hz => by omega, fun j x hj hx => ?_, fun n' hn' => ?_⟩
          · obtain rfl : j = k := by omega
            rcases j with _ | j
            · simp only [List.getElem?_cons_zero, Option.some.injEq] at hx
              subst hx
              have := h2 rfl
              simp only; omega
            · simp only [List.getElem?_cons_succ] at hx
              have := h3 j x rfl hx
              omega
          · simp only [List.length_cons] at hn'
            obtain ⟨n', rfl⟩ : ∃ z, n' = z + 1 := ⟨n' - 1, by omega⟩
            have hd2 := head_ins hd p q
            obtain ⟨g1, g2, g3, _⟩ := H.again hh ht hd _ hd2
            have et : (c :: r).take (w + p) ++ (List.replicate q 32 ++ (c :: r).drop (w + p)) = (c :: r).take w ++ (((c :: r).drop w).take p ++ (List.replicate q 32 ++ ((c :: r).drop w).drop p)) := by
              rw [List.take_add, List.drop_drop, List.append_assoc]
            rw [et]
            generalize hR : ((c :: r).drop w).take p ++ (List.replicate q 32 ++ ((c :: r).drop w).drop p) = R at *
            obtain ⟨w', rfl⟩ : ∃ z, w = z + 1 := ⟨w - 1, by omega⟩
            rw [List.take_succ_cons, List.cons_append] at g1 g2 ⊢
            rw [lnK, if_neg hc, if_neg hm, g1]
            simp only
            rw [g2, if_pos hd2, h4 n' (by omega)]
            simp
      · rw [if_neg hd] at h
        simp only [Prod.mk.injEq] at h
        exact absurd h.2.2 (by decide)
    · rw [ht] at h
      simp only [Prod.mk.injEq] at h
      exact absurd h.2.2 (by decide)
/-- a fault is within the line, or at its end; without one there is no token -/
theorem lnK_bad {tk : Tk β} (H : TkOk tk) {most : Nat} : ∀ (n : Nat) (t : List UInt8) (at_ : Nat) (acc l : List (β × Nat × Nat)) (p : Nat) (er : Int), t.length < n → lnK tk most n t at_ acc = (l, p, er) → er ≠ 0 → l = [] ∧ at_ ≤ p ∧ p ≤ at_ + t.length ∧ (er = 3 ∨ er = 6)
  | 0, _, _, _, _, _, _, h, _, _ => absurd h (by omega)
  | n + 1, [], at_, acc, l, p, er, _, h, her => by
    simp only [lnK, Prod.mk.injEq] at h
    exact absurd h.2.2.symm her
  | n + 1, c :: r, at_, acc, l, p, er, hn, h, her => by
    rw [lnK] at h
    simp only [List.length_cons] at hn ⊢
    by_cases hc : c = 32
    · rw [if_pos hc] at h
      obtain ⟨h1, h2, h3, h4⟩ := lnK_bad H n r _ _ _ _ _ (by omega) h her
      exact ⟨h1, by omega, by omega, h4⟩
    rw [if_neg hc] at h
    by_cases hm : acc.length = most
    · rw [if_pos hm] at h
      simp only [Prod.mk.injEq] at h
      exact ⟨h.1.symm, by omega, by omega, .inl h.2.2.symm⟩
    rw [if_neg hm] at h
    have hh : (c :: r).head? ≠ some 32 := by simpa using hc
    rcases ht : tk (c :: r) with ⟨b, w⟩ | w
    · rw [ht] at h
      simp only at h
      obtain ⟨p1, p2⟩ := H.pos hh ht
      simp only [List.length_cons] at p2
      by_cases hd : ((c :: r).drop w).head? = none ∨ ((c :: r).drop w).head? = some 32
      · rw [if_pos hd] at h
        obtain ⟨h1, h2, h3, h4⟩ := lnK_bad H n _ _ _ _ _ _ (by rw [List.length_drop]; simp only [List.length_cons]; omega) h her
        rw [List.length_drop] at h3
        simp only [List.length_cons] at h3
        exact ⟨h1, by omega, by omega, h4⟩
      · rw [if_neg hd] at h
        simp only [Prod.mk.injEq] at h
        exact ⟨h.1.symm, by omega, by omega, .inr h.2.2.symm⟩
    · rw [ht] at h
      simp only [Prod.mk.injEq] at h
      have := H.bad ht
      simp only [List.length_cons] at this
      exact ⟨h.1.symm, by omega, by omega, .inr h.2.2.symm⟩
/-- texts with a blank between them -/
def joinK : List (List UInt8) → List UInt8
  | [] => []
  | [x] => x
  | x :: y :: t => x ++ 32 :: joinK (y :: t)
/-- the line of the texts of tokens -/
theorem lnK_join {tk : Tk β} {most : Nat} : ∀ (xs : List (β × List UInt8)), (∀ x ∈ xs, x.2 ≠ [] ∧ x.2.head? ≠ some 32 ∧ ∀ r : List UInt8, (r.head? = none ∨ r.head? = some 32) → tk (x.2 ++ r) = .inl (x.1, x.2.length)) →
    ∀ (n at_ : Nat) (acc : List (β × Nat × Nat)), (joinK (xs.map (·.2))).length < n → acc.length + xs.length ≤ most → ∃ m, lnK tk most n (joinK (xs.map (·.2))) at_ acc = (acc ++ m, 0, 0) ∧ m.map (·.1) = xs.map (·.1)
  | [], _, n, at_, acc, hn, _ => by
    obtain ⟨n, rfl⟩ : ∃ z, n = z + 1 := ⟨n - 1, by omega⟩
    exact ⟨[], by simp [joinK, lnK], rfl⟩
  | [x], h, n, at_, acc, hn, hm => by
    obtain ⟨h1, h2, h3⟩ := h x List.mem_cons_self
    have h4 := h3 [] (.inl rfl)
    rw [List.append_nil] at h4
    simp only [List.map_cons, List.map_nil, joinK] at hn ⊢
    rcases hx : x.2 with _ | ⟨c, r⟩
    · exact absurd hx h1
    rw [hx] at h4 h2 hn
    have hc : c ≠ 32 := by simpa using h2
    simp only [List.length_cons, List.length_nil] at hn hm
    obtain ⟨n, rfl⟩ : ∃ z, n = z + 1 + 1 := ⟨n - 2, by omega⟩
    refine ⟨[(x.1, at_, at_ + (r.length + 1))], ?_, rfl⟩
    rw [lnK, if_neg hc, if_neg (by omega), h4]
    simp only
    have hd : (c :: r).drop (c :: r).length = [] := List.drop_length
    rw [hd, if_pos (.inl rfl)]
    simp [lnK]
  | x :: y :: t, h, n, at_, acc, hn, hm => by
    obtain ⟨h1, h2, h3⟩ := h x List.mem_cons_self
    have ih := lnK_join (tk := tk) (most := most) (y :: t) fun z hz => h z (List.mem_cons_of_mem _ hz)
    simp only [List.map_cons, joinK, List.length_cons] at hn hm ih ⊢
    generalize joinK (y.2 :: t.map (·.2)) = J at *
    have h4 := h3 (32 :: J) (.inr rfl)
    rw [List.length_append, List.length_cons] at hn
    rcases hx : x.2 with _ | ⟨c, r⟩
    · exact absurd hx h1
    rw [hx] at h4 h2 hn
    have hc : c ≠ 32 := by simpa using h2
    simp only [List.length_cons] at hn
    obtain ⟨n, rfl⟩ : ∃ z, n = z + 1 + 1 := ⟨n - 2, by omega⟩
    obtain ⟨m, e1, e2⟩ := ih n (at_ + (c :: r).length + 1) (acc ++ [(x.1, at_, at_ + (c :: r).length)]) (by omega) (by simp; omega)
    refine ⟨(x.1, at_, at_ + (c :: r).length) :: m, ?_, by simp [e2]⟩
    have hd : ((c :: r) ++ 32 :: J).drop (c :: r).length = 32 :: J := List.drop_left
    rw [List.cons_append] at h4 hd ⊢
    rw [lnK, if_neg hc, if_neg (by omega), h4]
    simp only
    rw [hd, if_pos (.inr rfl), lnK, if_pos rfl, e1]
    simp
end
end Go.Proofs.YtcopnpllaoahaaaGreatDoor
