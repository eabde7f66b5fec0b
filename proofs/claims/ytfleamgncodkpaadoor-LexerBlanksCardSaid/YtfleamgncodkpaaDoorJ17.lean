/- Lexer: places and blanks: plain laws. No condition. -/
import Derived.Test.YtfleamgncodkpaaDoorJ15
namespace Go.Proofs.YtfleamgncodkpaaDoor
open Go.RowKit
theorem lnK_p0 {β : Type} {tk : Tk β} {most : Nat} : ∀ (n : Nat) (t : List UInt8) (at_ : Nat) (acc l : List (β × Nat × Nat)) (p : Nat), lnK tk most n t at_ acc = (l, p, 0) → p = 0
  | 0, _, _, _, _, _, h => by simp only [lnK, Prod.mk.injEq] at h; exact absurd h.2.2 (by decide)
  | n + 1, [], _, _, _, _, h => by simp only [lnK, Prod.mk.injEq] at h; exact h.2.1.symm
  | n + 1, c :: r, at_, acc, l, p, h => by
    rw [lnK] at h
    by_cases hc : c = 32
    · rw [if_pos hc] at h; exact lnK_p0 n _ _ _ _ _ h
    rw [if_neg hc] at h
    by_cases hm : acc.length = most
    · rw [if_pos hm] at h
      simp only [Prod.mk.injEq] at h
      exact absurd h.2.2 (by decide)
    rw [if_neg hm] at h
    rcases ht : tk (c :: r) with ⟨b, m⟩ | k
    · rw [ht] at h
      simp only at h
      by_cases hd : ((c :: r).drop m).head? = none ∨ ((c :: r).drop m).head? = some 32
      · rw [if_pos hd] at h; exact lnK_p0 n _ _ _ _ _ h
      · rw [if_neg hd] at h
        simp only [Prod.mk.injEq] at h
        exact absurd h.2.2 (by decide)
    · rw [ht] at h
      simp only [Prod.mk.injEq] at h
      exact absurd h.2.2 (by decide)
theorem line_ok {L : List UInt8} {l : List Tok} {q : Nat} (h : lineK L = (l, q, 0)) : q = 0 ∧ L.length ≤ 1000 ∧ lnK (tkK uqK) 80 (L.length + 1) L 0 [] = (l, 0, 0) := by
  unfold lineK at h
  by_cases h1 : 1000 < L.length
  · rw [if_pos h1] at h
    simp only [Prod.mk.injEq] at h
    exact absurd h.2.2 (by decide)
  rw [if_neg h1] at h
  have := lnK_p0 _ _ _ _ _ _ h
  subst this
  exact ⟨rfl, by omega, h⟩
theorem line_bad {L : List UInt8} {l : List Tok} {q : Nat} {er : Int} (hL : L.length ≤ 1000) (h : lineK L = (l, q, er)) (he : er ≠ 0) : l = [] ∧ q ≤ L.length := by
  unfold lineK at h
  rw [if_neg (by omega)] at h
  obtain ⟨a, _, b, _⟩ := lnK_bad (tkK_ok uqK) _ _ _ _ _ _ _ (Nat.lt_succ_self _) h he
  exact ⟨a, by omega⟩
/-- the end of the token ahead -/
def lastQ (l : List Tok) : Nat → Int
  | 0 => -1
  | k + 1 => match l[k]? with
    | some x => (x.2.2 : Nat)
    | none => 0
theorem lastQ_at {l : List Tok} {k : Nat} (h : k < l.length) : lastQ l (k + 1) = ((l[k].2.2 : Nat) : Int) := by
  rw [lastQ, List.getElem?_eq_getElem h]
theorem asc_at : ∀ {l : List Tok} {lo hi : Nat}, AscK lo l hi → ∀ k (h : k < l.length), lastQ l k < ((l[k].2.1 : Nat) : Int) ∧ l[k].2.1 < l[k].2.2 ∧ l[k].2.2 ≤ hi ∧ lo ≤ l[k].2.1
  | [], _, _, _, k, h => by simp at h
  | x :: t, lo, hi, H, k, h => by
    obtain ⟨h1, h2, h3, h4⟩ := H
    cases k with
    | zero =>
      refine ⟨?_, h2, h3, h1⟩
      show (-1 : Int) < _
      omega
    | succ k =>
      obtain ⟨a1, a2, a3, a4⟩ := asc_at h4 k (by simpa using h)
      refine ⟨?_, a2, a3, by simp only [List.getElem_cons_succ]; omega⟩
      cases k with
      | zero =>
        have e : lastQ (x :: t) (0 + 1) = ((x.2.2 : Nat) : Int) := rfl
        rw [e]
        simp only [List.getElem_cons_succ]
        omega
      | succ j =>
        have e : lastQ (x :: t) (j + 1 + 1) = lastQ t (j + 1) := by rw [lastQ, lastQ, List.getElem?_cons_succ]
        rw [e]
        exact a1
theorem places_at {L : List UInt8} {l : List Tok} {q : Nat} (h : lineK L = (l, q, 0)) (k : Nat) (hk : k < l.length) : lastQ l k < ((l[k].2.1 : Nat) : Int) ∧ l[k].2.1 < l[k].2.2 ∧ l[k].2.2 ≤ L.length ∧
    lineK ((L.drop l[k].2.1).take (l[k].2.2 - l[k].2.1)) = ([(l[k].1, 0, l[k].2.2 - l[k].2.1)], 0, 0) := by
  obtain ⟨_, hL, hl⟩ := line_ok h
  obtain ⟨m, hm, ha⟩ := lnK_asc (tkK_ok uqK) _ _ _ _ _ (Nat.lt_succ_self _) hl
  rw [List.nil_append] at hm
  subst hm
  obtain ⟨a1, a2, a3, _⟩ := asc_at ha k hk
  obtain ⟨m2, hm2, hx⟩ := lnK_mem (tkK_ok uqK) _ _ _ _ _ (Nat.lt_succ_self _) hl
  rw [List.nil_append] at hm2
  subst hm2
  obtain ⟨f, j, e1, e2, e3, e4, e5, e6, e7⟩ := hx _ (List.getElem_mem hk)
  rw [Nat.zero_add] at e1 e2
  refine ⟨a1, a2, by omega, ?_⟩
  have ej : l[k].2.2 - l[k].2.1 = j := by omega
  rw [ej, e1]
  unfold lineK
  have hlen : ((L.drop f).take j).length = j := by rw [List.length_take, List.length_drop]; omega
  rw [if_neg (by omega), hlen]
  exact lnK_cut (tkK_ok uqK) (by decide) e5 e6 e7 (Nat.lt_succ_self _)
theorem same_tok (b : Bd) (p q p' q' : Nat) : sameL false [t9 (b, p, q)] [t9 (b, p', q')] = true := by
  have h := (smF_iff (t := t9 (b, p, q)) (u := t9 (b, p', q'))).2 ⟨rfl, rfl, rfl, sQ_refl _⟩
  rw [sameL, sameL, h]; rfl
theorem same_of {m l : List Tok} (h : m.map (·.1) = l.map (·.1)) : sameL false (m.map t9) (l.map t9) = true := by
  have hlen : m.length = l.length := by simpa using congrArg List.length h
  refine sameL_true (by rw [List.length_map, List.length_map, hlen]) fun k h1 h2 => ?_
  rw [List.getElem_map, List.getElem_map]
  rw [List.length_map] at h1 h2
  have e := congrArg (·[k]?) h
  simp only [List.getElem?_map, List.getElem?_eq_getElem h1, List.getElem?_eq_getElem h2, Option.map_some, Option.some.injEq] at e
  exact smF_iff.2 ⟨by show ((m[k].1.1 : Nat) : Int) = ((l[k].1.1 : Nat) : Int); rw [e], by show ((m[k].1.2.1 : Nat) : Int) = ((l[k].1.2.1 : Nat) : Int); rw [e], by show (⟨m[k].1.2.2.1.toArray⟩ : ByteArray) = ⟨l[k].1.2.2.1.toArray⟩; rw [e], by show sQ m[k].1.2.2.2 l[k].1.2.2.2 = true; rw [e]; exact sQ_refl _⟩
/-- where blanks are put: behind the k-th token -/
def atQ (l : List Tok) : Nat → Nat
  | 0 => 0
  | k + 1 => match l[k]? with
    | some x => x.2.2
    | none => 0
theorem blanks_law {L : List UInt8} {l : List Tok} {q : Nat} (h : lineK L = (l, q, 0)) (hL : L.length ≤ 300) (d : Nat) (hd : d ≤ 5) (k : Nat) (hk : k ≤ l.length) : atQ l k ≤ L.length ∧
    ∃ m, lineK (L.take (atQ l k) ++ List.replicate d 32 ++ L.drop (atQ l k) ++ List.replicate d 32) = (m, 0, 0) ∧ m.length = l.length ∧ sameL false (m.map t9) (l.map t9) = true ∧
      ∀ i (h1 : i < m.length) (h2 : i < l.length), m[i].2.1 = l[i].2.1 + (if k ≤ i then d else 0) ∧ m[i].2.2 = l[i].2.2 + (if k ≤ i then d else 0) := by
  obtain ⟨_, _, hl⟩ := line_ok h
  obtain ⟨m0, hm0, hx⟩ := lnK_ins (tkK_ok uqK) d _ _ _ _ _ (Nat.lt_succ_self _) hl
  rw [List.nil_append] at hm0
  subst hm0
  obtain ⟨p, hp, hp0, hp1, hn⟩ := hx k hk
  have hat : atQ l k = p := by
    cases k with
    | zero => exact (hp0 rfl).symm
    | succ j =>
      have hj : j < l.length := hk
      have := hp1 j l[j] rfl (List.getElem?_eq_getElem hj)
      rw [atQ, List.getElem?_eq_getElem hj]
      simp only
      omega
  rw [hat]
  refine ⟨hp, l.take k ++ (l.drop k).map (shK d), ?_, ?_, ?_, ?_⟩
  · have h1 := hn (L.length + d + 1) (Nat.lt_succ_self _)
    rw [List.nil_append] at h1
    have hz : (L.take p ++ (List.replicate d 32 ++ L.drop p)).length = L.length + d := by
      rw [List.length_append, List.length_append, List.length_replicate, List.length_take, List.length_drop]; omega
    have h2 := lnK_tail (tkK_ok uqK) d _ _ _ _ _ (by rw [hz]; exact Nat.lt_succ_self _) h1
    have e : L.take p ++ List.replicate d 32 ++ L.drop p ++ List.replicate d 32 = (L.take p ++ (List.replicate d 32 ++ L.drop p)) ++ List.replicate d 32 := by rw [List.append_assoc (L.take p)]
    rw [e]
    unfold lineK
    have hz2 : ((L.take p ++ (List.replicate d 32 ++ L.drop p)) ++ List.replicate d 32).length = L.length + d + d := by rw [List.length_append, hz, List.length_replicate]
    rw [if_neg (by omega), hz2, show L.length + d + d + 1 = L.length + d + 1 + d by omega]
    exact h2
  · rw [List.length_append, List.length_map, List.length_take, List.length_drop]; omega
  · apply same_of
    rw [List.map_append, List.map_map]
    have e : ((fun x : Tok => x.1) ∘ shK d) = fun x : Tok => x.1 := rfl
    rw [e, ← List.map_append, List.take_append_drop]
  · intro i h1 h2
    by_cases hi : k ≤ i
    · rw [if_pos hi, List.getElem_append_right (by rw [List.length_take]; omega), List.getElem_map, List.getElem_drop]
      have e : k + (i - (l.take k).length) = i := by rw [List.length_take]; omega
      have e2 : l[k + (i - (l.take k).length)]'(by omega) = l[i] := by congr 1
      rw [e2]
      exact ⟨rfl, rfl⟩
    · rw [if_neg hi, List.getElem_append_left (by rw [List.length_take]; omega), List.getElem_take]
      exact ⟨rfl, rfl⟩
end Go.Proofs.YtfleamgncodkpaaDoor
