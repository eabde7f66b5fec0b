/- Syntax: equal rules have equal texts and errors; a fault lies in the text: plain laws. No condition. Lexer: places and blanks: plain laws. No condition. Syntax: a fault lies in the text: plain laws. No condition. -/
import Derived.Test.YtcopnpllaoahaaaGreatDoorJ13
import Derived.Test.YtcopnpllaoahaaaGreatDoorJ12
namespace Go.Proofs.YtcopnpllaoahaaaGreatDoor
open Go.RowKit
theorem elQ_same {x y : El} (h : elQ x y = true) : sameL false (elT x) (elT y) = true := by
  obtain ⟨K, S, f, lo, hi⟩ := x
  obtain ⟨K', S', f', lo', hi'⟩ := y
  obtain ⟨h1, h2, h3, h4, h5⟩ := elQ_iff.1 h
  simp only at h1 h2 h3 h4 h5
  subst h1 h2 h3 h4
  have hn : sQ noK noK = true := sQ_refl _
  have k : ∀ z : Int, smQ false (z, 0, 0, 0, S, f) (z, 0, 0, 0, S, f') = true := fun z => smF_iff.2 ⟨rfl, rfl, rfl, h5⟩
  have k2 : ∀ z : Int, smQ false (3, 0, 0, z, noB, noK) (3, 0, 0, z, noB, noK) = true := fun z => smF_iff.2 ⟨rfl, rfl, rfl, hn⟩
  unfold elT
  simp only
  split
  · rw [sameL, sameL, k]; rfl
  split
  · rw [sameL, sameL, k]; rfl
  split
  · rw [sameL, sameL, k]; rfl
  · rw [sameL, sameL, sameL, sameL, k, k2, k2]; rfl
theorem elQ_err {x y : El} (h : elQ x y = true) : elE x = elE y := by
  obtain ⟨h1, h2, h3, h4, h5⟩ := elQ_iff.1 h
  unfold elE
  rw [h1, h2, h3, h4, sQ_congr h5]
theorem sameL_join : ∀ {a b c d : List T9}, sameL false a b = true → sameL false c d = true → sameL false (a ++ c) (b ++ d) = true
  | [], [], _, _, _, h => h
  | [], _ :: _, _, _, h, _ => by cases h
  | _ :: _, [], _, _, h, _ => by cases h
  | x :: a, y :: b, c, d, h, h2 => by
    rw [sameL, Bool.and_eq_true] at h
    rw [List.cons_append, List.cons_append, sameL, h.1, sameL_join h.2 h2]; rfl
theorem elsQ_all : ∀ {l m : List El}, elsQ l m = true → l.length = m.length ∧ (∀ i, elsE l i = elsE m i) ∧ sameL false (l.flatMap elT) (m.flatMap elT) = true
  | [], [], _ => ⟨rfl, fun _ => rfl, rfl⟩
  | [], _ :: _, h => by cases h
  | _ :: _, [], h => by cases h
  | x :: l, y :: m, h => by
    rw [elsQ, Bool.and_eq_true] at h
    obtain ⟨a, b, c⟩ := elsQ_all h.2
    refine ⟨by rw [List.length_cons, List.length_cons, a], fun i => by rw [elsE, elsE, elQ_err h.1, b], ?_⟩
    rw [List.flatMap_cons, List.flatMap_cons]
    exact sameL_join (elQ_same h.1) c
theorem ruQ_all {a b : Ru} (h : ruQ a b = true) : ruE a = ruE b ∧ prnL (ruT a) = prnL (ruT b) ∧ sameL false (ruT a) (ruT b) = true := by
  unfold ruQ at h
  rw [Bool.and_eq_true, decide_eq_true_eq] at h
  obtain ⟨hid, hel⟩ := h
  obtain ⟨h1, h2, h3⟩ := elsQ_all hel
  have hn : sQ noK noK = true := sQ_refl _
  have hs : sameL false (ruT a) (ruT b) = true := by
    have k1 : smQ false (1, 0, 0, 0, noB, noK) (1, 0, 0, 0, noB, noK) = true := smF_iff.2 ⟨rfl, rfl, rfl, hn⟩
    have k2 : smQ false (3, 0, 0, a.1, noB, noK) (3, 0, 0, b.1, noB, noK) = true := smF_iff.2 ⟨rfl, hid, rfl, hn⟩
    rw [ruT, ruT, sameL, sameL, k1, k2, h3]; rfl
  have hp := sameL_prn hs
  refine ⟨?_, hp, hs⟩
  have hne : (a.2 = []) = (b.2 = []) := by
    rw [← List.length_eq_zero_iff, ← List.length_eq_zero_iff, h1]
  unfold ruE
  rw [hid, h2, hp, h1]
  simp only [hne]
theorem rusQ_all : ∀ {l m : List Ru}, rusQ l m = true → l.length = m.length ∧ (∀ i, rusE l i = rusE m i) ∧ txR l = txR m
  | [], [], _ => ⟨rfl, fun _ => rfl, rfl⟩
  | [], _ :: _, h => by cases h
  | _ :: _, [], h => by cases h
  | x :: l, y :: m, h => by
    rw [rusQ, Bool.and_eq_true] at h
    obtain ⟨a, b, c⟩ := rusQ_all h.2
    obtain ⟨d, e, _⟩ := ruQ_all h.1
    refine ⟨by rw [List.length_cons, List.length_cons, a], fun i => by rw [rusE, rusE, d, b], ?_⟩
    unfold txR at c ⊢
    rw [List.flatMap_cons, List.flatMap_cons, e, c]
/-- equal rules are printed alike -/
theorem rusQ_prA {l m : List Ru} (h : rusQ l m = true) : prA l = prA m := by
  obtain ⟨a, b, c⟩ := rusQ_all h
  unfold prA
  rw [a, b, c]
theorem pcs_len : ∀ (L cur : List UInt8), (pcs cur L).length ≤ L.length ∧ ∀ x ∈ pcs cur L, x.length ≤ cur.length + L.length
  | [], cur => ⟨Nat.le_refl _, fun x h => by cases h⟩
  | c :: r, cur => by
    rw [pcs]
    by_cases hc : c = 10
    · rw [if_pos hc]
      obtain ⟨a, b⟩ := pcs_len r []
      refine ⟨by rw [List.length_cons, List.length_cons]; omega, fun x hx => ?_⟩
      rcases List.mem_cons.1 hx with rfl | hx
      · rw [List.length_cons]; omega
      · have := b x hx
        rw [List.length_cons]; simp at this; omega
    · rw [if_neg hc]
      obtain ⟨a, b⟩ := pcs_len r (cur ++ [c])
      refine ⟨by rw [List.length_cons]; omega, fun x hx => ?_⟩
      have := b x hx
      rw [List.length_append] at this
      rw [List.length_cons]; simp at this; omega
end Go.Proofs.YtcopnpllaoahaaaGreatDoor
namespace Go.Proofs.YtcopnpllaoahaaaGreatDoor
open Go.RowKit
theorem lnK_p0 {β : Type} {tk : Tk β} {most : Nat} : ∀ (n : Nat) (t : List UInt8) (at_ : Nat) (acc l : List (β × Nat × Nat)) (p : Nat), lnK tk most n t at_ acc = (l, p, 0) → p = 0
  | 0, _, _, _, _, _, h => by simp only [lnK, Prod.mk.injEq] at h; exact absurd h.2.2 (by decide)
  | n + 1, [], _, _, _, _, h => by simp only [lnK, Prod.mk.injEq] at h; exact h.2.1.symm
  | n + 1, c :: r, at_, acc, l, p, h => by
    rw [lnK] at h
    by_cases hc : c = 32
    · rw [if_pos hc] at h; exact lnK_p0 n _ _ _ _ _ h
    rw [if_neg hc] at h
    by_cases hm : acc.length = most
    · rw [if_pos hm] at h
      simp only [Prod.mk.injEq] at h
      exact absurd h.2.2 (by decide)
    rw [if_neg hm] at h
    rcases ht : tk (c :: r) with ⟨b, m⟩ | k
    · rw [ht] at h
      simp only at h
      by_cases hd : ((c :: r).drop m).head? = none ∨ ((c :: r).drop m).head? = some 32
      · rw [if_pos hd] at h; exact lnK_p0 n _ _ _ _ _ h
      · rw [if_neg hd] at h
        simp only [Prod.mk.injEq] at h
        exact absurd h.2.2 (by decide)
    · rw [ht] at h
      simp only [Prod.mk.injEq] at h
      exact absurd h.2.2 (by decide)
theorem line_ok {L : List UInt8} {l : List Tok} {q : Nat} (h : lineK L = (l, q, 0)) : q = 0 ∧ L.length ≤ 1000 ∧ lnK (tkK uqK) 80 (L.length + 1) L 0 [] = (l, 0, 0) := by
  unfold lineK at h
  by_cases h1 : 1000 < L.length
  · rw [if_pos h1] at h
    simp only [Prod.mk.injEq] at h
    exact absurd h.2.2 (by decide)
  rw [if_neg h1] at h
  have := lnK_p0 _ _ _ _ _ _ h
  subst this
  exact ⟨rfl, by omega, h⟩
theorem line_bad {L : List UInt8} {l : List Tok} {q : Nat} {er : Int} (hL : L.length ≤ 1000) (h : lineK L = (l, q, er)) (he : er ≠ 0) : l = [] ∧ q ≤ L.length := by
  unfold lineK at h
  rw [if_neg (by omega)] at h
  obtain ⟨a, _, b, _⟩ := lnK_bad (tkK_ok uqK) _ _ _ _ _ _ _ (Nat.lt_succ_self _) h he
  exact ⟨a, by omega⟩
/-- the end of the token ahead -/
def lastQ (l : List Tok) : Nat → Int
  | 0 => -1
  | k + 1 => match l[k]? with
    | some x => (x.2.2 : Nat)
    | none => 0
theorem lastQ_at {l : List Tok} {k : Nat} (h : k < l.length) : lastQ l (k + 1) = ((l[k].2.2 : Nat) : Int) := by
  rw [lastQ, List.getElem?_eq_getElem h]
theorem asc_at : ∀ {l : List Tok} {lo hi : Nat}, AscK lo l hi → ∀ k (h : k < l.length), lastQ l k < ((l[k].2.1 : Nat) : Int) ∧ l[k].2.1 < l[k].2.2 ∧ l[k].2.2 ≤ hi ∧ lo ≤ l[k].2.1
  | [], _, _, _, k, h => by simp at h
  | x :: t, lo, hi, H, k, h => by
    obtain ⟨h1, h2, h3, h4⟩ := H
    cases k with
    | zero =>
      refine ⟨?_, h2, h3, h1⟩
      show (-1 : Int) < _
      omega
    | succ k =>
      obtain ⟨a1, a2, a3, a4⟩ := asc_at h4 k (by simpa using h)
      refine ⟨?_, a2, a3, by simp only [List.getElem_cons_succ]; omega⟩
      cases k with
      | zero =>
        have e : lastQ (x :: t) (0 + 1) = ((x.2.2 : Nat) : Int) := rfl
        rw [e]
        simp only [List.getElem_cons_succ]
        omega
      | succ j =>
        have e : lastQ (x :: t) (j + 1 + 1) = lastQ t (j + 1) := by rw [lastQ, lastQ, List.getElem?_cons_succ]
        rw [e]
        exact a1
theorem places_at {L : List UInt8} {l : List Tok} {q : Nat} (h : lineK L = (l, q, 0)) (k : Nat) (hk : k < l.length) : lastQ l k < ((l[k].2.1 : Nat) : Int) ∧ l[k].2.1 < l[k].2.2 ∧ l[k].2.2 ≤ L.length ∧
    lineK ((L.drop l[k].2.1).take (l[k].2.2 - l[k].2.1)) = ([(l[k].1, 0, l[k].2.2 - l[k].2.1)], 0, 0) := by
  obtain ⟨_, hL, hl⟩ := line_ok h
  obtain ⟨m, hm, ha⟩ := lnK_asc (tkK_ok uqK) _ _ _ _ _ (Nat.lt_succ_self _) hl
  rw [List.nil_append] at hm
  subst hm
  obtain ⟨a1, a2, a3, _⟩ := asc_at ha k hk
  obtain ⟨m2, hm2, hx⟩ := lnK_mem (tkK_ok uqK) _ _ _ _ _ (Nat.lt_succ_self _) hl
  rw [List.nil_append] at hm2
  subst hm2
  obtain ⟨f, j, e1, e2, e3, e4, e5, e6, e7⟩ := hx _ (List.getElem_mem hk)
  rw [Nat.zero_add] at e1 e2
  refine ⟨a1, a2, by omega, ?_⟩
  have ej : l[k].2.2 - l[k].2.1 = j := by omega
  rw [ej, e1]
  unfold lineK
  have hlen : ((L.drop f).take j).length = j := by rw [List.length_take, List.length_drop]; omega
  rw [if_neg (by omega), hlen]
  exact lnK_cut (tkK_ok uqK) (by decide) e5 e6 e7 (Nat.lt_succ_self _)
theorem same_tok (b : Bd) (p q p' q' : Nat) : sameL false [t9 (b, p, q)] [t9 (b, p', q')] = true := by
  have h := (smF_iff (t := t9 (b, p, q)) (u := t9 (b, p', q'))).2 ⟨rfl, rfl, rfl, sQ_refl _⟩
  rw [sameL, sameL, h]; rfl
theorem same_of {m l : List Tok} (h : m.map (·.1) = l.map (·.1)) : sameL false (m.map t9) (l.map t9) = true := by
  have hlen : m.length = l.length := by simpa using congrArg List.length h
  refine sameL_true (by rw [List.length_map, List.length_map, hlen]) fun k h1 h2 => ?_
  rw [List.getElem_map, List.getElem_map]
  rw [List.length_map] at h1 h2
  have e := congrArg (·[k]?) h
  simp only [List.getElem?_map, List.getElem?_eq_getElem h1, List.getElem?_eq_getElem h2, Option.map_some, Option.some.injEq] at e
  exact smF_iff.2 ⟨by show ((m[k].1.1 : Nat) : Int) = ((l[k].1.1 : Nat) : Int); rw [e], by show ((m[k].1.2.1 : Nat) : Int) = ((l[k].1.2.1 : Nat) : Int); rw [e], by show (⟨m[k].1.2.2.1.toArray⟩ : ByteArray) = ⟨l[k].1.2.2.1.toArray⟩; rw [e], by show sQ m[k].1.2.2.2 l[k].1.2.2.2 = true; rw [e]; exact sQ_refl _⟩
/-- where blanks are put: behind the k-th token -/
def atQ (l : List Tok) : Nat → Nat
  | 0 => 0
  | k + 1 => match l[k]? with
    | some x => x.2.2
    | none => 0
theorem blanks_law {L : List UInt8} {l : List Tok} {q : Nat} (h : lineK L = (l, q, 0)) (hL : L.length ≤ 300) (d : Nat) (hd : d ≤ 5) (k : Nat) (hk : k ≤ l.length) : atQ l k ≤ L.length ∧
    ∃ m, lineK (L.take (atQ l k) ++ List.replicate d 32 ++ L.drop (atQ l k) ++ List.replicate d 32) = (m, 0, 0) ∧ m.length = l.length ∧ sameL false (m.map t9) (l.map t9) = true ∧
      ∀ i (h1 : i < m.length) (h2 : i < l.length), m[i].2.1 = l[i].2.1 + (if k ≤ i then d else 0) ∧ m[i].2.2 = l[i].2.2 + (if k ≤ i then d else 0) := by
  obtain ⟨_, _, hl⟩ := line_ok h
  obtain ⟨m0, hm0, hx⟩ := lnK_ins (tkK_ok uqK) d _ _ _ _ _ (Nat.lt_succ_self _) hl
  rw [List.nil_append] at hm0
  subst hm0
  obtain ⟨p, hp, hp0, hp1, hn⟩ := hx k hk
  have hat : atQ l k = p := by
    cases k with
    | zero => exact (hp0 rfl).symm
    | succ j =>
      have hj : j < l.length := hk
      have := hp1 j l[j] rfl (List.getElem?_eq_getElem hj)
      rw [atQ, List.getElem?_eq_getElem hj]
      simp only
      omega
  rw [hat]
  refine ⟨hp, l.take k ++ (l.drop k).map (shK d), ?_, ?_, ?_, ?_⟩
  · have h1 := hn (L.length + d + 1) (Nat.lt_succ_self _)
    rw [List.nil_append] at h1
    have hz : (L.take p ++ (List.replicate d 32 ++ L.drop p)).length = L.length + d := by
      rw [List.length_append, List.length_append, List.length_replicate, List.length_take, List.length_drop]; omega
    have h2 := lnK_tail (tkK_ok uqK) d _ _ _ _ _ (by rw [hz]; exact Nat.lt_succ_self _) h1
    have e : L.take p ++ List.replicate d 32 ++ L.drop p ++ List.replicate d 32 = (L.take p ++ (List.replicate d 32 ++ L.drop p)) ++ List.replicate d 32 := by rw [List.append_assoc (L.take p)]
    rw [e]
    unfold lineK
    have hz2 : ((L.take p ++ (List.replicate d 32 ++ L.drop p)) ++ List.replicate d 32).length = L.length + d + d := by rw [List.length_append, hz, List.length_replicate]
    rw [if_neg (by omega), hz2, show L.length + d + d + 1 = L.length + d + 1 + d by omega]
    exact h2
  · rw [List.length_append, List.length_map, List.length_take, List.length_drop]; omega
  · apply same_of
    rw [List.map_append, List.map_map]
    have e : ((fun x : Tok => x.1) ∘ shK d) = fun x : Tok => x.1 := rfl
    rw [e, ← List.map_append, List.take_append_drop]
  · intro i h1 h2
    by_cases hi : k ≤ i
    · rw [if_pos hi, List.getElem_append_right (by rw [List.length_take]; omega), List.getElem_map, List.getElem_drop]
      have e : k + (i - (l.take k).length) = i := by rw [List.length_take]; omega
      have e2 : l[k + (i - (l.take k).length)]'(by omega) = l[i] := by congr 1
      rw [e2]
      exact ⟨rfl, rfl⟩
    · rw [if_neg hi, List.getElem_append_left (by rw [List.length_take]; omega), List.getElem_take]
      exact ⟨rfl, rfl⟩
end Go.Proofs.YtcopnpllaoahaaaGreatDoor
namespace Go.Proofs.YtcopnpllaoahaaaGreatDoor
open Go.RowKit
theorem line_fault {L : List UInt8} {l : List Tok} {q : Nat} {e : Int} (h : lineK L = (l, q, e)) (he : e ≠ 0) : q ≤ L.length := by
  by_cases hL : L.length ≤ 1000
  · exact (line_bad hL h he).2
  · unfold lineK at h
    rw [if_pos (by omega)] at h
    simp only [Prod.mk.injEq] at h
    omega
theorem lxE_fault : ∀ (a : List (List UInt8)) (j i p : Nat) (e : Int) (N : Nat), (∀ x ∈ a, x.length ≤ N) → lxE a j = some (i, p, e) → e ≠ 0 ∧ i < j + a.length ∧ p ≤ N
  | [], _, _, _, _, _, _, h => by cases h
  | x :: a, j, i, p, e, N, hN, h => by
    rw [lxE] at h
    by_cases hx : (lineK x).2.2 ≠ 0
    · rw [if_pos hx] at h
      simp only [Option.some.injEq, Prod.mk.injEq] at h
      obtain ⟨rfl, rfl, rfl⟩ := h
      have h1 := hN x List.mem_cons_self
      have h2 := line_fault (L := x) (l := (lineK x).1) (q := (lineK x).2.1) (e := (lineK x).2.2) rfl hx
      exact ⟨hx, by rw [List.length_cons]; omega, by omega⟩
    · rw [if_neg hx] at h
      obtain ⟨h1, h2, h3⟩ := lxE_fault a (j + 1) i p e N (fun y hy => hN y (List.mem_cons_of_mem _ hy)) h
      exact ⟨h1, by rw [List.length_cons]; omega, h3⟩
theorem lxE_each : ∀ (a : List (List UInt8)) (i : Nat), lxE a i = none → ∀ x ∈ a, (lineK x).2.2 = 0
  | [], _, _, x, h => by cases h
  | y :: a, i, h, x, hx => by
    rw [lxE] at h
    by_cases hy : (lineK y).2.2 ≠ 0
    · rw [if_pos hy] at h; cases h
    rw [if_neg hy] at h
    rcases List.mem_cons.1 hx with rfl | hx
    · exact Decidable.not_not.1 hy
    · exact lxE_each a _ h x hx
theorem tok_places {x : List UInt8} (h : (lineK x).2.2 = 0) : ∀ t ∈ (lineK x).1, t.2.1 ≤ x.length ∧ t.2.2 ≤ x.length := by
  intro t ht
  obtain ⟨k, hk, rfl⟩ := List.getElem_of_mem ht
  have hh : lineK x = ((lineK x).1, (lineK x).2.1, 0) := by rw [← h]
  obtain ⟨_, h2, h3, _⟩ := places_at hh k hk
  omega
theorem rdS_fault : ∀ (a : List (List Tok)) (i : Nat) (acc l : List Ru) (p : Nat) (q e : Int) (N : Nat), (∀ t ∈ a, ∀ x ∈ t, x.2.1 ≤ N ∧ x.2.2 ≤ N) → rdS a i acc = (l, p, q, e) → e ≠ 0 → l = [] ∧ p ≤ i + a.length ∧ 0 ≤ q ∧ q ≤ (N : Int)
  | [], _, _, _, _, _, _, _, _, h, he => by
    simp only [rdS, Prod.mk.injEq] at h
    exact absurd h.2.2.2.symm he
  | t :: a, i, acc, l, p, q, e, N, hN, h, he => by
    have hN2 : ∀ u ∈ a, ∀ x ∈ u, x.2.1 ≤ N ∧ x.2.2 ≤ N := fun u hu => hN u (List.mem_cons_of_mem _ hu)
    have ht := hN t List.mem_cons_self
    rw [rdS] at h
    by_cases h0 : t = []
    · rw [if_pos h0] at h
      obtain ⟨a1, a2, a3, a4⟩ := rdS_fault a _ _ _ _ _ _ N hN2 h he
      exact ⟨a1, by rw [List.length_cons]; omega, a3, a4⟩
    rw [if_neg h0] at h
    by_cases h1 : (ruK (t.map t9)).2.2 ≠ 0
    · rw [if_pos h1] at h
      split at h
      · simp only [Prod.mk.injEq] at h
        obtain ⟨rfl, rfl, rfl, _⟩ := h
        refine ⟨rfl, by rw [List.length_cons]; omega, by omega, ?_⟩
        have hm : t.getLastD ((0, 0, [], noK), 0, 0) ∈ t := by
          rw [List.getLastD_eq_getLast?, List.getLast?_eq_some_getLast h0]
          exact List.getLast_mem h0
        have := (ht _ hm).2
        omega
      · simp only [Prod.mk.injEq] at h
        obtain ⟨rfl, rfl, rfl, _⟩ := h
        refine ⟨rfl, by rw [List.length_cons]; omega, by omega, ?_⟩
        generalize (ruK (t.map t9)).2.1 = n
        rw [List.getD_eq_getElem?_getD]
        rcases hg : t[n]? with _ | x
        · show ((0 : Nat) : Int) ≤ (N : Int)
          omega
        · have := (ht x (List.mem_of_getElem? hg)).1
          show ((x.2.1 : Nat) : Int) ≤ (N : Int)
          omega
    rw [if_neg h1] at h
    by_cases h64 : acc.length = 64
    · rw [if_pos h64] at h
      simp only [Prod.mk.injEq] at h
      obtain ⟨rfl, rfl, rfl, _⟩ := h
      exact ⟨rfl, by rw [List.length_cons]; omega, by omega, by omega⟩
    · rw [if_neg h64] at h
      obtain ⟨a1, a2, a3, a4⟩ := rdS_fault a _ _ _ _ _ _ N hN2 h he
      exact ⟨a1, by rw [List.length_cons]; omega, a3, a4⟩
/-- a fault of Parse is in a line of the text -/
theorem psK_fault {L : List UInt8} {l : List Ru} {p : Nat} {q e : Int} (h : psK L = (l, p, q, e)) (he : e ≠ 0) : l = [] ∧ p ≤ L.length ∧ 0 ≤ q ∧ q ≤ (L.length : Int) := by
  unfold psK at h
  by_cases h1 : 4000 < L.length
  · rw [if_pos h1] at h
    simp only [Prod.mk.injEq] at h
    obtain ⟨rfl, rfl, rfl, _⟩ := h
    exact ⟨rfl, by omega, by omega, by omega⟩
  rw [if_neg h1] at h
  by_cases h2 : L = []
  · rw [if_pos h2] at h
    simp only [Prod.mk.injEq] at h
    exact absurd h.2.2.2.symm he
  rw [if_neg h2] at h
  by_cases h3 : L.getLast? ≠ some 10
  · rw [if_pos h3] at h
    simp only [Prod.mk.injEq] at h
    obtain ⟨rfl, rfl, rfl, _⟩ := h
    exact ⟨rfl, by omega, by omega, by omega⟩
  rw [if_neg h3] at h
  obtain ⟨b1, b2⟩ := pcs_len L []
  have b3 : ∀ x ∈ pcs [] L, x.length ≤ L.length := fun x hx => by
    have := b2 x hx
    simpa using this
  rcases hx : lxE (pcs [] L) 0 with _ | ⟨i, pp, ee⟩
  · rw [hx] at h
    simp only at h
    have hall := lxE_each _ _ hx
    obtain ⟨a1, a2, a3, a4⟩ := rdS_fault _ _ _ _ _ _ _ L.length (fun t ht x hxm => by
      obtain ⟨y, hy, rfl⟩ := List.mem_map.1 ht
      obtain ⟨c1, c2⟩ := tok_places (hall y hy) x hxm
      have := b3 y hy
      exact ⟨by omega, by omega⟩) h he
    rw [List.length_map] at a2
    exact ⟨a1, by omega, a3, a4⟩
  · rw [hx] at h
    simp only [Prod.mk.injEq] at h
    obtain ⟨c1, c2, c3⟩ := lxE_fault _ _ _ _ _ L.length b3 hx
    obtain ⟨rfl, rfl, rfl, _⟩ := h
    exact ⟨rfl, by omega, by omega, by omega⟩
end Go.Proofs.YtcopnpllaoahaaaGreatDoor
