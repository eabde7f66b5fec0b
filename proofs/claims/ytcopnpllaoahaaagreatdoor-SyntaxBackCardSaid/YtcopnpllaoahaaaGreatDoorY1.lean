/- Syntax: rules, their tokens, what is read out of tokens: plain words and laws. No condition. Syntax: elements, rules and lines of tokens in memory. No condition. -/
import Derived.Test.YtcopnpllaoahaaaGreatDoorJ12
namespace Go.Proofs.YtcopnpllaoahaaaGreatDoor
open Go.RowKit
/-- an element: kind, text, set, the two bounds; a rule: its id and its elements -/
abbrev El := Int × ByteArray × (Nat → Bool) × Int × Int
abbrev Ru := Int × List El
def noB : ByteArray := ⟨#[]⟩
/-- the elements that tokens begin with, from a place on: them, the place of the fault, the error -/
def elsK : List T9 → Nat → List El → List El × Nat × Int
  | [], _, acc => (acc, 0, 0)
  | t :: r, at_, acc =>
    if acc.length = 64 then ([], at_, 3) else
    if t.1 = 4 then elsK r (at_ + 1) (acc ++ [(1, t.2.2.2.2.1, noK, 0, 0)]) else
    if t.1 = 5 then elsK r (at_ + 1) (acc ++ [(2, t.2.2.2.2.1, noK, 0, 0)]) else
    if t.1 = 6 then elsK r (at_ + 1) (acc ++ [(3, noB, t.2.2.2.2.2, 0, 0)]) else
    if t.1 = 2 then
      match r with
      | [] => ([], at_ + 1, 6)
      | n :: r1 => if n.1 = 3 then
          match r1 with
          | [] => ([], at_ + 2, 6)
          | m :: r2 => if m.1 = 3 then elsK r2 (at_ + 3) (acc ++ [(4, noB, noK, n.2.2.2.1, m.2.2.2.1)]) else ([], at_ + 2, 6)
        else ([], at_ + 1, 6)
    else ([], at_, 6)
theorem elsK_cons (t : T9) (r : List T9) (at_ : Nat) (acc : List El) : elsK (t :: r) at_ acc =
    if acc.length = 64 then ([], at_, 3) else
    if t.1 = 4 then elsK r (at_ + 1) (acc ++ [(1, t.2.2.2.2.1, noK, 0, 0)]) else
    if t.1 = 5 then elsK r (at_ + 1) (acc ++ [(2, t.2.2.2.2.1, noK, 0, 0)]) else
    if t.1 = 6 then elsK r (at_ + 1) (acc ++ [(3, noB, t.2.2.2.2.2, 0, 0)]) else
    if t.1 = 2 then
      match r with
      | [] => ([], at_ + 1, 6)
      | n :: r1 => if n.1 = 3 then
          match r1 with
          | [] => ([], at_ + 2, 6)
          | m :: r2 => if m.1 = 3 then elsK r2 (at_ + 3) (acc ++ [(4, noB, noK, n.2.2.2.1, m.2.2.2.1)]) else ([], at_ + 2, 6)
        else ([], at_ + 1, 6)
    else ([], at_, 6) := by
  rw [elsK.eq_def]
/-- what Read answers: the rule, the place, the error -/
def ruK (l : List T9) : Ru × Nat × Int :=
  match errL l 0 with
  | some (i, e) => ((0, []), i, e)
  | none => match l with
    | [] => ((0, []), 0, 6)
    | [t] => if t.1 = 1 then ((0, []), 1, 6) else ((0, []), 0, 6)
    | t :: n :: r => if t.1 = 1 then (if n.1 = 3 then (if r = [] then ((0, []), 2, 6) else
        match elsK r 2 [] with
        | (es, at_, e) => if e = 0 then ((n.2.2.2.1, es), 0, 0) else ((0, []), at_, e)) else ((0, []), 1, 6)) else ((0, []), 0, 6)
/-- the tokens of an element, of a rule -/
def elT (x : El) : List T9 :=
  if x.1 = 1 then [(4, 0, 0, 0, x.2.1, x.2.2.1)] else if x.1 = 2 then [(5, 0, 0, 0, x.2.1, x.2.2.1)] else if x.1 = 3 then [(6, 0, 0, 0, x.2.1, x.2.2.1)]
  else [(2, 0, 0, 0, x.2.1, x.2.2.1), (3, 0, 0, x.2.2.2.1, noB, noK), (3, 0, 0, x.2.2.2.2, noB, noK)]
def ruT (r : Ru) : List T9 := (1, 0, 0, 0, noB, noK) :: (3, 0, 0, r.1, noB, noK) :: r.2.flatMap elT
/-- elements, rules in place of others -/
def elQ (x y : El) : Bool := decide (x.1 = y.1 ∧ x.2.1 = y.2.1 ∧ x.2.2.2.1 = y.2.2.2.1 ∧ x.2.2.2.2 = y.2.2.2.2) && sQ x.2.2.1 y.2.2.1
def elsQ : List El → List El → Bool
  | [], [] => true
  | x :: l, y :: m => elQ x y && elsQ l m
  | _, _ => false
def ruQ (a b : Ru) : Bool := decide (a.1 = b.1) && elsQ a.2 b.2
/-- the error of an element -/
def elE (x : El) : Int :=
  if x.1 < 1 ∨ 4 < x.1 ∨ (x.1 ≠ 1 ∧ x.1 ≠ 2 ∧ x.2.1 ≠ noB) ∨ (x.1 ≠ 3 ∧ sQ x.2.2.1 noK = false) ∨ (x.1 ≠ 4 ∧ (x.2.2.2.1 ≠ 0 ∨ x.2.2.2.2 ≠ 0)) then 2
  else if x.2.2.2.1 < 0 ∨ 999999999 < x.2.2.2.1 ∨ x.2.2.2.2 < 0 ∨ 999999999 < x.2.2.2.2 then 7
  else if 2000 < x.2.1.size then 3 else 0
/-- an element without errors -/
theorem elE_zero {x : El} (h : elE x = 0) : (x.1 = 1 ∨ x.1 = 2 ∨ x.1 = 3 ∨ x.1 = 4) ∧ (x.1 ≠ 1 → x.1 ≠ 2 → x.2.1 = noB) ∧ (x.1 ≠ 3 → sQ x.2.2.1 noK = true) ∧ (x.1 ≠ 4 → x.2.2.2.1 = 0 ∧ x.2.2.2.2 = 0) ∧
    (0 ≤ x.2.2.2.1 ∧ x.2.2.2.1 ≤ 999999999) ∧ (0 ≤ x.2.2.2.2 ∧ x.2.2.2.2 ≤ 999999999) ∧ x.2.1.size ≤ 2000 := by
  unfold elE at h
  by_cases h1 : x.1 < 1 ∨ 4 < x.1 ∨ (x.1 ≠ 1 ∧ x.1 ≠ 2 ∧ x.2.1 ≠ noB) ∨ (x.1 ≠ 3 ∧ sQ x.2.2.1 noK = false) ∨ (x.1 ≠ 4 ∧ (x.2.2.2.1 ≠ 0 ∨ x.2.2.2.2 ≠ 0))
  · rw [if_pos h1] at h; cases h
  rw [if_neg h1] at h
  by_cases h2 : x.2.2.2.1 < 0 ∨ 999999999 < x.2.2.2.1 ∨ x.2.2.2.2 < 0 ∨ 999999999 < x.2.2.2.2
  · rw [if_pos h2] at h; cases h
  rw [if_neg h2] at h
  by_cases h3 : 2000 < x.2.1.size
  · rw [if_pos h3] at h; cases h
  refine ⟨by omega, fun a b => ?_, fun a => ?_, fun a => ?_, by omega, by omega, by omega⟩
  · exact Classical.byContradiction fun c => h1 (.inr (.inr (.inl ⟨a, b, c⟩)))
  · rcases hh : sQ x.2.2.1 noK with _ | _
    · exact absurd (.inr (.inr (.inr (.inl ⟨a, hh⟩)))) h1
    · rfl
  · exact Classical.byContradiction fun c => h1 (.inr (.inr (.inr (.inr ⟨a, by omega⟩))))
theorem elQ_iff {x y : El} : elQ x y = true ↔ x.1 = y.1 ∧ x.2.1 = y.2.1 ∧ x.2.2.2.1 = y.2.2.2.1 ∧ x.2.2.2.2 = y.2.2.2.2 ∧ sQ x.2.2.1 y.2.2.1 = true := by
  unfold elQ
  rw [Bool.and_eq_true, decide_eq_true_eq]
  simp only [and_assoc]
/-- the tokens of an element without errors are read as the element -/
theorem els_one {x : El} (h : elE x = 0) {ts : List T9} (hs : sameL false ts (elT x) = true) (r : List T9) (at_ : Nat) (acc : List El) (ha : acc.length < 64) :
    ∃ y at2, elQ y x = true ∧ elsK (ts ++ r) at_ acc = elsK r at2 (acc ++ [y]) := by
  obtain ⟨hk, hS, hq, hz, _⟩ := elE_zero h
  obtain ⟨K, S, f, lo, hi⟩ := x
  simp only at hk hS hq hz
  have hn : ¬ acc.length = 64 := by omega
  have hnn : sQ noK noK = true := sQ_refl _
  rcases hk with rfl | rfl | rfl | rfl
  · have e : elT (1, S, f, lo, hi) = [(4, 0, 0, 0, S, f)] := rfl
    rw [e] at hs
    obtain ⟨hl, hm⟩ := sameL_mem hs
    match ts, hl with
    | [t], _ =>
      obtain ⟨a1, a2, a3, a4⟩ := smF_iff.1 (hm 0 (by simp) (by simp))
      simp only [List.getElem_cons_zero] at a1 a2 a3 a4
      refine ⟨(1, t.2.2.2.2.1, noK, 0, 0), at_ + 1, elQ_iff.2 ⟨rfl, a3, (hz (by decide)).1.symm, (hz (by decide)).2.symm, sQ_symm (hq (by decide))⟩, ?_⟩
      rw [List.cons_append, List.nil_append, elsK_cons, if_neg hn, if_pos a1]
  · have e : elT (2, S, f, lo, hi) = [(5, 0, 0, 0, S, f)] := rfl
    rw [e] at hs
    obtain ⟨hl, hm⟩ := sameL_mem hs
    match ts, hl with
    | [t], _ =>
      obtain ⟨a1, a2, a3, a4⟩ := smF_iff.1 (hm 0 (by simp) (by simp))
      simp only [List.getElem_cons_zero] at a1 a2 a3 a4
      refine ⟨(2, t.2.2.2.2.1, noK, 0, 0), at_ + 1, elQ_iff.2 ⟨rfl, a3, (hz (by decide)).1.symm, (hz (by decide)).2.symm, sQ_symm (hq (by decide))⟩, ?_⟩
      rw [List.cons_append, List.nil_append, elsK_cons, if_neg hn, if_neg (by rw [a1]; decide), if_pos a1]
  · have e : elT (3, S, f, lo, hi) = [(6, 0, 0, 0, S, f)] := rfl
    rw [e] at hs
    obtain ⟨hl, hm⟩ := sameL_mem hs
    match ts, hl with
    | [t], _ =>
      obtain ⟨a1, a2, a3, a4⟩ := smF_iff.1 (hm 0 (by simp) (by simp))
      simp only [List.getElem_cons_zero] at a1 a2 a3 a4
      refine ⟨(3, noB, t.2.2.2.2.2, 0, 0), at_ + 1, elQ_iff.2 ⟨rfl, (hS (by decide) (by decide)).symm, (hz (by decide)).1.symm, (hz (by decide)).2.symm, a4⟩, ?_⟩
      rw [List.cons_append, List.nil_append, elsK_cons, if_neg hn, if_neg (by rw [a1]; decide), if_neg (by rw [a1]; decide), if_pos a1]
  · have e : elT (4, S, f, lo, hi) = [(2, 0, 0, 0, S, f), (3, 0, 0, lo, noB, noK), (3, 0, 0, hi, noB, noK)] := rfl
    rw [e] at hs
    obtain ⟨hl, hm⟩ := sameL_mem hs
    match ts, hl with
    | [t, n, m], _ =>
      obtain ⟨a1, a2, a3, a4⟩ := smF_iff.1 (hm 0 (by simp) (by simp))
      obtain ⟨b1, b2, _, _⟩ := smF_iff.1 (hm 1 (by simp) (by simp))
      obtain ⟨c1, c2, _, _⟩ := smF_iff.1 (hm 2 (by simp) (by simp))
      simp only [List.getElem_cons_zero, List.getElem_cons_succ] at a1 a2 a3 a4 b1 b2 c1 c2
      refine ⟨(4, noB, noK, n.2.2.2.1, m.2.2.2.1), at_ + 3, elQ_iff.2 ⟨rfl, (hS (by decide) (by decide)).symm, b2, c2, sQ_symm (hq (by decide))⟩, ?_⟩
      rw [List.cons_append, List.cons_append, List.cons_append, List.nil_append, elsK_cons, if_neg hn, if_neg (by rw [a1]; decide), if_neg (by rw [a1]; decide), if_neg (by rw [a1]; decide), if_pos a1]
      show (if n.1 = 3 then (if m.1 = 3 then _ else _) else _) = _
      rw [if_pos b1, if_pos c1]
theorem sameL_app {p : Bool} : ∀ {ts l m : List T9}, sameL p ts (l ++ m) = true → ∃ a b, ts = a ++ b ∧ sameL p a l = true ∧ sameL p b m = true
  | ts, [], m, h => ⟨[], ts, rfl, rfl, h⟩
  | [], x :: l, m, h => by cases h
  | t :: ts, x :: l, m, h => by
    rw [List.cons_append, sameL, Bool.and_eq_true] at h
    obtain ⟨a, b, e, h1, h2⟩ := sameL_app h.2
    exact ⟨t :: a, b, by rw [e]; rfl, by rw [sameL, h.1, h1]; rfl, h2⟩
theorem elsQ_snoc : ∀ {l m : List El} {x y : El}, elsQ l m = true → elQ x y = true → elsQ (l ++ [x]) (m ++ [y]) = true
  | [], [], x, y, _, h => by show (elQ x y && elsQ [] []) = true; rw [h]; rfl
  | [], _ :: _, _, _, h, _ => by cases h
  | _ :: _, [], _, _, h, _ => by cases h
  | a :: l, b :: m, x, y, h, h2 => by
    rw [elsQ, Bool.and_eq_true] at h
    rw [List.cons_append, List.cons_append, elsQ, h.1, elsQ_snoc h.2 h2]; rfl
/-- the tokens of elements without errors are read as the elements -/
theorem els_all : ∀ (xs : List El) (done acc : List El) (ts : List T9) (at_ : Nat), (∀ x ∈ xs, elE x = 0) → sameL false ts (xs.flatMap elT) = true → elsQ acc done = true → acc.length + xs.length ≤ 64 →
    ∃ ys at2, elsK ts at_ acc = (ys, at2, 0) ∧ elsQ ys (done ++ xs) = true
  | [], done, acc, ts, at_, _, hs, hq, _ => by
    cases ts with
    | cons t r => cases hs
    | nil => exact ⟨acc, 0, rfl, by rw [List.append_nil]; exact hq⟩
  | x :: xs, done, acc, ts, at_, hE, hs, hq, hl => by
    rw [List.flatMap_cons] at hs
    obtain ⟨a, b, rfl, h1, h2⟩ := sameL_app hs
    rw [List.length_cons] at hl
    obtain ⟨y, at2, hy, he⟩ := els_one (hE x List.mem_cons_self) h1 b at_ acc (by omega)
    obtain ⟨ys, at3, h3, h4⟩ := els_all xs (done ++ [x]) (acc ++ [y]) b at2 (fun z hz => hE z (List.mem_cons_of_mem _ hz)) h2 (elsQ_snoc hq hy) (by rw [List.length_append]; simp; omega)
    exact ⟨ys, at3, by rw [he, h3], by rw [List.append_assoc] at h4; exact h4⟩
theorem ck_of {K F T N : Int} {S : ByteArray} {f : Nat → Bool} (hK : 1 ≤ K ∧ K ≤ 6) (h3 : K ≠ 3 → N = 0) (hS : K ≠ 4 → K ≠ 5 → S = noB) (hf : K ≠ 6 → sQ f (fun _ => false) = true) (hN : 0 ≤ N ∧ N ≤ 999999999) (hz : S.size ≤ 2000) : ck9 (K, F, T, N, S, f) = 0 := by
  show ckT K N S f = 0
  unfold ckT
  rw [if_neg, if_neg (by omega), if_neg (by omega)]
  rintro (h | h | ⟨h, h2⟩ | ⟨h, h4, h2⟩ | ⟨h, h2⟩)
  · omega
  · omega
  · exact h2 (h3 h)
  · exact h2 (hS h h4)
  · rw [hf h] at h2; cases h2
theorem elT_ck {x : El} (h : elE x = 0) : ∀ t ∈ elT x, ck9 t = 0 := by
  obtain ⟨hk, hS, hq, hz, h1, h2, h3⟩ := elE_zero h
  obtain ⟨K, S, f, lo, hi⟩ := x
  simp only at hk hS hq hz h1 h2 h3
  have hn : sQ noK (fun _ => false) = true := sQ_refl _
  have hb : noB.size ≤ 2000 := by decide
  intro t ht
  rcases hk with rfl | rfl | rfl | rfl
  · obtain rfl := List.mem_singleton.1 (show t ∈ [(4, 0, 0, 0, S, f)] from ht)
    exact ck_of (by decide) (fun _ => rfl) (fun a => absurd rfl a) (fun _ => hq (by decide)) (by decide) h3
  · obtain rfl := List.mem_singleton.1 (show t ∈ [(5, 0, 0, 0, S, f)] from ht)
    exact ck_of (by decide) (fun _ => rfl) (fun _ a => absurd rfl a) (fun _ => hq (by decide)) (by decide) h3
  · obtain rfl := List.mem_singleton.1 (show t ∈ [(6, 0, 0, 0, S, f)] from ht)
    exact ck_of (by decide) (fun _ => rfl) (fun _ _ => hS (by decide) (by decide)) (fun a => absurd rfl a) (by decide) h3
  · have h0 : t ∈ [((2 : Int), (0 : Int), (0 : Int), (0 : Int), S, f), (3, 0, 0, lo, noB, noK), (3, 0, 0, hi, noB, noK)] := ht
    rcases List.mem_cons.1 h0 with rfl | h0
    · exact ck_of (by decide) (fun _ => rfl) (fun _ _ => hS (by decide) (by decide)) (fun _ => hq (by decide)) (by decide) h3
    rcases List.mem_cons.1 h0 with rfl | h0
    · exact ck_of (by decide) (fun a => absurd rfl a) (fun _ _ => rfl) (fun _ => hn) h1 hb
    obtain rfl := List.mem_singleton.1 h0
    exact ck_of (by decide) (fun a => absurd rfl a) (fun _ _ => rfl) (fun _ => hn) h2 hb
theorem errL_ok {l : List T9} (h : ∀ t ∈ l, ck9 t = 0) : ∀ i, errL l i = none := by
  induction l with
  | nil => intro i; rfl
  | cons t r ih =>
    intro i
    rw [errL, if_neg (by rw [h t List.mem_cons_self]; decide)]
    exact ih (fun x hx => h x (List.mem_cons_of_mem _ hx)) _
/-- a rule without errors is read out of its tokens -/
theorem ru_back {r : Ru} (hid : 0 ≤ r.1 ∧ r.1 ≤ 999999999) (hne : r.2 ≠ []) (h64 : r.2.length ≤ 64) (hE : ∀ x ∈ r.2, elE x = 0) {ts : List T9} (hs : sameL false ts (ruT r) = true) :
    ∃ r' : Ru, ruK ts = (r', 0, 0) ∧ ruQ r' r = true := by
  have herr : errL ts 0 = none := by
    rw [(sameL_err hs).1 0]
    refine errL_ok (fun t ht => ?_) 0
    have hn : sQ noK (fun _ => false) = true := sQ_refl _
    rcases List.mem_cons.1 ht with rfl | ht
    · exact ck_of (by decide) (fun _ => rfl) (fun _ _ => rfl) (fun _ => hn) (by decide) (by decide)
    rcases List.mem_cons.1 ht with rfl | ht
    · exact ck_of (by decide) (fun a => absurd rfl a) (fun _ _ => rfl) (fun _ => hn) hid (by decide)
    obtain ⟨x, hx, ht⟩ := List.mem_flatMap.1 ht
    exact elT_ck (hE x hx) t ht
  match ts, hs, herr with
  | [], hs, _ => cases hs
  | [t], hs, _ => rw [ruT, sameL, Bool.and_eq_true] at hs; exact absurd hs.2 (fun e => by cases e)
  | t :: n :: rest, hs, herr =>
    rw [ruT, sameL, sameL, Bool.and_eq_true, Bool.and_eq_true] at hs
    obtain ⟨a1, _⟩ := smF_iff.1 hs.1
    obtain ⟨b1, b2, _⟩ := smF_iff.1 hs.2.1
    have hr : rest ≠ [] := by
      rintro rfl
      have hl := (sameL_mem hs.2.2).1
      obtain ⟨x, xs, hx⟩ := List.exists_cons_of_ne_nil hne
      rw [hx, List.flatMap_cons, List.length_append] at hl
      have hp : 0 < (elT x).length := by
        unfold elT
        split
        · exact Nat.succ_pos _
        split
        · exact Nat.succ_pos _
        split
        · exact Nat.succ_pos _
        · exact Nat.succ_pos _
      simp at hl
      omega
    obtain ⟨ys, at2, h3, h4⟩ := els_all r.2 [] [] rest 2 hE hs.2.2 rfl (by simpa using h64)
    refine ⟨(n.2.2.2.1, ys), ?_, ?_⟩
    · unfold ruK
      rw [herr]
      simp only
      rw [if_pos a1, if_pos b1, if_neg hr, h3]
      simp
    · rw [List.nil_append] at h4
      show (decide (n.2.2.2.1 = r.1) && elsQ ys r.2) = true
      rw [h4, decide_eq_true b2]; rfl
end Go.Proofs.YtcopnpllaoahaaaGreatDoor
namespace Go.Proofs.YtcopnpllaoahaaaGreatDoor
open Go.RowKit
section
variable {α : Type} {f : α → List Value} {m : Nat} (hm : ∀ x, (f x).length = m)
include hm
theorem fm_len (l : List α) : (l.flatMap f).length = l.length * m := by
  induction l with
  | nil => simp
  | cons x r ih => rw [List.flatMap_cons, List.length_append, ih, hm, List.length_cons, Nat.succ_mul]; omega
theorem fm_at (l : List α) (k j : Nat) (hk : k < l.length) (hj : j < m) : (l.flatMap f)[k * m + j]? = (f l[k])[j]? := by
  have e : l = l.take k ++ l[k] :: l.drop (k + 1) := by rw [← List.drop_eq_getElem_cons hk, List.take_append_drop]
  have h1 : ((l.take k).flatMap f).length = k * m := by rw [fm_len hm, List.length_take, Nat.min_eq_left (by omega)]
  have h2 : l.flatMap f = (l.take k).flatMap f ++ (f l[k] ++ (l.drop (k + 1)).flatMap f) := by
    conv => lhs; rw [e]
    rw [List.flatMap_append, List.flatMap_cons]
  rw [h2, List.getElem?_append_right (by omega), h1, Nat.add_sub_cancel_left, List.getElem?_append_left (by rw [hm]; exact hj)]
theorem Reads.fm {w : World} {B k n : Nat} {A : Option Addr} {l : List α} (h : Reads w B m A n (l.flatMap f)) (hn : n = l.length) (hk : k < l.length) :
    ∃ b off, A = some ⟨b, off, none⟩ ∧ b < B ∧ ∀ j u, j < m → (f l[k])[j]? = some u → w.cell? ⟨b, off + k * m + j, none⟩ = some u := by
  obtain ⟨b, off, e, hb, hc⟩ := h.2 (by omega)
  refine ⟨b, off, e, hb, fun j u hj hu => ?_⟩
  have := hc (k * m + j) u ((fm_at hm l k j hk hj).trans hu)
  rwa [← Nat.add_assoc] at this
end
theorem fm_one {α : Type} {f : α → List Value} (hf : ∀ x, ∀ u ∈ f x, u.oneCell' = true) (l : List α) : ∀ u ∈ l.flatMap f, u.oneCell' = true := by
  intro u hu
  obtain ⟨t, _, h⟩ := List.mem_flatMap.1 hu
  exact hf t u h
/-- the cells of an element, of elements -/
abbrev elC (x : El) : List Value := [.int .i64 x.1, .string x.2.1, .int .u64 ((wK x.2.2.1 0 : Nat) : Int), .int .u64 ((wK x.2.2.1 1 : Nat) : Int), .int .u64 ((wK x.2.2.1 2 : Nat) : Int), .int .u64 ((wK x.2.2.1 3 : Nat) : Int), .int .i64 x.2.2.2.1, .int .i64 x.2.2.2.2]
def els (l : List El) : List Value := l.flatMap elC
theorem els_len (l : List El) : (els l).length = l.length * 8 := fm_len (f := elC) (m := 8) (fun _ => rfl) l
theorem els_app (l m : List El) : els (l ++ m) = els l ++ els m := by unfold els; simp
theorem elc_one (l : List El) : ∀ u ∈ els l, u.oneCell' = true := fm_one (fun x u hu => by
  simp only [List.mem_cons, List.not_mem_nil, or_false] at hu
  rcases hu with rfl | rfl | rfl | rfl | rfl | rfl | rfl | rfl <;> rfl) l
theorem elEl : Elem Tryz.prog 40 38 (.agg #[.int .i64 0, .string ⟨#[]⟩, .int .u64 0, .int .u64 0, .int .u64 0, .int .u64 0, .int .i64 0, .int .i64 0]) 8 72 := ⟨Tryz.underlying40, by kernel_rfl, rfl, by decide⟩
theorem Reads.at8 {w : World} {B k n : Nat} {A : Option Addr} {l : List El} (h : Reads w B 8 A n (els l)) (hn : n = l.length) (hk : k < l.length) :
    ∃ b off, A = some ⟨b, off, none⟩ ∧ b < B ∧ w.cell? ⟨b, off + k * 8, none⟩ = some (.int .i64 l[k].1) ∧ w.cell? ⟨b, off + k * 8 + 1, none⟩ = some (.string l[k].2.1) ∧
      w.cell? ⟨b, off + k * 8 + 2, none⟩ = some (.int .u64 ((wK l[k].2.2.1 0 : Nat) : Int)) ∧ w.cell? ⟨b, off + k * 8 + 3, none⟩ = some (.int .u64 ((wK l[k].2.2.1 1 : Nat) : Int)) ∧ w.cell? ⟨b, off + k * 8 + 4, none⟩ = some (.int .u64 ((wK l[k].2.2.1 2 : Nat) : Int)) ∧ w.cell? ⟨b, off + k * 8 + 5, none⟩ = some (.int .u64 ((wK l[k].2.2.1 3 : Nat) : Int)) ∧
      w.cell? ⟨b, off + k * 8 + 6, none⟩ = some (.int .i64 l[k].2.2.2.1) ∧ w.cell? ⟨b, off + k * 8 + 7, none⟩ = some (.int .i64 l[k].2.2.2.2) := by
  obtain ⟨b, off, e, hb, key⟩ := Reads.fm (f := elC) (m := 8) (fun _ => rfl) h hn hk
  exact ⟨b, off, e, hb, key 0 _ (by decide) rfl, key 1 _ (by decide) rfl, key 2 _ (by decide) rfl, key 3 _ (by decide) rfl, key 4 _ (by decide) rfl, key 5 _ (by decide) rfl, key 6 _ (by decide) rfl, key 7 _ (by decide) rfl⟩
/-- a rule as it lies in memory: its id, the address and the capacity of its elements, these -/
abbrev Rm := Int × Option Addr × Nat × List El
def rm (r : Rm) : Ru := (r.1, r.2.2.2)
abbrev rmC (r : Rm) : List Value := [.int .i64 r.1, .slice r.2.1 r.2.2.2.length r.2.2.1]
def rms (L : List Rm) : List Value := L.flatMap rmC
theorem rms_len (l : List Rm) : (rms l).length = l.length * 2 := fm_len (f := rmC) (m := 2) (fun _ => rfl) l
theorem rms_app (l m : List Rm) : rms (l ++ m) = rms l ++ rms m := by unfold rms; simp
theorem rms_one (l : List Rm) : ∀ u ∈ rms l, u.oneCell' = true := fm_one (fun x u hu => by
  simp only [List.mem_cons, List.not_mem_nil, or_false] at hu
  rcases hu with rfl | rfl <;> rfl) l
theorem rmEl : Elem Tryz.prog 23 42 (.agg #[.int .i64 0, .slice none 0 0]) 2 32 := ⟨Tryz.underlying23, by kernel_rfl, rfl, by decide⟩
/-- the elements of a rule -/
structure IsRu (w : World) (r : Rm) : Prop where
  rd : Reads w w.heap.size 8 r.2.1 r.2.2.2.length (els r.2.2.2)
  cl : r.2.2.2.length ≤ r.2.2.1
  cm : r.2.2.1 ≤ 9223372036854775807
structure IsRus (w : World) (A : Option Addr) (L : List Rm) : Prop where
  rd : Reads w w.heap.size 2 A L.length (rms L)
  el : ∀ r ∈ L, IsRu w r
theorem IsRu.go {w w' : World} {r : Rm} (h : IsRu w r) (hb : Below w.heap.size w w') : IsRu w' r := ⟨h.rd.go hb, h.cl, h.cm⟩
theorem IsRus.go {w w' : World} {A : Option Addr} {L : List Rm} (h : IsRus w A L) (hb : Below w.heap.size w w') : IsRus w' A L := ⟨h.rd.go hb, fun r hr => (h.el r hr).go hb⟩
theorem IsRus.at {w : World} {k : Nat} {A : Option Addr} {L : List Rm} (h : IsRus w A L) (hk : k < L.length) :
    ∃ b off, A = some ⟨b, off, none⟩ ∧ b < w.heap.size ∧ w.cell? ⟨b, off + k * 2, none⟩ = some (.int .i64 L[k].1) ∧ w.cell? ⟨b, off + k * 2 + 1, none⟩ = some (.slice L[k].2.1 L[k].2.2.2.length L[k].2.2.1) ∧ IsRu w L[k] := by
  obtain ⟨b, off, e, hb, key⟩ := Reads.fm (f := rmC) (m := 2) (fun _ => rfl) h.rd rfl hk
  exact ⟨b, off, e, hb, key 0 _ (by decide) rfl, key 1 _ (by decide) rfl, h.el _ (List.getElem_mem hk)⟩
/-- lines of tokens: address, capacity, the tokens -/
abbrev Lt := Option Addr × Nat × List Tok
abbrev ltC (x : Lt) : List Value := [.slice x.1 x.2.2.length x.2.1]
def lts (L : List Lt) : List Value := L.flatMap ltC
theorem lts_app (l m : List Lt) : lts (l ++ m) = lts l ++ lts m := by unfold lts; simp
theorem lts_len (l : List Lt) : (lts l).length = l.length * 1 := fm_len (f := ltC) (m := 1) (fun _ => rfl) l
theorem lts_one (l : List Lt) : ∀ u ∈ lts l, u.oneCell' = true := fm_one (fun x u hu => by
  simp only [List.mem_cons, List.not_mem_nil, or_false] at hu
  rcases hu with rfl; rfl) l
theorem ltEl : Elem Tryz.prog 54 46 (.slice none 0 0) 1 24 := ⟨Tryz.underlying54, by kernel_rfl, rfl, by decide⟩
structure IsLt (w : World) (x : Lt) : Prop where
  rd : Reads w w.heap.size 9 x.1 x.2.2.length (tks (x.2.2.map t9))
  cl : x.2.2.length ≤ x.2.1
  cm : x.2.1 ≤ 9223372036854775807
theorem IsLt.go {w w' : World} {r : Lt} (h : IsLt w r) (hb : Below w.heap.size w w') : IsLt w' r := ⟨h.rd.go hb, h.cl, h.cm⟩
structure IsLts (w : World) (A : Option Addr) (L : List Lt) : Prop where
  rd : Reads w w.heap.size 1 A L.length (lts L)
  el : ∀ r ∈ L, IsLt w r
theorem IsLts.go {w w' : World} {A : Option Addr} {L : List Lt} (h : IsLts w A L) (hb : Below w.heap.size w w') : IsLts w' A L := ⟨h.rd.go hb, fun r hr => (h.el r hr).go hb⟩
theorem IsLts.at {w : World} {k : Nat} {A : Option Addr} {L : List Lt} (h : IsLts w A L) (hk : k < L.length) :
    ∃ b off, A = some ⟨b, off, none⟩ ∧ b < w.heap.size ∧ w.cell? ⟨b, off + k, none⟩ = some (.slice L[k].1 L[k].2.2.length L[k].2.1) ∧ IsLt w L[k] := by
  obtain ⟨b, off, e, hb, key⟩ := Reads.fm (f := ltC) (m := 1) (fun _ => rfl) h.rd rfl hk
  refine ⟨b, off, e, hb, ?_, h.el _ (List.getElem_mem hk)⟩
  have := key 0 _ (by decide) rfl
  rwa [Nat.mul_one, Nat.add_zero] at this
theorem own_base {w : World} {base base' size n : Nat} {e : TypeId} {v : Value} {xs : List Value} (h : w.ownsRow base e size v n xs) (hb : base' ≤ base) : w.ownsRow base' e size v n xs := by
  refine ⟨h.1, ?_⟩
  rcases h.2 with hn | ⟨g, cap, cur, rfl, hbg, hgg, rest⟩
  · exact .inl hn
  · exact .inr ⟨g, cap, cur, rfl, Nat.le_trans hb hbg, hgg, rest⟩
theorem own_grown {w w' : World} {base size n : Nat} {e : TypeId} {v : Value} {xs : List Value} {row : Option Nat} (h : w.ownsRow base e size v n xs) (hg : w.grownBy w' row) (hne : v.ownBlock = none ∨ v.ownBlock ≠ row) : w'.ownsRow base e size v n xs := by
  refine ⟨h.1, ?_⟩
  rcases h.2 with hn | ⟨g, cap, cur, rfl, hbg, hgg, rest⟩
  · exact .inl hn
  · refine .inr ⟨g, cap, cur, rfl, hbg, grown_blk hg hgg (fun e => ?_), rest⟩
    rcases hne with h1 | h1
    · cases h1
    · exact h1 e.symm
end Go.Proofs.YtcopnpllaoahaaaGreatDoor
