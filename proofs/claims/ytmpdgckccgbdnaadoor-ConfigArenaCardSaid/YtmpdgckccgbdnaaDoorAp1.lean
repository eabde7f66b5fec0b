/- Plain laws of the layout: each name and each address belongs to one region. -/
import Derived.Test.YtmpdgckccgbdnaaDoorC11
namespace Go.Proofs.YtmpdgckccgbdnaaDoor
open Go.RowKit
theorem Apart.find {l : List Rg} (ha : Apart l) {x : Rg} (hx : x ∈ l) : findR l x.1 = some x := by
  induction l with
  | nil => cases hx
  | cons y r ih =>
    obtain ⟨h1, h2⟩ := List.pairwise_cons.1 ha
    rcases List.mem_cons.1 hx with rfl | hx
    · unfold findR; rw [List.find?_cons_of_pos (by simp)]
    · unfold findR; rw [List.find?_cons_of_neg (by simpa using h1 x hx)]; exact ih h2 hx
theorem Cont.hit {l : List Rg} {a at_ : Int} (h : Cont a l) {x : Rg} (hx : x ∈ l) (h1 : x.2.1 ≤ at_) (h2 : at_ < x.2.1 + x.2.2) : l.find? (holdsAt at_) = some x := by
  induction l generalizing a with
  | nil => cases hx
  | cons y r ih =>
    obtain ⟨e1, e2, e3⟩ := h
    rcases List.mem_cons.1 hx with rfl | hx
    · rw [List.find?_cons_of_pos (by simp [holdsAt]; omega)]
    · have := e3.ge x hx
      rw [List.find?_cons_of_neg (by simp [holdsAt]; omega)]
      exact ih e3 hx
theorem Cont.some_ {l : List Rg} {a at_ : Int} (h : Cont a l) (h1 : a ≤ at_) (h2 : at_ < a + sumS l) : ∃ x ∈ l, x.2.1 ≤ at_ ∧ at_ < x.2.1 + x.2.2 := by
  induction l generalizing a with
  | nil => simp [sumS] at h2; omega
  | cons y r ih =>
    obtain ⟨e1, e2, e3⟩ := h
    rw [sumS] at h2
    by_cases hy : at_ < y.2.1 + y.2.2
    · exact ⟨y, List.mem_cons_self, by omega, hy⟩
    · obtain ⟨x, hx, q1, q2⟩ := ih e3 (by omega) (by omega)
      exact ⟨x, List.mem_cons_of_mem _ hx, q1, q2⟩
theorem Cont.over {l : List Rg} {a at_ : Int} (h : Cont a l) (h2 : a + sumS l ≤ at_) : l.find? (holdsAt at_) = Option.none := by
  induction l generalizing a with
  | nil => rfl
  | cons y r ih =>
    obtain ⟨e1, e2, e3⟩ := h
    rw [sumS] at h2
    have hs : 0 ≤ sumS r := by
      clear ih h2 e1 e2
      generalize a + y.2.2 = b at e3
      induction r generalizing b with
      | nil => simp [sumS]
      | cons z t ih2 =>
        obtain ⟨_, f2, f3⟩ := e3
        have := ih2 _ f3
        rw [sumS]; omega
    rw [List.find?_cons_of_neg (by simp [holdsAt]; omega)]
    exact ih e3 (by omega)
theorem Cont.base {l : List Rg} {a : Int} {j : Nat} {x : Rg} (h : Cont a l) (hd : Hid (l.drop j = x :: l.drop (j + 1))) : x.2.1 = a + sumS (l.take j) := by
  have e := hd.out
  clear hd
  induction l generalizing a j with
  | nil => simp at e
  | cons y r ih =>
    obtain ⟨e1, e2, e3⟩ := h
    cases j with
    | zero => simp at e; subst e; simp [sumS]; omega
    | succ j =>
      rw [List.drop_succ_cons, List.drop_succ_cons] at e
      have := ih e3 e
      rw [List.take_succ_cons, sumS]; omega
theorem apart_ne {l : List Rg} (ha : Apart l) {m j : Nat} {x y : Rg} (hmj : m < j) (hm : Hid (l.drop m = x :: l.drop (m + 1))) (hj : Hid (l.drop j = y :: l.drop (j + 1))) : x.1 ≠ y.1 := by
  have h1 : l[m]? = some x := by have := congrArg (fun q => q[0]?) hm.out; simpa using this
  have h2 : l[j]? = some y := by have := congrArg (fun q => q[0]?) hj.out; simpa using this
  obtain ⟨p1, e1⟩ := List.getElem?_eq_some_iff.1 h1
  obtain ⟨p2, e2⟩ := List.getElem?_eq_some_iff.1 h2
  have := List.pairwise_iff_getElem.1 ha m j p1 p2 hmj
  rwa [e1, e2] at this
structure ApL (b k l s r : Int) (L : List Rg) (p : Int) : Prop where
  ok : Ok2 b k l s r
  lay : layL b k l s r = L
  len : L.length = 9
  apart : Apart L
  cont : Cont 0 L
  sum : sumS L = p
  need : needI b k l s r = p
  le : p ≤ 3000
  bd : RgB L
theorem apL (b k l s r : Int) (h : Ok2 b k l s r) : ∃ L p, ApL b k l s r L p := by
  have hbd := layL_bd b k l s r
  refine ⟨layL b k l s r, needI b k l s r, h, rfl, by rw [layL_yes h]; rfl, by rw [layL_yes h]; exact lay_apart _ _ _, ?_, rfl, rfl, ?_, hbd⟩
  · rw [layL_yes h]
    obtain ⟨⟨hb, hk1, _⟩, hs1, hs2, hr1, hr2⟩ := h
    refine lay_cont _ _ _ hs1 hr1 ?_ ?_
    · rcases (show s = 1 ∨ s = 2 ∨ s = 3 ∨ s = 4 by omega) with rfl | rfl | rfl | rfl <;> omega
    · rcases hb with rfl | rfl | rfl | rfl | rfl <;> omega
  · unfold needI
    rw [layL_yes h, sum_lay]
    obtain ⟨⟨hb, hk1, hk2, _, _⟩, hs1, hs2, hr1, hr2⟩ := h
    have hbr : 0 ≤ b * r ∧ b * r ≤ 256 := by rcases hb with rfl | rfl | rfl | rfl | rfl <;> omega
    have hrs : 1 ≤ r * s ∧ r * s ≤ 64 := by rcases (show s = 1 ∨ s = 2 ∨ s = 3 ∨ s = 4 by omega) with rfl | rfl | rfl | rfl <;> omega
    omega
section
variable {b k l s r : Int} {L : List Rg} {p : Int}
theorem ApL.cell (h : ApL b k l s r L p) {x : Rg} (hx : x ∈ L) {i : Int} (h1 : 0 ≤ i) (h2 : i < x.2.2) : celI b k l s r x.1 i = x.2.1 + i ∧ celE b k l s r x.1 i = 0 := by
  have hf := h.apart.find hx
  have hX : fndX b k l s r x.1 = x := by unfold fndX; rw [h.lay, hf]; rfl
  have hE : fndE b k l s r x.1 = 0 := by unfold fndE; rw [err2_yes h.ok, h.lay, hf]; rfl
  have hC : celE b k l s r x.1 i = 0 := by unfold celE; rw [hE, hX, if_pos rfl, if_neg (by omega)]
  exact ⟨by unfold celI; rw [hC, hX, if_pos rfl], hC⟩
theorem ApL.place (h : ApL b k l s r L p) {x : Rg} (hx : x ∈ L) {at_ : Int} (h1 : x.2.1 ≤ at_) (h2 : at_ < x.2.1 + x.2.2) : whrV b k l s r at_ = .tuple #[.string x.1, .int .i64 (at_ - x.2.1), .int .i64 0] := by
  have hf := h.cont.hit hx h1 h2
  have : whrR b k l s r at_ = some x := by unfold whrR; rw [h.lay]; exact hf
  simp [whrN, whrI, whrE, this]
theorem ApL.out (h : ApL b k l s r L p) {at_ : Int} (h1 : at_ < 0 ∨ p ≤ at_) : whrV b k l s r at_ = .tuple #[.string ⟨#[]⟩, .int .i64 0, .int .i64 7] := by
  have hf : L.find? (holdsAt at_) = Option.none := by
    rcases h1 with h1 | h1
    · exact h.cont.none h1
    · exact h.cont.over (by rw [h.sum]; omega)
  have : whrR b k l s r at_ = Option.none := by unfold whrR; rw [h.lay]; exact hf
  simp [whrN, whrI, whrE, this]
end
end Go.Proofs.YtmpdgckccgbdnaaDoor
