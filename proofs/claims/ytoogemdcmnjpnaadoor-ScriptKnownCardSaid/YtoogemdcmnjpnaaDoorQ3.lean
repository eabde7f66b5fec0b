/- Parse of Print, Print of Parse: plain laws. -/
import Derived.Test.YtoogemdcmnjpnaaDoorS24
namespace Go.Proofs.YtoogemdcmnjpnaaDoor
open Go.RowKit
/-- a line without its last byte -/
def lineL0 (x : Sc) : List UInt8 := wordL x.1 ++ (if x.1 = 1 then 32 :: quoteB x.2.data.toList else [])
theorem lineL_eq (x : Sc) : lineL x = lineL0 x ++ [10] := by simp [lineL, lineL0]
theorem escB_ten (c : UInt8) : (10 : UInt8) ∉ escB c := by
  refine u8_all (P := fun c => (10 : UInt8) ∉ escB c) ?_ c
  decide +kernel
theorem quoteB_ten (b : List UInt8) : (10 : UInt8) ∉ quoteB b := by
  unfold quoteB
  simp only [List.mem_cons, List.mem_append, List.mem_flatMap, List.mem_nil_iff, or_false, not_or, not_exists, not_and]
  exact ⟨by decide, fun c _ => escB_ten c, by decide⟩
theorem wordL_ten (K : Int) : (10 : UInt8) ∉ wordL K := by
  unfold wordL
  split
  · decide
  · split
    · decide
    · split
      · decide
      · decide
theorem lineL0_ten (x : Sc) : (10 : UInt8) ∉ lineL0 x := by
  unfold lineL0
  rw [List.mem_append, not_or]
  refine ⟨wordL_ten _, ?_⟩
  split
  · rw [List.mem_cons, not_or]; exact ⟨by decide, quoteB_ten _⟩
  · simp
/-- the lines of a printed script -/
theorem lns_print : ∀ l : List Sc, lns [] (printL l) = l.map lineL0
  | [] => rfl
  | x :: r => by
    have e : printL (x :: r) = lineL0 x ++ 10 :: printL r := by
      show (x :: r).flatMap lineL = _
      rw [List.flatMap_cons, lineL_eq, List.append_assoc]
      rfl
    rw [e, lns_app _ _ _ (lineL0_ten x), lns_print r]
    simp
theorem flat_lns : ∀ (l cur : List UInt8), (10 : UInt8) ∉ cur → ((cur ++ l).getLast? = some 10 ∨ cur ++ l = []) → (lns cur l).flatMap (· ++ [10]) = cur ++ l
  | [], cur, hc, h => by
    rcases h with h | h
    · rw [List.append_nil] at h
      exact absurd (List.mem_of_getLast? h) hc
    · rw [h]; rfl
  | c :: t, cur, hc, h => by
    by_cases h10 : c = 10
    · subst h10
      rw [lns_hit, List.flatMap_cons, flat_lns t [] (by simp) ?_]
      · simp
      · rcases h with h | h
        · rcases List.eq_nil_or_concat t with ht | ⟨i, y, ht⟩
          · exact .inr (by simp [ht])
          · left
            rw [ht] at h ⊢
            have e : cur ++ 10 :: (i ++ [y]) = (cur ++ 10 :: i) ++ [y] := by simp
            simp only [List.concat_eq_append] at h ⊢
            rw [e, List.getLast?_concat] at h
            rw [List.nil_append, List.getLast?_concat]
            exact h
        · simp at h
    · rw [lns_other h10, flat_lns t _ ?_ ?_]
      · simp
      · rw [List.mem_append, not_or]; exact ⟨hc, by simpa using fun e => h10 e.symm⟩
      · rw [List.append_assoc]; exact h
/-- a call that may stand: what its line is read as -/
theorem lineR_print {x : Sc} (h : scErr x = 0) : lineR (mkB (lineL0 x)) = (x, 0) := by
  obtain ⟨K, s⟩ := x
  unfold scErr at h
  simp only at h
  have h1 : ¬ (K < 1 ∨ 4 < K) := fun e => by rw [if_pos e] at h; exact absurd h (by decide)
  rw [if_neg h1] at h
  have h2 : ¬ 1100 < s.size := fun e => by rw [if_pos e] at h; exact absurd h (by decide)
  rw [if_neg h2] at h
  have h3 : ¬ (K ≠ 1 ∧ s.size ≠ 0) := fun e => by rw [if_pos e] at h; exact absurd h (by decide)
  clear h
  by_cases hK : K = 1
  · subst hK
    have e0 : lineL0 (1, s) = [102, 101, 101, 100, 32] ++ quoteB s.data.toList := rfl
    have hd : (mkB (lineL0 (1, s))).data.toList = [102, 101, 101, 100, 32] ++ quoteB s.data.toList := by rw [mkB_data, e0]
    have hW : feedW (mkB (lineL0 (1, s))) = true := by
      unfold feedW; rw [hd]; rfl
    rw [lineR_feedW hW]
    unfold feedR
    have hP : feedP (mkB (lineL0 (1, s))).data.toList = true := by rw [hd]; rfl
    rw [if_pos hP, hd]
    have hdr : ([102, 101, 101, 100, 32] ++ quoteB s.data.toList).drop 5 = quoteB s.data.toList := rfl
    rw [hdr]
    have hq := unquoteL_quote s.data.toList
    have hok : uqOk (quoteB s.data.toList) = true := by
      unfold uqOk
      rw [hq]
      simp [quoteB]
    obtain ⟨u1, u2⟩ := uq_yes hok
    rw [hq] at u1
    have u1' : uqS (quoteB s.data.toList) = s := by
      rw [u1]
    rw [u2, if_neg (by decide), u1', if_neg h2]
  · have hs : s.size = 0 := by
      rcases Nat.eq_zero_or_pos s.size with e | e
      · exact e
      · exact absurd ⟨hK, by omega⟩ h3
    have hse : s = emp := by
      rw [← mkB_eta s]
      have hl : s.data.toList = [] := List.length_eq_zero_iff.1 (by rw [show s.data.toList.length = s.size by simp, hs])
      rw [hl]; rfl
    subst hse
    rcases (show K = 2 ∨ K = 3 ∨ K = 4 by omega) with rfl | rfl | rfl
    all_goals decide +kernel
theorem plainR_ok {s : ByteArray} (h : (plainR s).2 = 0) : scErr ((plainR s).1, emp) = 0 ∧ s.data.toList = lineL0 ((plainR s).1, emp) := by
  unfold plainR at h ⊢
  split
  · rename_i e; subst e; exact ⟨by decide, rfl⟩
  · split
    · rename_i e; subst e; exact ⟨by decide, rfl⟩
    · split
      · rename_i e; subst e; exact ⟨by decide, rfl⟩
      · rename_i h1 h2 h3
        rw [if_neg h1, if_neg h2, if_neg h3] at h
        exact absurd h (by decide)
theorem feedR_ok {s : ByteArray} {x : Sc} (h : feedR s = (x, 0)) : scErr x = 0 ∧ s.data.toList = lineL0 x := by
  unfold feedR at h
  by_cases hp : feedP s.data.toList = true
  · rw [if_pos hp] at h
    by_cases he : uqE (s.data.toList.drop 5) = 0
    · rw [if_neg (by simp [he])] at h
      by_cases hl : 1100 < (uqS (s.data.toList.drop 5)).size
      · rw [if_pos hl] at h; exact absurd (Prod.mk.inj h).2 (by decide)
      · rw [if_neg hl] at h
        obtain rfl := congrArg Prod.fst h
        have hok : uqOk (s.data.toList.drop 5) = true := by
          rcases hb : uqOk (s.data.toList.drop 5) with _ | _
          · have := (uq_no hb).2; rw [he] at this; exact absurd this (by decide)
          · rfl
        have hS := (uq_yes hok).1
        unfold uqOk at hok
        simp only [Bool.and_eq_true, decide_eq_true_eq] at hok
        have hform := unquoteL_form (l := s.data.toList.drop 5) (b := (unquoteL (s.data.toList.drop 5)).1) (Prod.ext rfl hok.2) (by
          intro e; rw [e] at hok; exact hok.1 (by decide))
        constructor
        · unfold scErr
          simp only
          rw [if_neg (by decide), if_neg hl, if_neg (by simp)]
        · have hpre := List.isPrefixOf_iff_prefix.1 (show List.isPrefixOf [102, 101, 101, 100, 32] s.data.toList = true from hp)
          obtain ⟨r, hr⟩ := hpre
          have hdr : s.data.toList.drop 5 = r := by rw [← hr]; rfl
          have e0 : lineL0 (1, uqS (s.data.toList.drop 5)) = [102, 101, 101, 100, 32] ++ quoteB (uqS (s.data.toList.drop 5)).data.toList := rfl
          rw [e0, hS]
          rw [show (⟨(unquoteL (s.data.toList.drop 5)).1.toArray⟩ : ByteArray).data.toList = (unquoteL (s.data.toList.drop 5)).1 by simp]
          rw [← hform, hdr]
          exact hr.symm
    · rw [if_pos he] at h; exact absurd (Prod.mk.inj h).2 (by decide)
  · rw [if_neg hp] at h; exact absurd (Prod.mk.inj h).2 (by decide)
theorem lineR_ok {s : ByteArray} {x : Sc} (h : lineR s = (x, 0)) : scErr x = 0 ∧ s.data.toList = lineL0 x := by
  unfold lineR at h
  by_cases hp : (plainR s).2 = 0
  · rw [if_pos hp] at h
    obtain rfl := congrArg Prod.fst h
    exact plainR_ok hp
  · rw [if_neg hp] at h
    exact feedR_ok h
theorem pgo_map : ∀ (l acc : List Sc) (i : Nat), (∀ x ∈ l, scErr x = 0) → pgo i acc (l.map fun x => mkB (lineL0 x)) = (acc ++ l, 0, 0)
  | [], acc, i, _ => by simp [pgo]
  | x :: r, acc, i, h => by
    rw [List.map_cons, pgo, lineR_print (h x (by simp)), if_pos rfl, pgo_map r _ _ (fun y hy => h y (by simp [hy]))]
    simp
/-- Parse of what Print writes -/
theorem parse_print {l : List Sc} (h : (chk l).2 = 0) : parse (print l) = (l, 0, 0) := by
  obtain ⟨h1, h2⟩ := (chk_iff l).1 h
  have hd : (print l).data.toList = printL l := by rw [print_pos h]
  have hL : lnsB (print l) = l.map fun x => mkB (lineL0 x) := by
    unfold lnsB
    rw [hd, lns_print, List.map_map]
    rfl
  unfold parse
  rw [hL, List.length_map, if_neg (by omega : ¬ 200 < l.length), pgo_map l [] 0 h2]
  rw [if_neg]
  · simp
  · rintro ⟨e1, e2⟩
    apply e2
    rw [hd]
    have hne : l ≠ [] := by
      rintro rfl
      apply e1
      rw [print_pos h]
      rfl
    obtain ⟨r, x, rfl⟩ : ∃ r x, l = r ++ [x] := ⟨l.dropLast, l.getLast hne, (List.dropLast_concat_getLast hne).symm⟩
    rw [printL_snoc, lineL_eq]
    simp
theorem pgo_ok : ∀ (L : List ByteArray) (i : Nat) (acc m : List Sc) (a : Int), pgo i acc L = (m, a, 0) → ∃ r, m = acc ++ r ∧ (∀ x ∈ r, scErr x = 0) ∧ L.map (·.data.toList) = r.map lineL0
  | [], i, acc, m, a, h => by
    simp only [pgo, Prod.mk.injEq] at h
    exact ⟨[], by simp [h.1], by simp, rfl⟩
  | t :: L, i, acc, m, a, h => by
    rw [pgo] at h
    rcases hx : lineR t with ⟨x, e⟩
    rw [hx] at h
    simp only at h
    by_cases he : e = 0
    · subst he
      rw [if_pos rfl] at h
      obtain ⟨r, h1, h2, h3⟩ := pgo_ok L _ _ _ _ h
      obtain ⟨g1, g2⟩ := lineR_ok hx
      refine ⟨x :: r, by rw [h1]; simp, ?_, by rw [List.map_cons, List.map_cons, g2, h3]⟩
      intro y hy
      rcases List.mem_cons.1 hy with rfl | hy
      · exact g1
      · exact h2 y hy
    · rw [if_neg he] at h
      exact absurd (Prod.mk.inj (Prod.mk.inj h).2).2 he
/-- what Parse accepts: its script may stand, and is written as the text -/
theorem parse_ok {s : ByteArray} {m : List Sc} {a : Int} (h : parse s = (m, a, 0)) : chk m = (0, 0) ∧ print m = s := by
  unfold parse at h
  by_cases h1 : s.size ≠ 0 ∧ s.data.toList.getLast? ≠ some 10
  · rw [if_pos h1] at h; exact absurd (Prod.mk.inj (Prod.mk.inj h).2).2 (by decide)
  rw [if_neg h1] at h
  by_cases h2 : 200 < (lnsB s).length
  · rw [if_pos h2] at h; exact absurd (Prod.mk.inj (Prod.mk.inj h).2).2 (by decide)
  rw [if_neg h2] at h
  obtain ⟨r, hr, hok, hL⟩ := pgo_ok _ _ _ _ _ h
  rw [List.nil_append] at hr
  subst hr
  have hlen : m.length = (lnsB s).length := by
    have := congrArg List.length hL
    simpa using this.symm
  have hc : (chk m).2 = 0 := (chk_iff m).2 ⟨by omega, hok⟩
  have hL2 : lns [] s.data.toList = m.map lineL0 := by
    unfold lnsB at hL
    rw [List.map_map] at hL
    rw [← hL]
    conv => lhs; rw [← List.map_id (lns [] s.data.toList)]
    apply List.map_congr_left
    intro x _
    exact (mkB_data x).symm
  have hfl := flat_lns s.data.toList [] (by simp) (by
    rw [List.nil_append]
    by_cases h0 : s.size = 0
    · right; exact List.length_eq_zero_iff.1 (by rw [show s.data.toList.length = s.size by simp, h0])
    · left
      by_cases hg : s.data.toList.getLast? = some 10
      · exact hg
      · exact absurd ⟨h0, hg⟩ h1)
  rw [hL2, List.nil_append] at hfl
  have hp : printL m = s.data.toList := by
    rw [← hfl]
    unfold printL
    rw [List.flatMap_map]
    congr 1
    funext x
    exact lineL_eq x
  constructor
  · unfold chk
    rw [if_neg (by omega)]
    have : ∀ (l : List Sc) (i : Nat), (∀ x ∈ l, scErr x = 0) → chkFrom i l = (0, 0) := by
      intro l
      induction l with
      | nil => intro i _; rfl
      | cons x r ih => intro i hx; rw [chkFrom, if_pos (hx x (by simp)), ih _ (fun y hy => hx y (by simp [hy]))]
    exact this m 0 hok
  · rw [print_pos hc, hp]
end Go.Proofs.YtoogemdcmnjpnaaDoor
