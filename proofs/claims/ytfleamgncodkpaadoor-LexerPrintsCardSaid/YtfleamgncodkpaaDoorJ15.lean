/- Lexer: Line of Print has the tokens: plain laws. No condition. -/
import Derived.Test.YtfleamgncodkpaaDoorJ12
import Derived.Test.YtfleamgncodkpaaDoorJ8
namespace Go.Proofs.YtfleamgncodkpaaDoor
open Go.RowKit
theorem mbK_congr {f g : Nat → Bool} (h : ∀ i, i < 256 → f i = g i) : mbK f = mbK g :=
  List.filter_congr fun i hi => h i (List.mem_range.1 hi)
theorem prK_congr {f g : Nat → Bool} (h : ∀ i, i < 256 → f i = g i) : prK f = prK g := by
  unfold prK
  rw [mbK_congr h, mbK_congr (f := fun i => !f i) (g := fun i => !g i) fun i hi => by rw [h i hi]]
theorem sQ_congr {f g : Nat → Bool} (h : sQ f g = true) (u : Nat → Bool) : sQ f u = sQ g u := by
  have hi := (sQ_iff f g).1 h
  rw [Bool.eq_iff_iff, sQ_iff, sQ_iff]
  exact ⟨fun e i hk => by rw [← hi i hk]; exact e i hk, fun e i hk => by rw [hi i hk]; exact e i hk⟩
theorem sQ_symm {f g : Nat → Bool} (h : sQ f g = true) : sQ g f = true := (sQ_iff g f).2 fun i hi => ((sQ_iff f g).1 h i hi).symm
theorem sQ_refl (f : Nat → Bool) : sQ f f = true := (sQ_iff f f).2 fun _ _ => rfl
theorem smF_iff {t u : T9} : smQ false t u = true ↔ t.1 = u.1 ∧ t.2.2.2.1 = u.2.2.2.1 ∧ t.2.2.2.2.1 = u.2.2.2.2.1 ∧ sQ t.2.2.2.2.2 u.2.2.2.2.2 = true := by
  unfold smQ
  rw [if_neg (by decide), t9Q_iff]
  exact ⟨fun ⟨a, _, _, b, c, d⟩ => ⟨a, b, c, d⟩, fun ⟨a, b, c, d⟩ => ⟨a, rfl, rfl, b, c, d⟩⟩
theorem sm_tx {t u : T9} (h : smQ false t u = true) : ck9 t = ck9 u ∧ tx t = tx u := by
  obtain ⟨h1, h2, h3, h4⟩ := smF_iff.1 h
  constructor
  · show ckT _ _ _ _ = ckT _ _ _ _
    unfold ckT
    rw [h1, h2, h3, sQ_congr h4]
  · show tx9 _ _ _ _ = tx9 _ _ _ _
    unfold tx9
    rw [h1, h2, h3, sQ_congr h4, prK_congr ((sQ_iff _ _).1 h4)]
theorem sameL_mem {p : Bool} : ∀ {l m : List T9}, sameL p l m = true → l.length = m.length ∧ ∀ k (h1 : k < l.length) (h2 : k < m.length), smQ p l[k] m[k] = true
  | [], [], _ => ⟨rfl, fun k h1 => by simp at h1⟩
  | [], _ :: _, h => by cases h
  | _ :: _, [], h => by cases h
  | t :: l, u :: m, h => by
    rw [sameL, Bool.and_eq_true] at h
    obtain ⟨a, b⟩ := sameL_mem h.2
    refine ⟨by simp [a], fun k h1 h2 => ?_⟩
    cases k with
    | zero => exact h.1
    | succ k => exact b k (by simpa using h1) (by simpa using h2)
theorem sameL_err : ∀ {l m : List T9}, sameL false l m = true → (∀ i, errL l i = errL m i) ∧ l.map tx = m.map tx
  | [], [], _ => ⟨fun _ => rfl, rfl⟩
  | [], _ :: _, h => by cases h
  | _ :: _, [], h => by cases h
  | t :: l, u :: m, h => by
    rw [sameL, Bool.and_eq_true] at h
    obtain ⟨a, b⟩ := sameL_err h.2
    obtain ⟨c, d⟩ := sm_tx h.1
    refine ⟨fun i => ?_, by rw [List.map_cons, List.map_cons, b, d]⟩
    rw [errL, errL, a, c]
theorem sameL_prn {l m : List T9} (h : sameL false l m = true) : prnL l = prnL m := by
  obtain ⟨a, b⟩ := sameL_err h
  have hj : joinT l = joinT m := by
    unfold joinT
    have e : ∀ l : List T9, (l.map fun t => (tx t).data.toList) = (l.map tx).map fun s => s.data.toList := fun l => by rw [List.map_map]; rfl
    rw [e, e, b]
  unfold prnL
  rw [a, hj, (sameL_mem h).1]
theorem ck_zero {K N : Int} {S : ByteArray} {f : Nat → Bool} (h : ckT K N S f = 0) : (1 ≤ K ∧ K ≤ 6) ∧ (K ≠ 3 → N = 0) ∧ (K ≠ 4 → K ≠ 5 → S = ⟨#[]⟩) ∧ (K ≠ 6 → sQ f (fun _ => false) = true) ∧ 0 ≤ N ∧ N ≤ 999999999 := by
  obtain ⟨hK, hN, _⟩ := ck_kind h
  unfold ckT at h
  by_cases h1 : K < 1 ∨ 6 < K ∨ (K ≠ 3 ∧ N ≠ 0) ∨ (K ≠ 4 ∧ K ≠ 5 ∧ S ≠ ⟨#[]⟩) ∨ (K ≠ 6 ∧ sQ f (fun _ => false) = false)
  · rw [if_pos h1] at h; cases h
  refine ⟨hK, fun a => ?_, fun a b => ?_, fun a => ?_, hN⟩
  · exact Classical.byContradiction fun c => h1 (.inr (.inr (.inl ⟨a, c⟩)))
  · exact Classical.byContradiction fun c => h1 (.inr (.inr (.inr (.inl ⟨a, b, c⟩))))
  · rcases hh : sQ f (fun _ => false) with _ | _
    · exact absurd (.inr (.inr (.inr (.inr ⟨a, hh⟩)))) h1
    · rfl
/-- what the text of a token is taken as -/
def BkT (t : T9) (b : Bd) : Prop := (tx t).data.toList ≠ [] ∧ (tx t).data.toList.head? ≠ some 32 ∧ (∀ r : List UInt8, (r.head? = none ∨ r.head? = some 32) → tkK uqK ((tx t).data.toList ++ r) = .inl (b, (tx t).data.toList.length)) ∧
  ((b.1 : Nat) : Int) = t.1 ∧ ((b.2.1 : Nat) : Int) = t.2.2.2.1 ∧ (⟨b.2.2.1.toArray⟩ : ByteArray) = t.2.2.2.2.1 ∧ sQ b.2.2.2 t.2.2.2.2.2 = true
theorem tk_tx {t : T9} (h : ck9 t = 0) : ∃ b : Bd, BkT t b := by
  obtain ⟨K, F, T, N, S, f⟩ := t
  obtain ⟨hK, hN, hS, hf, hN0, hN9⟩ := ck_zero h
  simp only at hK hN hS hf hN0 hN9
  unfold BkT tx
  simp only
  rcases (show K = 1 ∨ K = 2 ∨ K = 3 ∨ K = 4 ∨ K = 5 ∨ K = 6 by omega) with rfl | rfl | rfl | rfl | rfl | rfl
  · have e : tx9 1 N S f = ⟨#[114, 117, 108, 101]⟩ := rfl
    rw [e]
    exact ⟨(1, 0, [], noK), by decide, by decide, fun r hr => tk_rule uqK hr, rfl, (hN (by decide)).symm, (hS (by decide) (by decide)).symm, sQ_symm (hf (by decide))⟩
  · have e : tx9 2 N S f = ⟨#[103, 97, 112]⟩ := rfl
    rw [e]
    exact ⟨(2, 0, [], noK), by decide, by decide, fun r hr => tk_gap uqK hr, rfl, (hN (by decide)).symm, (hS (by decide) (by decide)).symm, sQ_symm (hf (by decide))⟩
  · obtain ⟨n, rfl⟩ : ∃ n : Nat, N = (n : Int) := ⟨N.toNat, by omega⟩
    have e : (tx9 3 (n : Int) S f).data.toList = Lib.decDigits n := by
      show (Lib.itoa (n : Int)).toArray.toList = _
      rw [Lib.itoa_nonneg]
    rw [e]
    obtain ⟨h1, h2, _, _⟩ := txOk.num n (by omega)
    refine ⟨(3, n, [], noK), h1, ?_, fun r hr => tk_num txOk (by omega) hr, rfl, rfl, (hS (by decide) (by decide)).symm, sQ_symm (hf (by decide))⟩
    intro hh
    rcases hd : Lib.decDigits n with _ | ⟨c, u⟩
    · exact h1 hd
    · rw [hd] at hh h2
      have hc := h2 c List.mem_cons_self
      have : c = 32 := by simpa using hh
      subst this
      revert hc; decide
  · have e : (tx9 4 N S f).data.toList = 34 :: qbK S.data.toList := by
      show ((quoteB S.data.toList).toArray).toList = _
      rw [qb_quote]
    rw [e]
    exact ⟨(4, 0, S.data.toList, noK), by simp, by simp, fun r _ => tk_lit txOk _ r, rfl, (hN (by decide)).symm, by simp, sQ_symm (hf (by decide))⟩
  · have e : (tx9 5 N S f).data.toList = 105 :: 34 :: qbK S.data.toList := by
      show ((⟨#[105]⟩ : ByteArray) ++ ⟨(quoteB S.data.toList).toArray⟩).data.toList = _
      rw [ByteArray.data_append, Array.toList_append, qb_quote]
      rfl
    rw [e]
    exact ⟨(5, 0, S.data.toList, noK), by simp, by simp, fun r _ => tk_fold txOk _ r, rfl, (hN (by decide)).symm, by simp, sQ_symm (hf (by decide))⟩
  · by_cases ha : sQ f (fun _ => true) = true
    · have e : tx9 6 N S f = ⟨#[46]⟩ := by
        unfold tx9
        rw [if_neg (by decide), if_neg (by decide), if_neg (by decide), if_neg (by decide), if_neg (by decide), if_pos ha]
      rw [e]
      refine ⟨(6, 0, [], allK), by decide, by decide, fun r _ => tk_all uqK r, rfl, (hN (by decide)).symm, (hS (by decide) (by decide)).symm, ?_⟩
      refine (sQ_iff _ _).2 fun i hi => ?_
      have := (sQ_iff _ _).1 ha i hi
      show decide (i < 256) = f i
      rw [this, decide_eq_true hi]
    · have e : (tx9 6 N S f).data.toList = prK f := by
        unfold tx9
        rw [if_neg (by decide), if_neg (by decide), if_neg (by decide), if_neg (by decide), if_neg (by decide), if_neg ha]
      rw [e]
      obtain ⟨u, hu⟩ := prK_head f
      obtain ⟨g, h1, h2⟩ := tk_set uqK f []
      rw [List.append_nil] at h1
      have hd : ((prK f).drop (prK f).length).head? = none ∨ ((prK f).drop (prK f).length).head? = some 32 := .inl (by rw [List.drop_length]; rfl)
      refine ⟨(6, 0, [], g), by rw [hu]; simp, by rw [hu]; simp, fun r hr => ?_, rfl, (hN (by decide)).symm, (hS (by decide) (by decide)).symm, (sQ_iff _ _).2 h2⟩
      have h5 := ((tkK_ok uqK).again (t := prK f) (by rw [hu]; simp) h1 hd r hr).1
      rwa [List.take_length] at h5
theorem join_K : ∀ (l : List (List UInt8)), Lib.join l [32] = joinK l
  | [] => rfl
  | [x] => by simp [Lib.join, joinK]
  | x :: y :: t => by
    have ih := join_K (y :: t)
    rw [joinK, ← ih]
    simp [Lib.join]
theorem back_law {l : List T9} (h : errL l 0 = none) (h80 : l.length ≤ 80) (h1000 : (joinT l).size ≤ 1000) :
    ∃ m, lineK (joinT l).data.toList = (m, 0, 0) ∧ sameL false (m.map t9) l = true ∧ prnL (m.map t9) = (joinT l, 0, 0) := by
  have hB : ∀ t : T9, ∃ b : Bd, ck9 t = 0 → BkT t b := fun t => by
    by_cases ht : ck9 t = 0
    · obtain ⟨b, hb⟩ := tk_tx ht
      exact ⟨b, fun _ => hb⟩
    · exact ⟨(0, 0, [], noK), fun e => absurd e ht⟩
  have hck := errL_none h
  have hx2 : (l.map fun t => (Classical.choose (hB t), (tx t).data.toList)).map (·.2) = l.map fun t => (tx t).data.toList := by rw [List.map_map]; rfl
  have hx1 : (l.map fun t => (Classical.choose (hB t), (tx t).data.toList)).map (·.1) = l.map fun t => Classical.choose (hB t) := by rw [List.map_map]; rfl
  have hj : (joinT l).data.toList = joinK ((l.map fun t => (Classical.choose (hB t), (tx t).data.toList)).map (·.2)) := by
    rw [hx2, ← join_K]
    show (Lib.join _ [32]).toArray.toList = _
    rw [List.toList_toArray]
  obtain ⟨m, h1, h2⟩ := lnK_join (tk := tkK uqK) (most := 80) (l.map fun t => (Classical.choose (hB t), (tx t).data.toList)) (fun x hx => by
    obtain ⟨t, ht, rfl⟩ := List.mem_map.1 hx
    obtain ⟨a, b, c, _⟩ := Classical.choose_spec (hB t) (hck t ht)
    exact ⟨a, b, c⟩) ((joinT l).data.toList.length + 1) 0 [] (by rw [← hj]; exact Nat.lt_succ_self _) (by rw [List.length_map]; simpa using h80)
  rw [← hj, List.nil_append] at h1
  rw [hx1] at h2
  have hlen : m.length = l.length := by
    have := congrArg List.length h2
    simpa using this
  have hs : sameL false (m.map t9) l = true := sameL_true (by rw [List.length_map, hlen]) fun k k1 k2 => by
    rw [List.getElem_map]
    have hk : k < m.length := by rw [List.length_map] at k1; exact k1
    have e1 : (m[k]).1 = Classical.choose (hB l[k]) := by
      have e := congrArg (·[k]?) h2
      simp only [List.getElem?_map, List.getElem?_eq_getElem hk, List.getElem?_eq_getElem k2, Option.map_some, Option.some.injEq] at e
      exact e
    obtain ⟨_, _, _, c1, c2, c3, c4⟩ := Classical.choose_spec (hB l[k]) (hck _ (List.getElem_mem k2))
    rw [← e1] at c1 c2 c3 c4
    exact smF_iff.2 ⟨c1, c2, c3, c4⟩
  refine ⟨m, ?_, hs, ?_⟩
  · unfold lineK
    rw [if_neg (by have : (joinT l).data.toList.length = (joinT l).size := by simp
                   omega)]
    exact h1
  · rw [sameL_prn hs]
    unfold prnL
    rw [h]
    simp only
    rw [if_neg (by omega), if_neg (by omega)]
end Go.Proofs.YtfleamgncodkpaaDoor
