/- Lexer: Same of the reference. No condition. Lexer: Line of Print has the tokens: plain laws. No condition. -/
import Derived.Test.YtcopnpllaoahaaaGreatDoorJ4
import Derived.Deep.DeepCutAuto
import Derived.Test.YtcopnpllaoahaaaGreatDoorJ8
namespace Go.Proofs.YtcopnpllaoahaaaGreatDoor
open Go.RowKit
/-- one token in place of another, with places or without -/
def smQ (p : Bool) (t u : T9) : Bool := if p = true then t9Q t u else t9Q (t.1, u.2.1, u.2.2.1, t.2.2.2) u
def sameL (p : Bool) : List T9 → List T9 → Bool
  | [], [] => true
  | t :: l, u :: m => smQ p t u && sameL p l m
  | _, _ => false
theorem sameL_len {p : Bool} : ∀ {l m : List T9}, l.length ≠ m.length → sameL p l m = false
  | [], [], h => absurd rfl h
  | [], _ :: _, _ => rfl
  | _ :: _, [], _ => rfl
  | t :: l, u :: m, h => by
    rw [sameL, sameL_len (fun e => h (by simp [e]))]; simp
theorem sameL_at {p : Bool} {l m : List T9} {k : Nat} (h1 : k < l.length) (h2 : k < m.length) : sameL p (l.drop k) (m.drop k) = (smQ p l[k] m[k] && sameL p (l.drop (k + 1)) (m.drop (k + 1))) := by
  rw [List.drop_eq_getElem_cons h1, List.drop_eq_getElem_cons h2, sameL]
theorem t9Q_iff {t u : T9} : t9Q t u = true ↔ t.1 = u.1 ∧ t.2.1 = u.2.1 ∧ t.2.2.1 = u.2.2.1 ∧ t.2.2.2.1 = u.2.2.2.1 ∧ t.2.2.2.2.1 = u.2.2.2.2.1 ∧ sQ t.2.2.2.2.2 u.2.2.2.2.2 = true := by
  unfold t9Q
  rw [tkQ_iff, ← stQ_sets]
  unfold stQ
  rw [decide_eq_true_eq]
theorem sameL_true {p : Bool} : ∀ {l m : List T9}, l.length = m.length → (∀ k (h1 : k < l.length) (h2 : k < m.length), smQ p l[k] m[k] = true) → sameL p l m = true
  | [], [], _, _ => rfl
  | [], _ :: _, h, _ => by simp at h
  | _ :: _, [], h, _ => by simp at h
  | t :: l, u :: m, h, hk => by
    have h0 : smQ p t u = true := hk 0 (by simp) (by simp)
    rw [sameL, h0, sameL_true (by simpa using h) (fun k h1 h2 => hk (k + 1) (by simpa using h1) (by simpa using h2))]; rfl
set_option maxRecDepth 100000 in
set_option maxHeartbeats 8000000 in
theorem same_ (p : Bool) (l m : List T9) (w : World) (A A' : Option Addr) (c c' : Nat) (hR : Reads w w.heap.size 9 A l.length (tks l)) (hR' : Reads w w.heap.size 9 A' m.length (tks m)) (_ : l.length ≤ 100000) (hm : m.length ≤ 100000) (b : Bool) (hb : Hid (sameL p l m = b)) :
    Calls Tryz.prog 19 #[.slice A l.length c, .slice A' m.length c', .bool p] w fun e w' => e = .returned (.bool b) ∧ Below w.heap.size w w' := by
  by_cases hlen : l.length = m.length
  case neg =>
    have e0 : ((l.length : Int) != (m.length : Int)) = true := by rw [bne_iff_ne]; omega
    have HB := Lib.hid (show false = b by rw [← hb.out, sameL_len hlen])
    clear hlen hb
    go_enter Tryz.func19, Tryz.ntmps19
    go_wp2
    go_ret
    exact ⟨by rw [← HB.out]; rfl, Below.refl _ _⟩
  have e0 : ((l.length : Int) != (m.length : Int)) = false := by rw [hlen]; simp
  have hlm : l.length ≤ m.length := by omega
  have HLen := Lib.hid hlen
  have HR := Lib.hid hR
  have HR' := Lib.hid hR'
  clear hlen hR hR'
  go_enter Tryz.func19, Tryz.ntmps19
  go_wp2
  go_loopw [7] (fun i wr => ∃ k : Nat, k ≤ l.length ∧ i = .int .i64 (k : Int) ∧ Below w.heap.size w wr ∧ Hid (sameL p (l.drop k) (m.drop k) = b)) (fun i _ => l.length - (intOf i).toNat)
  case atStart => exact ⟨0, Nat.zero_le _, rfl, Below.refl _ _, Lib.hid (by rw [List.drop_zero, List.drop_zero]; exact hb.out)⟩
  case round =>
    obtain ⟨k, hk, rfl, hbl, hs⟩ := hrel
    by_cases hlt : k < l.length
    case neg =>
      have i1 : ¬ ((k : Int) < (l.length : Int)) := by omega
      have HB := Lib.hid (show true = b by
        have h := hs.out
        rw [List.drop_of_length_le (by omega), List.drop_of_length_le (by have := HLen.out; omega)] at h
        exact h)
      clear hs hb
      go_wp2
      go_ret
      exact ⟨by rw [← HB.out]; rfl, hbl⟩
    have i1 : (k : Int) < (l.length : Int) := by omega
    have i0 : (0 : Int) ≤ (k : Int) := by omega
    have hkm : k < m.length := by omega
    have i2 : (k : Int) < (m.length : Int) := by omega
    have hst := sameL_at (p := p) hlt hkm
    rw [hs.out] at hst
    obtain ⟨bk, off, rfl, hbk, c0, c1, c2, c3, c4, c5, c6, c7, c8⟩ := (HR.out.below hbl).at9 hlt
    obtain ⟨bk', off', rfl, hbk', d0, d1, d2, d3, d4, d5, d6, d7, d8⟩ := (HR'.out.below hbl).at9 hkm
    obtain ⟨K, F, T, N, S, f, ht⟩ : ∃ K F T N S f, l[k] = (K, F, T, N, S, f) := ⟨_, _, _, _, _, _, rfl⟩
    obtain ⟨K', F', T', N', S', f', ht'⟩ : ∃ K F T N S f, m[k] = (K, F, T, N, S, f) := ⟨_, _, _, _, _, _, rfl⟩
    rw [ht] at c0 c1 c2 c3 c4 c5 c6 c7 c8 hst
    rw [ht'] at d0 d1 d2 d3 d4 d5 d6 d7 d8 hst
    simp only at c0 c1 c2 c3 c4 c5 c6 c7 c8 d0 d1 d2 d3 d4 d5 d6 d7 d8
    have hbkw : bk < wr.heap.size := Nat.lt_of_lt_of_le hbk hbl.size
    have hbkw' : bk' < wr.heap.size := Nat.lt_of_lt_of_le hbk' hbl.size
    have Hst := Lib.hid hst
    have HBl := Lib.hid hbl
    clear hst ht ht' hs hb
    go_upto_region 6 with fail
    go_cut [8, 9] (fun x y wx => ∃ g1 g2, x = .pointer (some ⟨g1, 0, none⟩) ∧ y = .pointer (some ⟨g2, 0, none⟩) ∧ g1 ≠ g2 ∧ w.heap.size ≤ g1 ∧ Fr w [(g1, tkO K F T N S f), (g2, tkO K' F' T' N' S' f')] wx)
    case first =>
      have hA : Fr w [(wr.heap.size, tkO K F T N S f), (wr.heap.size + 1, tkO K' F' T' N' S' f')] ((wr.alloc (tkO K F T N S f)).alloc (tkO K' F' T' N' S' f')).drew :=
        ((((Fr.nil HBl.out).newN rfl (tkO K F T N S f)).newN (g := wr.heap.size + 1) (by simp) (tkO K' F' T' N' S' f')).sub (by simp)).drew
      have hA' : Fr w [(wr.heap.size + 1, tkO K F T N S f), (wr.heap.size, tkO K' F' T' N' S' f')] ((wr.alloc (tkO K' F' T' N' S' f')).alloc (tkO K F T N S f)).drew :=
        ((((Fr.nil HBl.out).newN rfl (tkO K' F' T' N' S' f')).newN (g := wr.heap.size + 1) (by simp) (tkO K F T N S f)).sub (by simp)).drew
      have hz1 := HBl.out.size
      have hz2 : w.heap.size ≤ wr.heap.size + 1 := by omega
      have hz3 : wr.heap.size ≠ wr.heap.size + 1 := by omega
      have HA := Lib.hid hA
      have HA' := Lib.hid hA'
      clear hA hA'
      go_region
      all_goals
        go_wp2
        go_meet
        first
          | exact ⟨wr.heap.size, wr.heap.size + 1, rfl, rfl, hz3, hz1, HA.out⟩
          | exact ⟨wr.heap.size + 1, wr.heap.size, rfl, rfl, hz3.symm, hz2, HA'.out⟩
    case rest =>
    obtain ⟨g1, g2, rfl, rfl, hg, hg1, hF⟩ := hcut
    clear c0 c1 c2 c3 c4 c5 c6 c7 c8 d0 d1 d2 d3 d4 d5 d6 d7 d8 hbkw hbkw' hbl
    obtain ⟨⟨c0, c1, c2, c3, c4, c5, c6, c7, c8⟩, ⟨f0, f1, f2, f3, f4, f5, f6, f7, f8⟩, hl1⟩ := bx9 (hF.at (g := g1) (o := tkO K F T N S f) (by simp))
    obtain ⟨⟨d0, d1, d2, d3, d4, d5, d6, d7, d8⟩, _, hl2⟩ := bx9 (hF.at (g := g2) (o := tkO K' F' T' N' S' f') (by simp))
    have HF := Lib.hid hF
    clear hF
    have hst := Hst.out
    rcases p with _ | _
    · have hF2 : Fr w [(g1, tkO K F' T' N S f), (g2, tkO K' F' T' N' S' f')] ((wc.setCell ⟨g1, 1, none⟩ (.int .i64 F')).setCell ⟨g1, 2, none⟩ (.int .i64 T')).drew := by
        have h := ((HF.out.set hg1 (by simpa using hg.symm) 1 (.int .i64 F')).set hg1 (by simpa using hg.symm) 2 (.int .i64 T')).drew
        simpa using h
      have HF2 := Lib.hid hF2
      clear hF2
      go_wp2
      go_region
      all_goals
        generalize ((wc.setCell ⟨g1, 1, none⟩ (.int .i64 F')).setCell ⟨g1, 2, none⟩ (.int .i64 T')).drew = W5 at *
        clear c0 c1 c2 c3 c4 c5 c6 c7 c8 f0 f1 f2 f3 f4 f5 f6 f7 f8 hl1 d0 d1 d2 d3 d4 d5 d6 d7 d8 hl2
        obtain ⟨⟨c0, c1, c2, c3, c4, c5, c6, c7, c8⟩, _, hl1⟩ := bx9 (HF2.out.at (g := g1) (o := tkO K F' T' N S f) (by simp))
        obtain ⟨⟨d0, d1, d2, d3, d4, d5, d6, d7, d8⟩, _, hl2⟩ := bx9 (HF2.out.at (g := g2) (o := tkO K' F' T' N' S' f') (by simp))
        have hB2 := HF2.out.bel
        rcases hq : tkQ (K, F', T', N, S, ((wK f 0 : Nat) : Int), ((wK f 1 : Nat) : Int), ((wK f 2 : Nat) : Int), ((wK f 3 : Nat) : Int)) (K', F', T', N', S', ((wK f' 0 : Nat) : Int), ((wK f' 1 : Nat) : Int), ((wK f' 2 : Nat) : Int), ((wK f' 3 : Nat) : Int)) with _ | _
        · have HB := Lib.hid (show false = b by
            rw [hst, show smQ false (K, F, T, N, S, f) (K', F', T', N', S', f') = false from hq]; rfl)
          clear hst
          go_wp2
          go_ret
          exact ⟨by rw [← HB.out]; rfl, hB2⟩
        · have HS := Lib.hid (show sameL false (l.drop (k + 1)) (m.drop (k + 1)) = b by
            rw [hst, show smQ false (K, F, T, N, S, f) (K', F', T', N', S', f') = true from hq]; rfl)
          clear hst
          go_wp2
          go_roundw
          case rel => exact ⟨k + 1, by omega, by go_num, hB2, HS⟩
          case measure => (simp [intOf]) <;> omega
    · have hB2 := HF.out.bel
      rcases hq : tkQ (K, F, T, N, S, ((wK f 0 : Nat) : Int), ((wK f 1 : Nat) : Int), ((wK f 2 : Nat) : Int), ((wK f 3 : Nat) : Int)) (K', F', T', N', S', ((wK f' 0 : Nat) : Int), ((wK f' 1 : Nat) : Int), ((wK f' 2 : Nat) : Int), ((wK f' 3 : Nat) : Int)) with _ | _
      · have HB := Lib.hid (show false = b by
          rw [hst, show smQ true (K, F, T, N, S, f) (K', F', T', N', S', f') = false from hq]; rfl)
        clear hst
        go_wp2
        go_ret
        exact ⟨by rw [← HB.out]; rfl, hB2⟩
      · have HS := Lib.hid (show sameL true (l.drop (k + 1)) (m.drop (k + 1)) = b by
          rw [hst, show smQ true (K, F, T, N, S, f) (K', F', T', N', S', f') = true from hq]; rfl)
        clear hst
        go_wp2
        go_roundw
        case rel => exact ⟨k + 1, by omega, by go_num, hB2, HS⟩
        case measure => (simp [intOf]) <;> omega
end Go.Proofs.YtcopnpllaoahaaaGreatDoor
namespace Go.Proofs.YtcopnpllaoahaaaGreatDoor
open Go.RowKit
theorem mbK_congr {f g : Nat → Bool} (h : ∀ i, i < 256 → f i = g i) : mbK f = mbK g :=
  List.filter_congr fun i hi => h i (List.mem_range.1 hi)
theorem prK_congr {f g : Nat → Bool} (h : ∀ i, i < 256 → f i = g i) : prK f = prK g := by
  unfold prK
  rw [mbK_congr h, mbK_congr (f := fun i => !f i) (g := fun i => !g i) fun i hi => by rw [h i hi]]
theorem sQ_congr {f g : Nat → Bool} (h : sQ f g = true) (u : Nat → Bool) : sQ f u = sQ g u := by
  have hi := (sQ_iff f g).1 h
  rw [Bool.eq_iff_iff, sQ_iff, sQ_iff]
  exact ⟨fun e i hk => by rw [← hi i hk]; exact e i hk, fun e i hk => by rw [hi i hk]; exact e i hk⟩
theorem sQ_symm {f g : Nat → Bool} (h : sQ f g = true) : sQ g f = true := (sQ_iff g f).2 fun i hi => ((sQ_iff f g).1 h i hi).symm
theorem sQ_refl (f : Nat → Bool) : sQ f f = true := (sQ_iff f f).2 fun _ _ => rfl
theorem smF_iff {t u : T9} : smQ false t u = true ↔ t.1 = u.1 ∧ t.2.2.2.1 = u.2.2.2.1 ∧ t.2.2.2.2.1 = u.2.2.2.2.1 ∧ sQ t.2.2.2.2.2 u.2.2.2.2.2 = true := by
  unfold smQ
  rw [if_neg (by decide), t9Q_iff]
  exact ⟨fun ⟨a, _, _, b, c, d⟩ => ⟨a, b, c, d⟩, fun ⟨a, b, c, d⟩ => ⟨a, rfl, rfl, b, c, d⟩⟩
theorem sm_tx {t u : T9} (h : smQ false t u = true) : ck9 t = ck9 u ∧ tx t = tx u := by
  obtain ⟨h1, h2, h3, h4⟩ := smF_iff.1 h
  constructor
  · show ckT _ _ _ _ = ckT _ _ _ _
    unfold ckT
    rw [h1, h2, h3, sQ_congr h4]
  · show tx9 _ _ _ _ = tx9 _ _ _ _
    unfold tx9
    rw [h1, h2, h3, sQ_congr h4, prK_congr ((sQ_iff _ _).1 h4)]
theorem sameL_mem {p : Bool} : ∀ {l m : List T9}, sameL p l m = true → l.length = m.length ∧ ∀ k (h1 : k < l.length) (h2 : k < m.length), smQ p l[k] m[k] = true
  | [], [], _ => ⟨rfl, fun k h1 => by simp at h1⟩
  | [], _ :: _, h => by cases h
  | _ :: _, [], h => by cases h
  | t :: l, u :: m, h => by
    rw [sameL, Bool.and_eq_true] at h
    obtain ⟨a, b⟩ := sameL_mem h.2
    refine ⟨by simp [a], fun k h1 h2 => ?_⟩
    cases k with
    | zero => exact h.1
    | succ k => exact b k (by simpa using h1) (by simpa using h2)
theorem sameL_err : ∀ {l m : List T9}, sameL false l m = true → (∀ i, errL l i = errL m i) ∧ l.map tx = m.map tx
  | [], [], _ => ⟨fun _ => rfl, rfl⟩
  | [], _ :: _, h => by cases h
  | _ :: _, [], h => by cases h
  | t :: l, u :: m, h => by
    rw [sameL, Bool.and_eq_true] at h
    obtain ⟨a, b⟩ := sameL_err h.2
    obtain ⟨c, d⟩ := sm_tx h.1
    refine ⟨fun i => ?_, by rw [List.map_cons, List.map_cons, b, d]⟩
    rw [errL, errL, a, c]
theorem sameL_prn {l m : List T9} (h : sameL false l m = true) : prnL l = prnL m := by
  obtain ⟨a, b⟩ := sameL_err h
  have hj : joinT l = joinT m := by
    unfold joinT
    have e : ∀ l : List T9, (l.map fun t => (tx t).data.toList) = (l.map tx).map fun s => s.data.toList := fun l => by rw [List.map_map]; rfl
    rw [e, e, b]
  unfold prnL
  rw [a, hj, (sameL_mem h).1]
theorem ck_zero {K N : Int} {S : ByteArray} {f : Nat → Bool} (h : ckT K N S f = 0) : (1 ≤ K ∧ K ≤ 6) ∧ (K ≠ 3 → N = 0) ∧ (K ≠ 4 → K ≠ 5 → S = ⟨#[]⟩) ∧ (K ≠ 6 → sQ f (fun _ => false) = true) ∧ 0 ≤ N ∧ N ≤ 999999999 := by
  obtain ⟨hK, hN, _⟩ := ck_kind h
  unfold ckT at h
  by_cases h1 : K < 1 ∨ 6 < K ∨ (K ≠ 3 ∧ N ≠ 0) ∨ (K ≠ 4 ∧ K ≠ 5 ∧ S ≠ ⟨#[]⟩) ∨ (K ≠ 6 ∧ sQ f (fun _ => false) = false)
  · rw [if_pos h1] at h; cases h
  refine ⟨hK, fun a => ?_, fun a b => ?_, fun a => ?_, hN⟩
  · exact Classical.byContradiction fun c => h1 (.inr (.inr (.inl ⟨a, c⟩)))
  · exact Classical.byContradiction fun c => h1 (.inr (.inr (.inr (.inl ⟨a, b, c⟩))))
  · rcases hh : sQ f (fun _ => false) with _ | _
    · exact absurd (.inr (.inr (.inr (.inr ⟨a, hh⟩)))) h1
    · rfl
/-- what the text of a token is taken as -/
def BkT (t : T9) (b : Bd) : Prop := (tx t).data.toList ≠ [] ∧ (tx t).data.toList.head? ≠ some 32 ∧ (∀ r : List UInt8, (r.head? = none ∨ r.head? = some 32) → tkK uqK ((tx t).data.toList ++ r) = .inl (b, (tx t).data.toList.length)) ∧
  ((b.1 : Nat) : Int) = t.1 ∧ ((b.2.1 : Nat) : Int) = t.2.2.2.1 ∧ (⟨b.2.2.1.toArray⟩ : ByteArray) = t.2.2.2.2.1 ∧ sQ b.2.2.2 t.2.2.2.2.2 = true
theorem tk_tx {t : T9} (h : ck9 t = 0) : ∃ b : Bd, BkT t b := by
  obtain ⟨K, F, T, N, S, f⟩ := t
  obtain ⟨hK, hN, hS, hf, hN0, hN9⟩ := ck_zero h
  simp only at hK hN hS hf hN0 hN9
  unfold BkT tx
  simp only
  rcases (show K = 1 ∨ K = 2 ∨ K = 3 ∨ K = 4 ∨ K = 5 ∨ K = 6 by omega) with rfl | rfl | rfl | rfl | rfl | rfl
  · have e : tx9 1 N S f = ⟨#[114, 117, 108, 101]⟩ := rfl
    rw [e]
    exact ⟨(1, 0, [], noK), by decide, by decide, fun r hr => tk_rule uqK hr, rfl, (hN (by decide)).symm, (hS (by decide) (by decide)).symm, sQ_symm (hf (by decide))⟩
  · have e : tx9 2 N S f = ⟨#[103, 97, 112]⟩ := rfl
    rw [e]
    exact ⟨(2, 0, [], noK), by decide, by decide, fun r hr => tk_gap uqK hr, rfl, (hN (by decide)).symm, (hS (by decide) (by decide)).symm, sQ_symm (hf (by decide))⟩
  · obtain ⟨n, rfl⟩ : ∃ n : Nat, N = (n : Int) := ⟨N.toNat, by omega⟩
    have e : (tx9 3 (n : Int) S f).data.toList = Lib.decDigits n := by
      show (Lib.itoa (n : Int)).toArray.toList = _
      rw [Lib.itoa_nonneg]
    rw [e]
    obtain ⟨h1, h2, _, _⟩ := txOk.num n (by omega)
    refine ⟨(3, n, [], noK), h1, ?_, fun r hr => tk_num txOk (by omega) hr, rfl, rfl, (hS (by decide) (by decide)).symm, sQ_symm (hf (by decide))⟩
    intro hh
    rcases hd : Lib.decDigits n with _ | ⟨c, u⟩
    · exact h1 hd
    · rw [hd] at hh h2
      have hc := h2 c List.mem_cons_self
      have : c = 32 := by simpa using hh
      subst this
      revert hc; decide
  · have e : (tx9 4 N S f).data.toList = 34 :: qbK S.data.toList := by
      show ((quoteB S.data.toList).toArray).toList = _
      rw [qb_quote]
    rw [e]
    exact ⟨(4, 0, S.data.toList, noK), by simp, by simp, fun r _ => tk_lit txOk _ r, rfl, (hN (by decide)).symm, by simp, sQ_symm (hf (by decide))⟩
  · have e : (tx9 5 N S f).data.toList = 105 :: 34 :: qbK S.data.toList := by
      show ((⟨#[105]⟩ : ByteArray) ++ ⟨(quoteB S.data.toList).toArray⟩).data.toList = _
      rw [ByteArray.data_append, Array.toList_append, qb_quote]
      rfl
    rw [e]
    exact ⟨(5, 0, S.data.toList, noK), by simp, by simp, fun r _ => tk_fold txOk _ r, rfl, (hN (by decide)).symm, by simp, sQ_symm (hf (by decide))⟩
  · by_cases ha : sQ f (fun _ => true) = true
    · have e : tx9 6 N S f = ⟨#[46]⟩ := by
        unfold tx9
        rw [if_neg (by decide), if_neg (by decide), if_neg (by decide), if_neg (by decide), if_neg (by decide), if_pos ha]
      rw [e]
      refine ⟨(6, 0, [], allK), by decide, by decide, fun r _ => tk_all uqK r, rfl, (hN (by decide)).symm, (hS (by decide) (by decide)).symm, ?_⟩
      refine (sQ_iff _ _).2 fun i hi => ?_
      have := (sQ_iff _ _).1 ha i hi
      show decide (i < 256) = f i
      rw [this, decide_eq_true hi]
    · have e : (tx9 6 N S f).data.toList = prK f := by
        unfold tx9
        rw [if_neg (by decide), if_neg (by decide), if_neg (by decide), if_neg (by decide), if_neg (by decide), if_neg ha]
      rw [e]
      obtain ⟨u, hu⟩ := prK_head f
      obtain ⟨g, h1, h2⟩ := tk_set uqK f []
      rw [List.append_nil] at h1
      have hd : ((prK f).drop (prK f).length).head? = none ∨ ((prK f).drop (prK f).length).head? = some 32 := .inl (by rw [List.drop_length]; rfl)
      refine ⟨(6, 0, [], g), by rw [hu]; simp, by rw [hu]; simp, fun r hr => ?_, rfl, (hN (by decide)).symm, (hS (by decide) (by decide)).symm, (sQ_iff _ _).2 h2⟩
      have h5 := ((tkK_ok uqK).again (t := prK f) (by rw [hu]; simp) h1 hd r hr).1
      rwa [List.take_length] at h5
theorem join_K : ∀ (l : List (List UInt8)), Lib.join l [32] = joinK l
  | [] => rfl
  | [x] => by simp [Lib.join, joinK]
  | x :: y :: t => by
    have ih := join_K (y :: t)
    rw [joinK, ← ih]
    simp [Lib.join]
theorem back_law {l : List T9} (h : errL l 0 = none) (h80 : l.length ≤ 80) (h1000 : (joinT l).size ≤ 1000) :
    ∃ m, lineK (joinT l).data.toList = (m, 0, 0) ∧ sameL false (m.map t9) l = true ∧ prnL (m.map t9) = (joinT l, 0, 0) := by
  have hB : ∀ t : T9, ∃ b : Bd, ck9 t = 0 → BkT t b := fun t => by
    by_cases ht : ck9 t = 0
    · obtain ⟨b, hb⟩ := tk_tx ht
      exact ⟨b, fun _ => hb⟩
    · exact ⟨(0, 0, [], noK), fun e => absurd e ht⟩
  have hck := errL_none h
  have hx2 : (l.map fun t => (Classical.choose (hB t), (tx t).data.toList)).map (·.2) = l.map fun t => (tx t).data.toList := by rw [List.map_map]; rfl
  have hx1 : (l.map fun t => (Classical.choose (hB t), (tx t).data.toList)).map (·.1) = l.map fun t => Classical.choose (hB t) := by rw [List.map_map]; rfl
  have hj : (joinT l).data.toList = joinK ((l.map fun t => (Classical.choose (hB t), (tx t).data.toList)).map (·.2)) := by
    rw [hx2, ← join_K]
    show (Lib.join _ [32]).toArray.toList = _
    rw [List.toList_toArray]
  obtain ⟨m, h1, h2⟩ := lnK_join (tk := tkK uqK) (most := 80) (l.map fun t => (Classical.choose (hB t), (tx t).data.toList)) (fun x hx => by
    obtain ⟨t, ht, rfl⟩ := List.mem_map.1 hx
    obtain ⟨a, b, c, _⟩ := Classical.choose_spec (hB t) (hck t ht)
    exact ⟨a, b, c⟩) ((joinT l).data.toList.length + 1) 0 [] (by rw [← hj]; exact Nat.lt_succ_self _) (by rw [List.length_map]; simpa using h80)
  rw [← hj, List.nil_append] at h1
  rw [hx1] at h2
  have hlen : m.length = l.length := by
    have := congrArg List.length h2
    simpa using this
  have hs : sameL false (m.map t9) l = true := sameL_true (by rw [List.length_map, hlen]) fun k k1 k2 => by
    rw [List.getElem_map]
    have hk : k < m.length := by rw [List.length_map] at k1; exact k1
    have e1 : (m[k]).1 = Classical.choose (hB l[k]) := by
      have e := congrArg (·[k]?) h2
      simp only [List.getElem?_map, List.getElem?_eq_getElem hk, List.getElem?_eq_getElem k2, Option.map_some, Option.some.injEq] at e
      exact e
    obtain ⟨_, _, _, c1, c2, c3, c4⟩ := Classical.choose_spec (hB l[k]) (hck _ (List.getElem_mem k2))
    rw [← e1] at c1 c2 c3 c4
    exact smF_iff.2 ⟨c1, c2, c3, c4⟩
  refine ⟨m, ?_, hs, ?_⟩
  · unfold lineK
    rw [if_neg (by have : (joinT l).data.toList.length = (joinT l).size := by simp
                   omega)]
    exact h1
  · rw [sameL_prn hs]
    unfold prnL
    rw [h]
    simp only
    rw [if_neg (by omega), if_neg (by omega)]
end Go.Proofs.YtcopnpllaoahaaaGreatDoor
