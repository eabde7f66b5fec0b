/- Syntax: Check, Print and Tokens of the program. No condition. Syntax: what is read has no errors but for its length: plain laws. No condition. Syntax: what was parsed and printed is parsed as the same rules: plain laws. No condition. Syntax: closed facts at the document's examples. Printed by geny9.py. Syntax: the example of the laws. No condition. -/
import Derived.Test.YtcopnpllaoahaaaGreatDoorJ13
import Derived.Test.YtcopnpllaoahaaaGreatDoorY5
namespace Go.Proofs.YtcopnpllaoahaaaGreatDoor
open Go.RowKit
theorem scheck_ (L : List Rm) (w : World) (A : Option Addr) (c : Nat) (hI : IsRus w A L) (hH : Hd w) (hW : LxW w) (t : List UInt8) (i : Nat) (k e : Int) (hp : Hid (prA (L.map rm) = (t, i, k, e))) :
    Calls Tryz.prog 14 #[.slice A L.length c] w fun e' w' => e' = .returned (.tuple #[.int .i64 (i : Int), .int .i64 k, .int .i64 e]) ∧ Below w.heap.size w w' := by
  have HA := Lib.hid (sall_ L w A c hI hH hW _ hp)
  clear hI hH hW hp
  go_enter Tryz.func14, Tryz.ntmps14
  go_wp2_with fail
  (with_reducible refine (HA.out).mono ?_); rintro e' w1 ⟨rfl, hb1⟩
  go_wp2
  exact bodyPost_ret (v := .tuple #[.int .i64 (i : Int), .int .i64 k, .int .i64 e]) (by simp [results, go_sem]) rfl ⟨rfl, hb1⟩
theorem sprint_ (L : List Rm) (w : World) (A : Option Addr) (c : Nat) (hI : IsRus w A L) (hH : Hd w) (hW : LxW w) (t : List UInt8) (i : Nat) (k e : Int) (hp : Hid (prA (L.map rm) = (t, i, k, e))) :
    Calls Tryz.prog 10 #[.slice A L.length c] w fun e' w' => e' = .returned (.tuple #[.string ⟨t.toArray⟩, .int .i64 e]) ∧ Below w.heap.size w w' := by
  have HA := Lib.hid (sall_ L w A c hI hH hW _ hp)
  clear hI hH hW hp
  go_enter Tryz.func10, Tryz.ntmps10
  go_wp2_with fail
  (with_reducible refine (HA.out).mono ?_); rintro e' w1 ⟨rfl, hb1⟩
  go_wp2
  exact bodyPost_ret (v := .tuple #[.string ⟨t.toArray⟩, .int .i64 e]) (by simp [results, go_sem]) rfl ⟨rfl, hb1⟩
/-- what Tokens gives -/
def tkR (r : Ru) (e : Int) : List T9 := if e = 0 then ruT r else []
def RetTe (w : World) (ts : List T9) (er : Int) (e : Ending) (w' : World) : Prop :=
  ∃ A c, e = .returned (.tuple #[.slice A ts.length c, .int .i64 er]) ∧ Below w.heap.size w w' ∧ Reads w' w'.heap.size 9 A ts.length (tks ts) ∧ ts.length ≤ c ∧ c ≤ 9223372036854775807
theorem prA_one {r : Ru} {t : List UInt8} {i : Nat} {k : Int} (h : prA [r] = (t, i, k, 0)) : (ruE r).2 = 0 := by
  obtain ⟨_, _, _, _, h2, _⟩ := parse_print h
  exact h2 r (by simp)
theorem is_one {w : World} {g : Nat} {r : Rm} (h : w.heap[g]? = some (.cells #[.int .i64 r.1, .slice r.2.1 r.2.2.2.length r.2.2.1] 42 (0, 0))) (hI : IsRu w r) : IsRus w (some ⟨g, 0, none⟩) [r] :=
  ⟨by
    have := reads_blkN (size := 2) (n := 1) (cs := rms [r]) (w := w) (g := g) (t := 42) (by rw [h]; simp [rms]) (by rw [rms_len]; rfl)
    exact this, fun x hx => by rw [List.mem_singleton.1 hx]; exact hI⟩
set_option maxRecDepth 100000 in
set_option maxHeartbeats 4000000 in
theorem stokens_ (r : Rm) (w : World) (hI : IsRu w r) (hH : Hd w) (hW : LxW w) (t : List UInt8) (i : Nat) (k e : Int) (hp : Hid (prA [rm r] = (t, i, k, e))) :
    Calls Tryz.prog 17 #[ruV r] w (RetTe w (tkR (rm r) e) e) := by
  have hB := ba (ba (Below.refl w.heap.size w) (bxO r.1 r.2.1 r.2.2.2.length r.2.2.1)) (bxO r.1 r.2.1 r.2.2.2.length r.2.2.1)
  have hI2 : IsRu ((w.alloc (bxO r.1 r.2.1 r.2.2.2.length r.2.2.1)).alloc (bxO r.1 r.2.1 r.2.2.2.length r.2.2.1)) r := hI.go hB
  have hI3 := is_one (alloc2_new w (bxO r.1 r.2.1 r.2.2.2.length r.2.2.1) (bxO r.1 r.2.1 r.2.2.2.length r.2.2.1)) hI2
  have hA := scheck_ [r] _ _ 1 hI3 (hH.below hB) (hW.below hB) t i k e hp
  rw [List.length_singleton] at hA
  have HA := Lib.hid hA
  have hF0 : Fr w [(w.heap.size, bxO r.1 r.2.1 r.2.2.2.length r.2.2.1)] ((w.alloc (bxO r.1 r.2.1 r.2.2.2.length r.2.2.1)).alloc (bxO r.1 r.2.1 r.2.2.2.length r.2.2.1)) := ((Fr.start w).new _).al _
  have HF0 := Lib.hid hF0
  have HI := Lib.hid hI
  have HH := Lib.hid hH
  obtain ⟨id, A, c, es⟩ := r
  by_cases he : e = 0
  · subst he
    have hok := ruE_ok (prA_one hp.out)
    have hE := hok.2.2.2.1
    have h64 := hok.2.2.1
    have HL := Lib.hid (fun (W : World) (hW : IsRu W (id, A, c, es)) (hH : Hd W) => (show Calls Tryz.prog 28 #[.agg #[.int .i64 id, .slice A es.length c]] W (RetTs W (ruT (id, es))) from sline_ (id, A, c, es) W hW hE hH h64))
    have HT := Lib.hid (show tkR (rm (id, A, c, es)) 0 = ruT (id, es) from if_pos rfl)
    clear hA hB hI2 hI3 hF0 hI hH hW hp hok hE h64
    go_enter Tryz.func17, Tryz.ntmps17
    go_wp2_with fail
    (with_reducible refine (HA.out).mono ?_); rintro e' w1 ⟨rfl, hb1⟩
    have hF1 := HF0.out.go hb1
    obtain ⟨⟨b0, b1⟩, _, l1⟩ := bx2 (hF1.at (g := w.heap.size) (o := bxO id A es.length c) List.mem_cons_self)
    have HF1 := Lib.hid hF1
    clear hF1 hb1
    go_wp2_with fail
    (with_reducible refine (HL.out _ (HI.out.go HF1.out.bel) (HH.out.below HF1.out.bel)).mono ?_); rintro e' w3 ⟨A5, c5, rfl, hb3, ho3⟩
    obtain ⟨_, _, e5, hr5, h1, h2⟩ := own_sl ho3
    cases e5
    have HB3 := Lib.hid (bt HF1.out.bel hb3)
    have HR5 := Lib.hid hr5
    clear hb3 ho3 hr5 b0 b1 l1
    go_wp2
    refine bodyPost_ret (v := .tuple #[.slice A5 (ruT (id, es)).length c5, .int .i64 0]) (by simp [results, go_sem]) rfl ?_
    rw [HT.out]
    exact ⟨A5, c5, rfl, HB3.out, HR5.out, h1, h2⟩
  · have e1 : (e != 0) = true := by simpa using he
    have HT := Lib.hid (show tkR (rm (id, A, c, es)) e = [] from if_neg he)
    clear hA hB hI2 hI3 hF0 hI hH hW hp he
    go_enter Tryz.func17, Tryz.ntmps17
    go_wp2_with fail
    (with_reducible refine (HA.out).mono ?_); rintro e' w1 ⟨rfl, hb1⟩
    have HB1 := Lib.hid (bt HF0.out.bel hb1)
    clear hb1
    go_wp2
    refine bodyPost_ret (v := .tuple #[.slice none 0 0, .int .i64 e]) (by simp [results, go_sem]) rfl ?_
    rw [HT.out]
    exact ⟨none, 0, rfl, HB1.out, Reads.none_, Nat.le_refl _, by omega⟩
end Go.Proofs.YtcopnpllaoahaaaGreatDoor
namespace Go.Proofs.YtcopnpllaoahaaaGreatDoor
open Go.RowKit
theorem elE_of {K : Int} {S : ByteArray} {f : Nat → Bool} {lo hi : Int} (hk : 1 ≤ K ∧ K ≤ 4) (hS : K ≠ 1 → K ≠ 2 → S = noB) (hf : K ≠ 3 → sQ f noK = true) (hz : K ≠ 4 → lo = 0 ∧ hi = 0) (h1 : 0 ≤ lo ∧ lo ≤ 999999999) (h2 : 0 ≤ hi ∧ hi ≤ 999999999) (h3 : S.size ≤ 2000) : elE (K, S, f, lo, hi) = 0 := by
  unfold elE
  simp only
  rw [if_neg, if_neg (by omega), if_neg (by omega)]
  rintro (h | h | ⟨h, h4, h5⟩ | ⟨h, h5⟩ | ⟨h, h5⟩)
  · omega
  · omega
  · exact h5 (hS h h4)
  · rw [hf h] at h5; cases h5
  · have := hz h; omega
/-- the elements that are read have no errors -/
theorem elsK_ok : ∀ (n : Nat) (ts : List T9) (at_ : Nat) (acc es : List El) (p : Nat) (e : Int), ts.length ≤ n → (∀ t ∈ ts, ck9 t = 0) → (∀ x ∈ acc, elE x = 0) → acc.length ≤ 64 → elsK ts at_ acc = (es, p, e) →
    (e = 0 → (∀ x ∈ es, elE x = 0) ∧ es.length ≤ 64 ∧ acc.length ≤ es.length ∧ (ts ≠ [] → acc.length < es.length)) ∧ (e = 0 ∨ e = 3 ∨ e = 6)
  | _, [], at_, acc, es, p, e, _, _, ha, hl, h => by
    simp only [elsK, Prod.mk.injEq] at h
    obtain ⟨rfl, _, rfl⟩ := h
    exact ⟨fun _ => ⟨ha, hl, Nat.le_refl _, fun hne => absurd rfl hne⟩, .inl rfl⟩
  | 0, t :: r, _, _, _, _, _, hn, _, _, _, _ => by simp at hn
  | n + 1, t :: r, at_, acc, es, p, e, hn, hc, ha, hl, h => by
    rw [List.length_cons] at hn
    have hz : noB.size ≤ 2000 := by decide
    have hq : sQ noK noK = true := sQ_refl _
    have ht := hc t List.mem_cons_self
    have hr : ∀ u ∈ r, ck9 u = 0 := fun u hu => hc u (List.mem_cons_of_mem _ hu)
    obtain ⟨_, _, hts⟩ := ck_kind ht
    have go : ∀ (x : El) (r' : List T9) (a' : Nat), elE x = 0 → acc.length ≠ 64 → r'.length ≤ n → (∀ u ∈ r', ck9 u = 0) → elsK r' a' (acc ++ [x]) = (es, p, e) →
        (e = 0 → (∀ x ∈ es, elE x = 0) ∧ es.length ≤ 64 ∧ acc.length ≤ es.length ∧ (t :: r ≠ [] → acc.length < es.length)) ∧ (e = 0 ∨ e = 3 ∨ e = 6) := by
      intro x r' a' hx h64 hr' hc' hh
      obtain ⟨g1, g2⟩ := elsK_ok n r' a' (acc ++ [x]) es p e hr' hc' (fun y hy => by
        rcases List.mem_append.1 hy with hy | hy
        · exact ha y hy
        · rw [List.mem_singleton.1 hy]; exact hx) (by rw [List.length_append]; simp; omega) hh
      refine ⟨fun he => ?_, g2⟩
      obtain ⟨k1, k2, k3, _⟩ := g1 he
      rw [List.length_append] at k3
      simp at k3
      exact ⟨k1, k2, by omega, fun _ => by omega⟩
    rw [elsK_cons] at h
    by_cases h64 : acc.length = 64
    · rw [if_pos h64] at h
      simp only [Prod.mk.injEq] at h
      obtain ⟨_, _, rfl⟩ := h
      exact ⟨fun he => absurd he (by decide), .inr (.inl rfl)⟩
    rw [if_neg h64] at h
    by_cases h4 : t.1 = 4
    · rw [if_pos h4] at h
      exact go _ r _ (elE_of (by decide) (fun a => absurd rfl a) (fun _ => hq) (fun _ => ⟨rfl, rfl⟩) (by decide) (by decide) hts) h64 (by omega) hr h
    rw [if_neg h4] at h
    by_cases h5 : t.1 = 5
    · rw [if_pos h5] at h
      exact go _ r _ (elE_of (by decide) (fun _ a => absurd rfl a) (fun _ => hq) (fun _ => ⟨rfl, rfl⟩) (by decide) (by decide) hts) h64 (by omega) hr h
    rw [if_neg h5] at h
    by_cases h6 : t.1 = 6
    · rw [if_pos h6] at h
      exact go _ r _ (elE_of (by decide) (fun _ _ => rfl) (fun a => absurd rfl a) (fun _ => ⟨rfl, rfl⟩) (by decide) (by decide) hz) h64 (by omega) hr h
    rw [if_neg h6] at h
    by_cases h2 : t.1 = 2
    · rw [if_pos h2] at h
      have bad : ∀ q : Nat, (([] : List El), q, (6 : Int)) = (es, p, e) → (e = 0 → (∀ x ∈ es, elE x = 0) ∧ es.length ≤ 64 ∧ acc.length ≤ es.length ∧ (t :: r ≠ [] → acc.length < es.length)) ∧ (e = 0 ∨ e = 3 ∨ e = 6) := fun q hh => by
        simp only [Prod.mk.injEq] at hh
        obtain ⟨_, _, rfl⟩ := hh
        exact ⟨fun he => absurd he (by decide), .inr (.inr rfl)⟩
      match r, hr, hn, h with
      | [], _, _, h => exact bad _ h
      | m1 :: r1, hr, hn, h =>
        simp only at h
        by_cases hm : m1.1 = 3
        · rw [if_pos hm] at h
          match r1, hr, hn, h with
          | [], _, _, h => exact bad _ h
          | m2 :: r2, hr, hn, h =>
            simp only at h
            by_cases hm2 : m2.1 = 3
            · rw [if_pos hm2] at h
              have g1 := (ck_kind (hr m1 List.mem_cons_self)).2.1
              have g2 := (ck_kind (hr m2 (List.mem_cons_of_mem _ List.mem_cons_self))).2.1
              exact go _ r2 _ (elE_of (by decide) (fun _ _ => rfl) (fun _ => hq) (fun a => absurd rfl a) g1 g2 hz) h64 (by simp at hn; omega) (fun u hu => hr u (List.mem_cons_of_mem _ (List.mem_cons_of_mem _ hu))) h
            · rw [if_neg hm2] at h; exact bad _ h
        · rw [if_neg hm] at h; exact bad _ h
    · rw [if_neg h2] at h
      simp only [Prod.mk.injEq] at h
      obtain ⟨_, _, rfl⟩ := h
      exact ⟨fun he => absurd he (by decide), .inr (.inr rfl)⟩
end Go.Proofs.YtcopnpllaoahaaaGreatDoor
namespace Go.Proofs.YtcopnpllaoahaaaGreatDoor
open Go.RowKit
/-- a rule whose only error may be its length -/
def RuGood (r : Ru) : Prop := (0 ≤ r.1 ∧ r.1 ≤ 999999999) ∧ r.2 ≠ [] ∧ r.2.length ≤ 64 ∧ ∀ x ∈ r.2, elE x = 0
theorem errL_ne : ∀ {l : List T9} {j i : Nat} {e : Int}, errL l j = some (i, e) → e ≠ 0 := fun h => errL_some h
theorem ruK_ok {ts : List T9} {r : Ru} {p : Nat} (h : ruK ts = (r, p, 0)) : RuGood r := by
  unfold ruK at h
  rcases he : errL ts 0 with _ | ⟨i, e⟩
  · rw [he] at h
    have hc := errL_none he
    match ts, hc, h with
    | [], _, h =>
      simp only [Prod.mk.injEq] at h
      exact absurd h.2.2 (by decide)
    | [t], _, h =>
      simp only at h
      split at h <;> (simp only [Prod.mk.injEq] at h; exact absurd h.2.2 (by decide))
    | t :: n :: rest, hc, h =>
      simp only at h
      by_cases h1 : t.1 = 1
      · rw [if_pos h1] at h
        by_cases h2 : n.1 = 3
        · rw [if_pos h2] at h
          by_cases h3 : rest = []
          · rw [if_pos h3] at h
            simp only [Prod.mk.injEq] at h
            exact absurd h.2.2 (by decide)
          · rw [if_neg h3] at h
            rcases hk : elsK rest 2 [] with ⟨es, a, e⟩
            rw [hk] at h
            simp only at h
            by_cases h4 : e = 0
            · rw [if_pos h4] at h
              simp only [Prod.mk.injEq] at h
              obtain ⟨rfl, _⟩ := h
              obtain ⟨g1, _⟩ := elsK_ok rest.length rest 2 [] es a e (Nat.le_refl _) (fun u hu => hc u (List.mem_cons_of_mem _ (List.mem_cons_of_mem _ hu))) (fun x hx => by cases hx) (by simp) hk
              obtain ⟨k1, k2, _, k4⟩ := g1 h4
              have hn := (ck_kind (hc n (List.mem_cons_of_mem _ List.mem_cons_self))).2.1
              refine ⟨hn, ?_, k2, k1⟩
              have := k4 h3
              intro e0
              simp only at e0
              rw [e0] at this
              simp at this
            · rw [if_neg h4] at h
              simp only [Prod.mk.injEq] at h
              exact absurd h.2.2 h4
        · rw [if_neg h2] at h
          simp only [Prod.mk.injEq] at h
          exact absurd h.2.2 (by decide)
      · rw [if_neg h1] at h
        simp only [Prod.mk.injEq] at h
        exact absurd h.2.2 (by decide)
  · rw [he] at h
    simp only [Prod.mk.injEq] at h
    exact absurd h.2.2 (errL_ne he)
theorem elsE_ok : ∀ {l : List El} (i : Nat), (∀ x ∈ l, elE x = 0) → elsE l i = none
  | [], _, _ => rfl
  | y :: l, i, h => by
    rw [elsE, if_neg (by rw [h y List.mem_cons_self]; decide)]
    exact elsE_ok (i + 1) fun r hr => h r (List.mem_cons_of_mem _ hr)
theorem ruE_good {r : Ru} (h : RuGood r) : ruE r = (0, 0) ∨ ruE r = (-1, 3) := by
  obtain ⟨h1, h2, h3, h4⟩ := h
  unfold ruE
  rw [if_neg (by omega), if_neg h2, if_neg (by omega), elsE_ok 0 h4]
  simp only
  split
  · exact .inr rfl
  · exact .inl rfl
theorem rusE_good : ∀ {l : List Ru} (i : Nat), (∀ r ∈ l, RuGood r) → rusE l i = none ∨ ∃ j, rusE l i = some (j, -1, 3)
  | [], _, _ => .inl rfl
  | r :: l, i, h => by
    rw [rusE]
    rcases ruE_good (h r List.mem_cons_self) with e | e
    · rw [e, if_neg (fun h => h rfl)]
      exact rusE_good (i + 1) fun r hr => h r (List.mem_cons_of_mem _ hr)
    · rw [e, if_pos (show ((-1 : Int), (3 : Int)).2 ≠ 0 by decide)]
      exact .inr ⟨i, rfl⟩
theorem rdS_good : ∀ (a : List (List Tok)) (i : Nat) (acc l : List Ru) (p : Nat) (q : Int), (∀ r ∈ acc, RuGood r) → acc.length ≤ 64 → rdS a i acc = (l, p, q, 0) → (∀ r ∈ l, RuGood r) ∧ l.length ≤ 64
  | [], _, _, _, _, _, ha, hl, h => by
    simp only [rdS, Prod.mk.injEq] at h
    rw [← h.1]; exact ⟨ha, hl⟩
  | t :: a, i, acc, l, p, q, ha, hl, h => by
    rw [rdS] at h
    by_cases h0 : t = []
    · rw [if_pos h0] at h; exact rdS_good a _ _ _ _ _ ha hl h
    rw [if_neg h0] at h
    by_cases h1 : (ruK (t.map t9)).2.2 ≠ 0
    · rw [if_pos h1] at h
      exfalso
      split at h
      · simp only [Prod.mk.injEq] at h; exact h1 h.2.2.2
      · simp only [Prod.mk.injEq] at h; exact h1 h.2.2.2
    rw [if_neg h1] at h
    by_cases h64 : acc.length = 64
    · rw [if_pos h64] at h
      simp only [Prod.mk.injEq] at h
      exact absurd h.2.2.2 (by decide)
    rw [if_neg h64] at h
    have hg : RuGood (ruK (t.map t9)).1 := by
      refine ruK_ok (ts := t.map t9) (p := (ruK (t.map t9)).2.1) ?_
      rw [← Decidable.not_not.1 h1]
    exact rdS_good a _ _ _ _ _ (fun r hr => by
      rcases List.mem_append.1 hr with hr | hr
      · exact ha r hr
      · rw [List.mem_singleton.1 hr]; exact hg) (by rw [List.length_append]; simp; omega) h
/-- parsed, printed, parsed again -/
theorem again_law {L : List UInt8} {l : List Ru} {p : Nat} {q : Int} (h : psK L = (l, p, q, 0)) : (∃ T m, prA l = (T, 0, 0, 0) ∧ T.length ≤ 4000 ∧ psK T = (m, 0, 0, 0) ∧ rusQ m l = true ∧ prA m = (T, 0, 0, 0)) ∨ ∃ i k, prA l = ([], i, k, 3) := by
  obtain ⟨_, _, _, _, _, hr⟩ := psK_ok h
  obtain ⟨hg, hl⟩ := rdS_good _ _ _ _ _ _ (fun r hr => by cases hr) (by simp) hr
  rcases hp : prA l with ⟨T, i, k, e⟩
  by_cases he : e = 0
  · subst he
    obtain ⟨rfl, rfl, rfl, _, _, h4, m, h5, h6⟩ := parse_print hp
    exact .inl ⟨_, m, rfl, h4, h5, h6, by rw [rusQ_prA h6, hp]⟩
  · refine .inr ⟨i, k, ?_⟩
    have hp2 := hp
    unfold prA at hp2
    rw [if_neg (by omega)] at hp2
    rcases rusE_good 0 hg with h1 | ⟨j, h1⟩
    · rw [h1] at hp2
      simp only at hp2
      by_cases h2 : 4000 < (txR l).length
      · rw [if_pos h2] at hp2
        simp only [Prod.mk.injEq] at hp2
        obtain ⟨rfl, rfl, rfl, rfl⟩ := hp2
        rfl
      · rw [if_neg h2] at hp2
        simp only [Prod.mk.injEq] at hp2
        exact absurd hp2.2.2.2.symm he
    · rw [h1] at hp2
      simp only [Prod.mk.injEq] at hp2
      obtain ⟨rfl, rfl, rfl, rfl⟩ := hp2
      rfl
end Go.Proofs.YtcopnpllaoahaaaGreatDoor
namespace Go.Proofs.YtcopnpllaoahaaaGreatDoor
open Go.RowKit
def exR : Ru := (7, [(1, ⟨#[97, 98]⟩, noK, 0, 0), (4, noB, noK, 0, 3), (3, noB, rgK 120 123, 0, 0)])
theorem sy1 : (psK [114, 117, 108, 101, 32, 55, 32, 34, 97, 98, 34, 32, 103, 97, 112, 32, 48, 32, 51, 32, 91, 120, 45, 122, 93, 10]).2 = (0, 0, 0) := by decide +kernel
theorem sy2 : rusQ (psK [114, 117, 108, 101, 32, 55, 32, 34, 97, 98, 34, 32, 103, 97, 112, 32, 48, 32, 51, 32, 91, 120, 45, 122, 93, 10]).1 [exR] = true := by decide +kernel
theorem sy3 : prA [exR] = ([114, 117, 108, 101, 32, 55, 32, 34, 97, 98, 34, 32, 103, 97, 112, 32, 48, 32, 51, 32, 91, 120, 45, 122, 93, 10], 0, 0, 0) := by decide +kernel
theorem sy4 : (psK [114, 117, 108, 101, 32, 49, 32, 103, 97, 112, 32, 50, 32, 46, 10]).2 = (1, 13, 6) := by decide +kernel
theorem sy5 : (psK [10, 114, 117, 108, 101, 32, 49, 10]).2 = (2, 6, 6) := by decide +kernel
theorem syk0 : (psK [114, 117, 108, 101, 10]).2 = (1, 4, 6) := by decide +kernel
theorem syk1 : (psK [114, 117, 108, 101, 32, 49, 10]).2 = (1, 6, 6) := by decide +kernel
theorem syk2 : (psK [114, 117, 108, 101, 32, 120, 10]).2 = (1, 5, 6) := by decide +kernel
theorem syk3 : (psK [114, 117, 108, 101, 32, 49, 32, 103, 97, 112, 32, 50, 10]).2 = (1, 12, 6) := by decide +kernel
theorem syk4 : (psK [114, 117, 108, 101, 32, 49, 32, 103, 97, 112, 32, 50, 32, 46, 10]).2 = (1, 13, 6) := by decide +kernel
theorem syk5 : (psK [114, 117, 108, 101, 32, 49, 32, 51, 10]).2 = (1, 7, 6) := by decide +kernel
def exK : Ru := (1, [(2, ⟨#[97]⟩, noK, 0, 0), (3, noB, fun _ => true, 0, 0)])
theorem sykG : (psK [10, 114, 117, 108, 101, 32, 49, 32, 105, 34, 97, 34, 32, 46, 10]).2 = (0, 0, 0) := by decide +kernel
theorem sykQ : rusQ (psK [10, 114, 117, 108, 101, 32, 49, 32, 105, 34, 97, 34, 32, 46, 10]).1 [exK] = true := by decide +kernel
end Go.Proofs.YtcopnpllaoahaaaGreatDoor
namespace Go.Proofs.YtcopnpllaoahaaaGreatDoor
open Go.RowKit
theorem range_xz (w : World) : Calls Tryz.prog 25 #[.int .i64 120, .int .i64 122] w fun e w' => e = .returned (.tuple #[stV (rgK 120 123), .int .i64 0]) ∧ Below w.heap.size w w' := rrange_ 120 122 (by decide) (by decide) (by decide) w
abbrev b1Q (a b : Value) : Obj := .cells #[a, b] 42 (0, 0)
/-- what Example gives -/
def ExR (w : World) (e : Ending) (w' : World) : Prop := ∃ g, e = .returned (.agg #[.int .i64 7, .slice (some ⟨g, 0, none⟩) 3 3]) ∧ Below w.heap.size w w' ∧ IsRu w' (7, some ⟨g, 0, none⟩, 3, exR.2)
set_option maxRecDepth 100000 in
set_option maxHeartbeats 4000000 in
theorem example_ (w : World) : Calls Tryz.prog 22 #[] w (ExR w) := by
  have HR := Lib.hid range_xz
  obtain ⟨fr, hfr⟩ : ∃ f, f = rgK 120 123 := ⟨_, rfl⟩
  rw [← hfr] at HR
  have HX := Lib.hid (show els exR.2 = [.int .i64 1, .string ⟨#[97, 98]⟩, .int .u64 0, .int .u64 0, .int .u64 0, .int .u64 0, .int .i64 0, .int .i64 0, .int .i64 4, .string ⟨#[]⟩, .int .u64 0, .int .u64 0, .int .u64 0, .int .u64 0, .int .i64 0, .int .i64 3,
      .int .i64 3, .string ⟨#[]⟩, .int .u64 ((wK fr 0 : Nat) : Int), .int .u64 ((wK fr 1 : Nat) : Int), .int .u64 ((wK fr 2 : Nat) : Int), .int .u64 ((wK fr 3 : Nat) : Int), .int .i64 0, .int .i64 0] by
    rw [hfr]
    unfold exR els elC noB noK
    simp only [List.flatMap_cons, List.flatMap_nil, wK_no]
    rfl)
  clear hfr
  have HF0 := Lib.hid ((Fr.start w).newN (g := w.heap.size) rfl (b1Q (.int .i64 0) (.slice none 0 0)))
  go_enter Tryz.func22, Tryz.ntmps22
  go_wp2_with fail
  (with_reducible refine (HR.out _).mono ?_); rintro e w1 ⟨rfl, hb1⟩
  have hF1 := ((HF0.out.go hb1).al (stO fr)).cons (alloc1_new w1 (stO fr))
  have hne : w1.heap.size ≠ w.heap.size := by have := (HF0.out.go hb1).lt (g := w.heap.size) (o := b1Q (.int .i64 0) (.slice none 0 0)) (by simp); omega
  have HF1 := Lib.hid hF1
  clear hF1 hb1
  go_upto_region 2 with fail
  generalize w1.alloc (stO fr) = W1 at *
  generalize w1.heap.size = g1 at *
  obtain ⟨⟨d0, d1⟩, ⟨f0, f1⟩, hlt⟩ := bx2 (HF1.out.at (g := w.heap.size) (o := b1Q (.int .i64 0) (.slice none 0 0)) (by simp))
  obtain ⟨⟨c0, c1, c2, c3⟩, _⟩ := bx4 (HF1.out.at (g := g1) (o := stO fr) (by simp))
  have hF2 : Fr w [(w.heap.size, b1Q (.int .i64 7) (.slice (some ⟨W1.heap.size, 0, none⟩) 3 3))] ((W1.setCell ⟨w.heap.size, 0, none⟩ (.int .i64 7)).setCell ⟨w.heap.size, 1, none⟩ (.slice (some ⟨W1.heap.size, 0, none⟩) 3 3)) :=
    ((HF1.out.sub (M := [(w.heap.size, b1Q (.int .i64 0) (.slice none 0 0))]) (by simp)).set (Nat.le_refl _) (by simp) 0 (.int .i64 7)).set (Nat.le_refl _) (by simp) 1 (.slice (some ⟨W1.heap.size, 0, none⟩) 3 3)
  have esz : ((W1.setCell ⟨w.heap.size, 0, none⟩ (.int .i64 7)).setCell ⟨w.heap.size, 1, none⟩ (.slice (some ⟨W1.heap.size, 0, none⟩) 3 3)).heap.size = W1.heap.size := by simp
  have hF3 := hF2.al (.cells (els exR.2).toArray 38 (0, 0))
  have hblk : (((W1.setCell ⟨w.heap.size, 0, none⟩ (.int .i64 7)).setCell ⟨w.heap.size, 1, none⟩ (.slice (some ⟨W1.heap.size, 0, none⟩) 3 3)).alloc (.cells (els exR.2).toArray 38 (0, 0))).heap[((W1.setCell ⟨w.heap.size, 0, none⟩ (.int .i64 7)).setCell ⟨w.heap.size, 1, none⟩ (.slice (some ⟨W1.heap.size, 0, none⟩) 3 3)).heap.size]? = some (.cells (els exR.2).toArray 38 (0, 0)) := alloc1_new _ _
  rw [esz] at hblk
  rw [HX.out] at hF3 hblk
  have HF3 := Lib.hid hF3
  have HB3 := Lib.hid hblk
  clear hF2 hF3 hblk esz
  go_wp2
  clear d0 d1 f0 f1 hlt c0 c1 c2 c3
  generalize ((W1.setCell ⟨w.heap.size, 0, none⟩ (.int .i64 7)).setCell ⟨w.heap.size, 1, none⟩ (.slice (some ⟨W1.heap.size, 0, none⟩) 3 3)).alloc (.cells #[.int .i64 1, .string ⟨#[97, 98]⟩, .int .u64 0, .int .u64 0, .int .u64 0, .int .u64 0, .int .i64 0, .int .i64 0, .int .i64 4, .string ⟨#[]⟩, .int .u64 0, .int .u64 0, .int .u64 0, .int .u64 0, .int .i64 0, .int .i64 3, .int .i64 3, .string ⟨#[]⟩, .int .u64 ((wK fr 0 : Nat) : Int), .int .u64 ((wK fr 1 : Nat) : Int), .int .u64 ((wK fr 2 : Nat) : Int), .int .u64 ((wK fr 3 : Nat) : Int), .int .i64 0, .int .i64 0] 38 (0, 0)) = W5 at *
  generalize W1.heap.size = G at *
  obtain ⟨⟨d0, d1⟩, _⟩ := bx2 (HF3.out.at (g := w.heap.size) (o := b1Q (.int .i64 7) (.slice (some ⟨G, 0, none⟩) 3 3)) (by simp))
  refine bodyPost_ret (v := .agg #[.int .i64 7, .slice (some ⟨G, 0, none⟩) 3 3]) (by simp [results, go_sem, d0, d1]) rfl ⟨G, rfl, HF3.out.bel, ?_⟩
  refine ⟨?_, show 3 ≤ 3 by decide, show 3 ≤ 9223372036854775807 by decide⟩
  have hB := HB3.out
  have := reads_blkN (size := 8) (n := 3) (cs := els exR.2) (w := W5) (g := G) (t := 38) (by rw [HX.out]; exact hB) (by rw [els_len]; rfl)
  exact this
end Go.Proofs.YtcopnpllaoahaaaGreatDoor
