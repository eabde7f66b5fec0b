/- TraceSums: what is counted in two traces, one after the other, is the sum. -/
import Derived.Test.YtjccijmnbihpoaaDoorTraceParts
namespace Go.Proofs.YtjccijmnbihpoaaDoor
open Go.RowKit
theorem cntN_app (k : Int) (l m : List Ev) : cntN k (l ++ m) = cntN k l + cntN k m := by unfold cntN; rw [List.countP_append]
theorem cntN_len (k : Int) (l : List Ev) : cntN k l ≤ l.length := List.countP_le_length
theorem cut_left (l m : List Ev) : cutL (l ++ m) 0 (l.length : Int) = l ∧ cutE (l ++ m) 0 (l.length : Int) = 0 := by
  have hb : ¬ cutB (l ++ m) 0 (l.length : Int) := by unfold cutB; rw [List.length_append]; omega
  unfold cutL cutE
  rw [if_neg hb, if_neg hb]
  simp
theorem cut_right (l m : List Ev) : cutL (l ++ m) (l.length : Int) ((l ++ m).length : Int) = m ∧ cutE (l ++ m) (l.length : Int) ((l ++ m).length : Int) = 0 := by
  have hb : ¬ cutB (l ++ m) (l.length : Int) ((l ++ m).length : Int) := by unfold cutB; rw [List.length_append]; omega
  unfold cutL cutE
  rw [if_neg hb, if_neg hb]
  refine ⟨?_, rfl⟩
  rw [List.length_append, show ((l.length : Int)).toNat = l.length by omega, show (((l.length + m.length : Nat)) : Int).toNat - l.length = m.length by omega]
  simp
theorem chk_good {c : Int} : ∀ (i : Nat) (l : List Ev), (chkF c i l).2 = 0 → ∀ x ∈ l, goodE c x = 0
  | _, [], _, x, hx => by cases hx
  | i, y :: r, h, x, hx => by
    rw [chkF] at h
    by_cases e : goodE c y = 0
    · rw [if_pos e] at h
      rcases List.mem_cons.1 hx with rfl | hx
      · exact e
      · exact chk_good (i + 1) r h x hx
    · rw [if_neg e] at h
      exact absurd h e
theorem cnt_good {c : Int} : ∀ (l : List Ev), (∀ x ∈ l, goodE c x = 0) → cntN 1 l + cntN 2 l = l.length
  | [], _ => rfl
  | y :: r, h => by
    have ih := cnt_good r fun x hx => h x (List.mem_cons_of_mem _ hx)
    have hy := h y List.mem_cons_self
    have hk : y.1 = 1 ∨ y.1 = 2 := by
      unfold goodE at hy
      by_cases e : y.1 = 1 ∨ y.1 = 2
      · exact e
      · rw [if_neg e] at hy; omega
    unfold cntN at *
    rw [List.countP_cons, List.countP_cons, List.length_cons]
    rcases hk with e | e <;> simp [e] <;> omega
theorem chk_sum {l : List Ev} {I E : Int} (h : chkT l 65536 = (I, E)) (hl : l.length ≤ 8388608) (e : E = 0) : cntN 1 l + cntN 2 l = l.length := by
  unfold chkT at h
  rw [if_neg (by omega), if_neg (by omega)] at h
  exact cnt_good (c := 65536) l (chk_good 0 l (by rw [h]; exact e))
theorem cnts_at (l : List Ev) (r : List Rg) (k : Nat) (hk : k < r.length + 1) : (cnts l r)[k]? = some ((l.countP fun x => decide (idxR r x.2 = k) : Nat) : Int) := by
  unfold cnts
  rw [List.getElem?_map, List.getElem?_range hk]; rfl
/-- how many lie before the k-th part -/
def bef (l : List Ev) (r : List Rg) (k : Nat) : Nat := l.countP fun x => decide (idxR r x.2 < k)
theorem bef_zero (l : List Ev) (r : List Rg) : bef l r 0 = 0 := by unfold bef; simp
theorem bef_step (l : List Ev) (r : List Rg) (k : Nat) : bef l r (k + 1) = bef l r k + l.countP fun x => decide (idxR r x.2 = k) := by
  unfold bef
  induction l with
  | nil => rfl
  | cons x t ih =>
    rw [List.countP_cons, List.countP_cons, List.countP_cons, ih]
    by_cases h1 : idxR r x.2 < k
    · have h2 : idxR r x.2 ≠ k := by omega
      have h3 : idxR r x.2 < k + 1 := by omega
      simp [h1, h2, h3]; omega
    · by_cases h2 : idxR r x.2 = k
      · have h3 : idxR r x.2 < k + 1 := by omega
        simp [h2]; omega
      · have h3 : ¬ idxR r x.2 < k + 1 := by omega
        simp [h1, h2, h3]
theorem bef_all (l : List Ev) (r : List Rg) : bef l r (r.length + 1) = l.length := by
  unfold bef
  rw [List.countP_eq_length]
  intro x _
  have := idxR_le r x.2
  simp; omega
theorem bef_le (l : List Ev) (r : List Rg) (k : Nat) : bef l r k ≤ l.length := List.countP_le_length
/-- three rows of counts, the third of both traces -/
theorem cnts_sum {l m : List Ev} {r : List Rg} {k : Nat} (hk : k < r.length + 1) : ∃ p q : Nat, (cnts l r)[k]? = some (p : Int) ∧ (cnts m r)[k]? = some (q : Int) ∧ (cnts (l ++ m) r)[k]? = some ((p : Int) + (q : Int)) ∧ bef (l ++ m) r (k + 1) = bef (l ++ m) r k + (p + q) ∧ p + q ≤ (l ++ m).length := by
  refine ⟨_, _, cnts_at l r k hk, cnts_at m r k hk, ?_, ?_, ?_⟩
  · rw [cnts_at (l ++ m) r k hk, List.countP_append]; simp
  · rw [bef_step, List.countP_append]
  · rw [← List.countP_append]; exact List.countP_le_length
def sumK (b : List Ev) (k : Nat) : Int := if k = 0 then 0 else if k = 1 then (cntN 1 b : Int) else (cntN 1 b : Int) + (cntN 2 b : Int)
theorem intsC {w : World} {B k : Nat} {b off : Nat} {n : Nat} {l : List Int} {x : Int} (h : Reads w B 1 (some ⟨b, off, none⟩) n (ints l)) (hx : l[k]? = some x) (hn : n = l.length) : w.cell? ⟨b, off + k, none⟩ = some (.int .i64 x) := by
  have hk : k < l.length := by
    rcases Nat.lt_or_ge k l.length with h1 | h1
    · exact h1
    · rw [List.getElem?_eq_none h1] at hx; cases hx
  obtain ⟨b', off', e, _, hc⟩ := h.2 (by omega)
  cases e
  exact hc k _ (by rw [List.getElem?_map, hx]; rfl)
set_option maxRecDepth 100000 in
set_option maxHeartbeats 8000000 in
theorem traceSums_walk (w : World) (A : Option Addr) (c : Nat) (l : List Ev) (h : Reads w w.heap.size 2 A l.length (evs l)) (ho : Ok32 l) (_ : l.length ≤ c ∧ c ≤ 9223372036854775807) (A' : Option Addr) (c' : Nat) (m : List Ev) (h' : Reads w w.heap.size 2 A' m.length (evs m)) (ho' : Ok32 m) (_ : m.length ≤ c' ∧ c' ≤ 9223372036854775807)
    (A'' : Option Addr) (c'' : Nat) (r : List Rg) (h'' : Reads w w.heap.size 3 A'' r.length (rgs r)) (_ : r.length ≤ c'' ∧ c'' ≤ 9223372036854775807) (hP : Pow w) :
    Calls Tryd.prog 7 #[.slice A l.length c, .slice A' m.length c', .slice A'' r.length c''] w fun e w' => e = .returned (.bool true) ∧ Below w.heap.size w w' := by
  obtain ⟨va, hva⟩ : ∃ v, Hid (v = decide (400 < l.length ∧ l.length ≤ 5000 ∨ 5100 < l.length)) := ⟨_, Lib.hid rfl⟩
  obtain ⟨vb, hvb⟩ : ∃ v, Hid (v = decide (400 < m.length ∧ m.length ≤ 5000 ∨ 5100 < m.length)) := ⟨_, Lib.hid rfl⟩
  have HP := Lib.hid hP
  have HR := Lib.hid h
  have HR' := Lib.hid h'
  have HG := Lib.hid h''
  have Ho := Lib.hid ho
  have Ho' := Lib.hid ho'
  have HF0 := Lib.hid (Fr.start w)
  clear hP h h' h'' ho ho'
  rcases va with _ | _
  · rcases vb with _ | _
    · have hl := Lib.hid (far_no hva)
      have hm := Lib.hid (far_no hvb)
      by_cases h70 : 70 < r.length
      · have hi : (70 : Int) < (r.length : Int) := by omega
        go_enter Tryd.func7, Tryd.ntmps7
        go_wp2_with fail
        (with_reducible refine (far_ _ A c _ _ hva).mono ?_); rintro e w1 ⟨rfl, hw1⟩; subst w1
        go_wp2_with fail
        (with_reducible refine (far_ _ A' c' _ _ hvb).mono ?_); rintro e w1 ⟨rfl, hw1⟩; subst w1
        go_wp2_with fail
        (with_reducible refine (awake_ _ (by exact HP.out.below HF0.out.bel)).mono ?_); rintro e wz ⟨rfl, hbz⟩
        have hB := (HF0.out.go hbz).bel
        go_wp2
        go_ret
        exact ⟨rfl, hB⟩
      · have hi : ¬ ((70 : Int) < (r.length : Int)) := by omega
        have hr := Lib.hid h70
        obtain ⟨E, hE0⟩ := PtE.any r
        have hE := Lib.hid hE0
        obtain ⟨b, hb⟩ : ∃ b, Hid (b = l ++ m) := ⟨_, Lib.hid rfl⟩
        have hbl : Hid (b.length = l.length + m.length) := Lib.hid (by rw [hb.out, List.length_append])
        have hbs : Hid (b.length ≤ 10200) := Lib.hid (by have := hl.out; have := hm.out; have := hbl.out; omega)
        have Hob : Hid (Ok32 b) := Lib.hid (by rw [hb.out]; intro x hx; rcases List.mem_append.1 hx with hx | hx; exact Ho.out x hx; exact Ho'.out x hx)
        have hq1 : Hid (cutL b 0 (l.length : Int) = l ∧ cutE b 0 (l.length : Int) = 0) := Lib.hid (by rw [hb.out]; exact cut_left l m)
        have hq2 : Hid (cutL b (l.length : Int) (b.length : Int) = m ∧ cutE b (l.length : Int) (b.length : Int) = 0) := Lib.hid (by rw [hb.out]; exact cut_right l m)
        obtain ⟨a1, ha1⟩ : ∃ a : Nat, Hid (a = cntN 1 l) := ⟨_, Lib.hid rfl⟩
        obtain ⟨a2, ha2⟩ : ∃ a : Nat, Hid (a = cntN 2 l) := ⟨_, Lib.hid rfl⟩
        obtain ⟨b1, hb1⟩ : ∃ a : Nat, Hid (a = cntN 1 m) := ⟨_, Lib.hid rfl⟩
        obtain ⟨b2, hb2⟩ : ∃ a : Nat, Hid (a = cntN 2 m) := ⟨_, Lib.hid rfl⟩
        have ta1 : Hid (cntT l 1 = ((a1 : Int), 0)) := Lib.hid (by rw [ha1.out]; rfl)
        have ta2 : Hid (cntT l 2 = ((a2 : Int), 0)) := Lib.hid (by rw [ha2.out]; rfl)
        have tb1 : Hid (cntT m 1 = ((b1 : Int), 0)) := Lib.hid (by rw [hb1.out]; rfl)
        have tb2 : Hid (cntT m 2 = ((b2 : Int), 0)) := Lib.hid (by rw [hb2.out]; rfl)
        have tc1 : Hid (cntT b 1 = ((a1 : Int) + (b1 : Int), 0)) := Lib.hid (by
          have e : cntN 1 b = a1 + b1 := by rw [ha1.out, hb1.out, hb.out, cntN_app]
          have : cntT b 1 = ((cntN 1 b : Int), 0) := rfl
          rw [this, e]; rfl)
        have tc2 : Hid (cntT b 2 = ((a2 : Int) + (b2 : Int), 0)) := Lib.hid (by
          have e : cntN 2 b = a2 + b2 := by rw [ha2.out, hb2.out, hb.out, cntN_app]
          have : cntT b 2 = ((cntN 2 b : Int), 0) := rfl
          rw [this, e]; rfl)
        have la1 : a1 ≤ 5100 := by rw [ha1.out]; have := cntN_len 1 l; have := hl.out; omega
        have la2 : a2 ≤ 5100 := by rw [ha2.out]; have := cntN_len 2 l; have := hl.out; omega
        have lb1 : b1 ≤ 5100 := by rw [hb1.out]; have := cntN_len 1 m; have := hm.out; omega
        have lb2 : b2 ≤ 5100 := by rw [hb2.out]; have := cntN_len 2 m; have := hm.out; omega
        have hsum : Hid (∀ I E : Int, chkT b 65536 = (I, E) → E = 0 → a1 + b1 + (a2 + b2) = b.length) := Lib.hid (by
          intro I E h e
          have := chk_sum h (by have := hbs.out; omega) e
          rw [hb.out, cntN_app, cntN_app, ← ha1.out, ← ha2.out, ← hb1.out, ← hb2.out] at this
          rw [hb.out]; exact this)
        obtain ⟨I1, E1, hI⟩ : ∃ I E, Hid (chkT b 65536 = (I, E)) := ⟨_, _, Lib.hid rfl⟩
        obtain ⟨Pl, hPl⟩ : ∃ M, Hid (ptL l r E = M) := ⟨_, Lib.hid rfl⟩
        obtain ⟨Ql, hQl⟩ : ∃ M, Hid (ptL m r E = M) := ⟨_, Lib.hid rfl⟩
        obtain ⟨Sl, hSl⟩ : ∃ M, Hid (ptL b r E = M) := ⟨_, Lib.hid rfl⟩
        have lPl : Hid (E = 0 → Pl = cnts l r) := Lib.hid (by intro e; rw [← hPl.out]; exact if_pos e)
        have lQl : Hid (E = 0 → Ql = cnts m r) := Lib.hid (by intro e; rw [← hQl.out]; exact if_pos e)
        have lSl : Hid (E = 0 → Sl = cnts (l ++ m) r) := Lib.hid (by intro e; rw [← hSl.out, ← hb.out]; exact if_pos e)
        clear hE0 ha1 ha2 hb1 hb2
        have Hrd := Lib.hid (HR.out.al (.cells #[] 37))
        have hown := own_empty w 37 2
        go_enter Tryd.func7, Tryd.ntmps7
        go_wp2_with fail
        (with_reducible refine (far_ _ A c _ _ hva).mono ?_); rintro e w1 ⟨rfl, hw1⟩; subst w1
        go_wp2_with fail
        (with_reducible refine (far_ _ A' c' _ _ hvb).mono ?_); rintro e w1 ⟨rfl, hw1⟩; subst w1
        go_wp2_with (at_builtin; refine wpList_apr evEl (w0 := w) hown (ba (Below.refl _ _) _) (by exact Hrd.out) (evs_one l) ?_ (hbytes := by have := hl.out; omega) (h63 := by have := hl.out; omega))
        intro v1 w1 hO1 hb1 hg1
        try simp only [Nat.zero_add, List.nil_append] at hO1
        have Hrd2 := Lib.hid (HR'.out.go hb1)
        clear hown hg1 Hrd
        go_wp2_with (at_builtin; refine wpList_apr evEl (w0 := w) hO1 hb1 (by exact Hrd2.out) (evs_one m) ?_ (hbytes := by have := hl.out; have := hm.out; omega) (h63 := by have := hl.out; have := hm.out; omega))
        intro v2 w2 hO2 hb2 hg2
        obtain ⟨B1, cb, rfl, hrb, hcb, _⟩ := own_sl hO2
        have eb : evs l ++ evs m = evs b := by rw [hb.out]; exact (flat2_append l m).symm
        rw [eb, ← hbl.out] at hrb
        rw [← hbl.out] at hcb
        rw [← hbl.out]
        have HB := Lib.hid hrb
        have Hcb := Lib.hid hcb
        have HF2 := Lib.hid ((Fr.nil hb2 : Fr w [] w2))
        clear hO1 hO2 hb1 hb2 hg2 Hrd2 eb hrb hcb HF0
        go_wp2_with fail
        (with_reducible refine (cut_ _ B1 cb b HB.out Hcb.out (by have := hbs.out; omega) 0 (l.length : Int)).mono ?_); rintro e w3 ⟨A1, k1, rfl, hb3, hr3, hca3, hcb3⟩
        have HF3 := Lib.hid (HF2.out.go hb3)
        have HB3 := Lib.hid (HB.out.go hb3)
        clear hb3 HF2 HB
        rw [hq1.out.1] at hr3
        rw [hq1.out.1, hq1.out.2]
        have HX := Lib.hid hr3
        clear hr3 hca3 hcb3
        go_wp2_with fail
        (with_reducible refine (cut_ _ B1 cb b HB3.out Hcb.out (by have := hbs.out; omega) (l.length : Int) (b.length : Int)).mono ?_); rintro e w4 ⟨A2, k2, rfl, hb4, hr4, hca4, hcb4⟩
        have HF4 := Lib.hid (HF3.out.go hb4)
        have HB4 := Lib.hid (HB3.out.go hb4)
        have HX4 := Lib.hid (HX.out.go hb4)
        clear HX
        clear hb4 HF3 HB3
        rw [hq2.out.1] at hr4
        rw [hq2.out.1, hq2.out.2]
        have HY := Lib.hid hr4
        clear hr4 hca4 hcb4
        go_wp2_with fail
        (with_reducible refine (same_any _ _ _ A1 A k1 c l l HX4.out (HR.out.go HF4.out.bel) (by have := hl.out; omega)).mono ?_); rintro e w5 ⟨rfl, hb5⟩
        have HF5 := Lib.hid (HF4.out.go hb5)
        have HB5 := Lib.hid (HB4.out.go hb5)
        have HY5 := Lib.hid (HY.out.go hb5)
        clear HY HX4
        clear hb5 HF4 HB4
        rw [decide_eq_true (rfl : l = l)]
        go_wp2_with fail
        (with_reducible refine (same_any _ _ _ A2 A' k2 c' m m HY5.out (HR'.out.go HF5.out.bel) (by have := hm.out; omega)).mono ?_); rintro e w6 ⟨rfl, hb6⟩
        have HF6 := Lib.hid (HF5.out.go hb6)
        have HB6 := Lib.hid (HB5.out.go hb6)
        clear HY5
        clear hb6 HF5 HB5
        rw [decide_eq_true (rfl : m = m)]
        go_wp2
        go_loopw [13, 12] (fun i s wr => ((i = .int .i64 1 ∧ s = .int .i64 0) ∨ (i = .int .i64 2 ∧ s = .int .i64 ((a1 : Int) + (b1 : Int))) ∨ (i = .int .i64 3 ∧ s = .int .i64 ((a1 : Int) + (b1 : Int) + ((a2 : Int) + (b2 : Int))))) ∧ Below w6.heap.size w6 wr) (fun i _ _ => 3 - (intOf i).toNat)
        case atStart => exact ⟨.inl ⟨rfl, rfl⟩, Below.refl _ _⟩
        case round =>
          obtain ⟨hrel, hbw⟩ := hrel
          have HFr := Lib.hid (HF6.out.go hbw)
          have HBr := Lib.hid (HB6.out.go hbw)
          have Hbw := Lib.hid hbw
          clear hbw HF6 HB6
          rcases hrel with ⟨rfl, rfl⟩ | ⟨rfl, rfl⟩ | ⟨rfl, rfl⟩
          · go_wp2_with fail
            (with_reducible refine (count_ _ A c l (HR.out.go HFr.out.bel) Ho.out (by have := hl.out; omega) 1).mono ?_); rintro e v1 ⟨rfl, hv1⟩
            have G1 := Lib.hid (HFr.out.go hv1)
            have N1 := Lib.hid (HBr.out.go hv1)
            have M1 := Lib.hid (bt Hbw.out hv1)
            clear hv1 HFr HBr Hbw
            rw [ta1.out]
            go_wp2_with fail
            (with_reducible refine (count_ _ A' c' m (HR'.out.go G1.out.bel) Ho'.out (by have := hm.out; omega) 1).mono ?_); rintro e v2 ⟨rfl, hv2⟩
            have G2 := Lib.hid (G1.out.go hv2)
            have N2 := Lib.hid (N1.out.go hv2)
            have M2 := Lib.hid (bt M1.out hv2)
            clear hv2 G1 N1 M1
            rw [tb1.out]
            go_wp2_with fail
            (with_reducible refine (count_ _ B1 cb b (N2.out) Hob.out (by have := hbs.out; omega) 1).mono ?_); rintro e v3 ⟨rfl, hv3⟩
            have M3 := Lib.hid (bt M2.out hv3)
            clear hv3 G2 N2 M2
            rw [tc1.out]
            go_wp2
            go_roundw
            case rel =>
              go_light
              exact ⟨.inr (.inl ⟨by go_num, by simp⟩), M3.out⟩
            case measure => simp [intOf]
          · go_wp2_with fail
            (with_reducible refine (count_ _ A c l (HR.out.go HFr.out.bel) Ho.out (by have := hl.out; omega) 2).mono ?_); rintro e v1 ⟨rfl, hv1⟩
            have G1 := Lib.hid (HFr.out.go hv1)
            have N1 := Lib.hid (HBr.out.go hv1)
            have M1 := Lib.hid (bt Hbw.out hv1)
            clear hv1 HFr HBr Hbw
            rw [ta2.out]
            go_wp2_with fail
            (with_reducible refine (count_ _ A' c' m (HR'.out.go G1.out.bel) Ho'.out (by have := hm.out; omega) 2).mono ?_); rintro e v2 ⟨rfl, hv2⟩
            have G2 := Lib.hid (G1.out.go hv2)
            have N2 := Lib.hid (N1.out.go hv2)
            have M2 := Lib.hid (bt M1.out hv2)
            clear hv2 G1 N1 M1
            rw [tb2.out]
            go_wp2_with fail
            (with_reducible refine (count_ _ B1 cb b (N2.out) Hob.out (by have := hbs.out; omega) 2).mono ?_); rintro e v3 ⟨rfl, hv3⟩
            have M3 := Lib.hid (bt M2.out hv3)
            clear hv3 G2 N2 M2
            rw [tc2.out]
            go_wp2
            go_roundw
            case rel =>
              go_light
              exact ⟨.inr (.inr ⟨by go_num, by simp⟩), M3.out⟩
            case measure => simp [intOf]
          · go_wp2_with fail
            (with_reducible refine (check_ _ B1 cb b HBr.out Hob.out (by have := hbs.out; omega) 65536).mono ?_); rintro e x1 ⟨rfl, hv1⟩
            have G1 := Lib.hid (HFr.out.go hv1)
            have N1 := Lib.hid (HBr.out.go hv1)
            clear hv1 HFr HBr Hbw
            rw [hI.out]
            by_cases hz : E1 = 0
            · subst hz
              have hs : (((a1 : Int) + (b1 : Int) + ((a2 : Int) + (b2 : Int))) != (b.length : Int)) = false := by
                have := hsum.out I1 0 hI.out rfl
                rw [bne_eq_false_iff_eq]
                omega
              have hp1 := parts_ x1 A A'' c c'' l r (HR.out.go G1.out.bel) Ho.out (by have := hl.out; omega) (HG.out.go G1.out.bel) (by have := hr.out; omega) E hE.out
              rw [hPl.out] at hp1
              have Hp1 := Lib.hid hp1
              clear hp1
              go_wp2_with fail
              (with_reducible refine (Hp1.out).mono ?_); rintro e x2 ⟨A3, k3, rfl, hv2, hr2, _, _⟩
              have G2 := Lib.hid (G1.out.go hv2)
              have N2 := Lib.hid (N1.out.go hv2)
              have P2 := Lib.hid hr2
              clear hv2 hr2 G1 N1 Hp1
              have hp1 := parts_ x2 A' A'' c' c'' m r (HR'.out.go G2.out.bel) Ho'.out (by have := hm.out; omega) (HG.out.go G2.out.bel) (by have := hr.out; omega) E hE.out
              rw [hQl.out] at hp1
              have Hp1 := Lib.hid hp1
              clear hp1
              go_wp2_with fail
              (with_reducible refine (Hp1.out).mono ?_); rintro e x3 ⟨A4, k4, rfl, hv3, hr3, _, _⟩
              have G3 := Lib.hid (G2.out.go hv3)
              have N3 := Lib.hid (N2.out.go hv3)
              have P3 := Lib.hid (P2.out.go hv3)
              have Q3 := Lib.hid hr3
              clear hv3 hr3 G2 N2 P2 Hp1
              have hp1 := parts_ x3 B1 A'' cb c'' b r N3.out Hob.out (by have := hbs.out; omega) (HG.out.go G3.out.bel) (by have := hr.out; omega) E hE.out
              rw [hSl.out] at hp1
              have Hp1 := Lib.hid hp1
              clear hp1
              go_wp2_with fail
              (with_reducible refine (Hp1.out).mono ?_); rintro e x4 ⟨A5, k5, rfl, hv4, hr4, _, _⟩
              have G4 := Lib.hid (G3.out.go hv4)
              have P4 := Lib.hid (P3.out.go hv4)
              have Q4 := Lib.hid (Q3.out.go hv4)
              have S4 := Lib.hid hr4
              clear hv4 hr4 G3 N3 P3 Q3 Hp1
              by_cases hE0 : E = 0
              · have yP := lPl.out hE0
                have yQ := lQl.out hE0
                have yS := lSl.out hE0
                have zP : Pl.length = r.length + 1 := by rw [yP, cnts_len]
                have zQ : Ql.length = r.length + 1 := by rw [yQ, cnts_len]
                have zS : Sl.length = r.length + 1 := by rw [yS, cnts_len]
                obtain ⟨n, hn⟩ : ∃ n, n = r.length + 1 := ⟨_, rfl⟩
                have hn71 : n ≤ 71 := by have := hr.out; omega
                obtain ⟨g3, o3, rfl, hg3, _⟩ := P4.out.2 (by omega)
                obtain ⟨g4, o4, rfl, hg4, _⟩ := Q4.out.2 (by omega)
                obtain ⟨g5, o5, rfl, hg5, _⟩ := S4.out.2 (by omega)
                rw [← hn] at zP zQ zS
                have u1 : ((n : Int) != (r.length : Int) + 1) = false := by rw [bne_eq_false_iff_eq]; omega
                have YP := Lib.hid yP
                have YQ := Lib.hid yQ
                have YS := Lib.hid yS
                have ZP := Lib.hid zP
                have ZQ := Lib.hid zQ
                have ZS := Lib.hid zS
                have HN := Lib.hid hn
                subst hE0
                rw [ZP.out, ZQ.out, ZS.out]
                clear yP yQ yS zP zQ zS hn
                go_wp2
                go_loopw [25, 24] (fun i s wr => ∃ k t : Nat, k ≤ n ∧ i = .int .i64 k ∧ s = .int .i64 t ∧ Hid (t = bef b r k) ∧ Below x4.heap.size x4 wr ∧ (∀ p, wr.cell? p = x4.cell? p)) (fun i _ _ => n - (intOf i).toNat)
                case atStart => exact ⟨0, 0, Nat.zero_le _, rfl, rfl, Lib.hid (bef_zero b r).symm, Below.refl _ _, fun _ => rfl⟩
                case round =>
                  obtain ⟨k, t, hk, rfl, rfl, ht, hbw, hsame⟩ := hrel
                  by_cases hlt : k < n
                  · obtain ⟨p, q, e1, e2, e3, e4, e5⟩ := @cnts_sum l m r k (by rw [← HN.out]; exact hlt)
                    rw [← YP.out] at e1
                    rw [← YQ.out] at e2
                    rw [← YS.out] at e3
                    have c1 := (hsame ⟨g3, o3 + k, none⟩).trans (intsC P4.out e1 rfl)
                    have c2 := (hsame ⟨g4, o4 + k, none⟩).trans (intsC Q4.out e2 rfl)
                    have c3 := (hsame ⟨g5, o5 + k, none⟩).trans (intsC S4.out e3 rfl)
                    have Ht : Hid (t + (p + q) = bef b r (k + 1)) := Lib.hid (by rw [hb.out, e4, ht.out, hb.out])
                    have t1 : t ≤ 10200 := by rw [ht.out]; have := bef_le b r k; have := hbs.out; omega
                    have p1 : p ≤ 10200 := by rw [← hb.out] at e5; have := hbs.out; omega
                    have q1 : q ≤ 10200 := by rw [← hb.out] at e5; have := hbs.out; omega
                    have hi0 : (0 : Int) ≤ (k : Int) := by omega
                    have hi1 : (k : Int) < (n : Int) := by omega
                    have Hs := Lib.hid hsame
                    have Hbw := Lib.hid hbw
                    clear e1 e2 e3 e4 e5 hsame hbw
                    go_wp2
                    go_quiet (fail)
                    go_wp2
                    all_goals
                      go_roundw
                      case rel =>
                        go_light
                        exact ⟨k + 1, t + (p + q), by omega, by go_num, by first | go_num | (simp; done) | (congr 1; omega), Ht, Go.RowKit.Below.trans Hbw.out (drewN_below _ _), fun p => Hs.out p⟩
                      case measure => simp [intOf]; omega
                  · obtain rfl : k = n := by omega
                    have ht' : t = b.length := by rw [ht.out, HN.out]; exact bef_all b r
                    have Hfin := Lib.hid (G4.out.go hbw)
                    have v1 : ((t : Int) == (b.length : Int)) = true := by rw [beq_iff_eq]; omega
                    clear hsame hbw ht'
                    go_wp2_with fail
                    (with_reducible refine (awake_ _ (by exact HP.out.below Hfin.out.bel)).mono ?_); rintro e wz ⟨rfl, hbz⟩
                    have hB := (Hfin.out.go hbz).bel
                    go_wp2
                    go_ret
                    exact ⟨rfl, hB⟩
              · have hE1 : (E != 0) = true := by simpa using hE0
                clear hE0
                go_wp2_with fail
                (with_reducible refine (awake_ _ (by exact HP.out.below G4.out.bel)).mono ?_); rintro e wz ⟨rfl, hbz⟩
                have hB := (G4.out.go hbz).bel
                go_wp2
                go_ret
                exact ⟨rfl, hB⟩
            · have hz' : (E1 == 0) = false := by simpa using hz
              have hp1 := parts_ x1 A A'' c c'' l r (HR.out.go G1.out.bel) Ho.out (by have := hl.out; omega) (HG.out.go G1.out.bel) (by have := hr.out; omega) E hE.out
              rw [hPl.out] at hp1
              have Hp1 := Lib.hid hp1
              clear hp1
              go_wp2_with fail
              (with_reducible refine (Hp1.out).mono ?_); rintro e x2 ⟨A3, k3, rfl, hv2, hr2, _, _⟩
              have G2 := Lib.hid (G1.out.go hv2)
              have N2 := Lib.hid (N1.out.go hv2)
              have P2 := Lib.hid hr2
              clear hv2 hr2 G1 N1 Hp1
              have hp1 := parts_ x2 A' A'' c' c'' m r (HR'.out.go G2.out.bel) Ho'.out (by have := hm.out; omega) (HG.out.go G2.out.bel) (by have := hr.out; omega) E hE.out
              rw [hQl.out] at hp1
              have Hp1 := Lib.hid hp1
              clear hp1
              go_wp2_with fail
              (with_reducible refine (Hp1.out).mono ?_); rintro e x3 ⟨A4, k4, rfl, hv3, hr3, _, _⟩
              have G3 := Lib.hid (G2.out.go hv3)
              have N3 := Lib.hid (N2.out.go hv3)
              have P3 := Lib.hid (P2.out.go hv3)
              have Q3 := Lib.hid hr3
              clear hv3 hr3 G2 N2 P2 Hp1
              have hp1 := parts_ x3 B1 A'' cb c'' b r N3.out Hob.out (by have := hbs.out; omega) (HG.out.go G3.out.bel) (by have := hr.out; omega) E hE.out
              rw [hSl.out] at hp1
              have Hp1 := Lib.hid hp1
              clear hp1
              go_wp2_with fail
              (with_reducible refine (Hp1.out).mono ?_); rintro e x4 ⟨A5, k5, rfl, hv4, hr4, _, _⟩
              have G4 := Lib.hid (G3.out.go hv4)
              have P4 := Lib.hid (P3.out.go hv4)
              have Q4 := Lib.hid (Q3.out.go hv4)
              have S4 := Lib.hid hr4
              clear hv4 hr4 G3 N3 P3 Q3 Hp1
              by_cases hE0 : E = 0
              · have yP := lPl.out hE0
                have yQ := lQl.out hE0
                have yS := lSl.out hE0
                have zP : Pl.length = r.length + 1 := by rw [yP, cnts_len]
                have zQ : Ql.length = r.length + 1 := by rw [yQ, cnts_len]
                have zS : Sl.length = r.length + 1 := by rw [yS, cnts_len]
                obtain ⟨n, hn⟩ : ∃ n, n = r.length + 1 := ⟨_, rfl⟩
                have hn71 : n ≤ 71 := by have := hr.out; omega
                obtain ⟨g3, o3, rfl, hg3, _⟩ := P4.out.2 (by omega)
                obtain ⟨g4, o4, rfl, hg4, _⟩ := Q4.out.2 (by omega)
                obtain ⟨g5, o5, rfl, hg5, _⟩ := S4.out.2 (by omega)
                rw [← hn] at zP zQ zS
                have u1 : ((n : Int) != (r.length : Int) + 1) = false := by rw [bne_eq_false_iff_eq]; omega
                have YP := Lib.hid yP
                have YQ := Lib.hid yQ
                have YS := Lib.hid yS
                have ZP := Lib.hid zP
                have ZQ := Lib.hid zQ
                have ZS := Lib.hid zS
                have HN := Lib.hid hn
                subst hE0
                rw [ZP.out, ZQ.out, ZS.out]
                clear yP yQ yS zP zQ zS hn
                go_wp2
                go_loopw [25, 24] (fun i s wr => ∃ k t : Nat, k ≤ n ∧ i = .int .i64 k ∧ s = .int .i64 t ∧ Hid (t = bef b r k) ∧ Below x4.heap.size x4 wr ∧ (∀ p, wr.cell? p = x4.cell? p)) (fun i _ _ => n - (intOf i).toNat)
                case atStart => exact ⟨0, 0, Nat.zero_le _, rfl, rfl, Lib.hid (bef_zero b r).symm, Below.refl _ _, fun _ => rfl⟩
                case round =>
                  obtain ⟨k, t, hk, rfl, rfl, ht, hbw, hsame⟩ := hrel
                  by_cases hlt : k < n
                  · obtain ⟨p, q, e1, e2, e3, e4, e5⟩ := @cnts_sum l m r k (by rw [← HN.out]; exact hlt)
                    rw [← YP.out] at e1
                    rw [← YQ.out] at e2
                    rw [← YS.out] at e3
                    have c1 := (hsame ⟨g3, o3 + k, none⟩).trans (intsC P4.out e1 rfl)
                    have c2 := (hsame ⟨g4, o4 + k, none⟩).trans (intsC Q4.out e2 rfl)
                    have c3 := (hsame ⟨g5, o5 + k, none⟩).trans (intsC S4.out e3 rfl)
                    have Ht : Hid (t + (p + q) = bef b r (k + 1)) := Lib.hid (by rw [hb.out, e4, ht.out, hb.out])
                    have t1 : t ≤ 10200 := by rw [ht.out]; have := bef_le b r k; have := hbs.out; omega
                    have p1 : p ≤ 10200 := by rw [← hb.out] at e5; have := hbs.out; omega
                    have q1 : q ≤ 10200 := by rw [← hb.out] at e5; have := hbs.out; omega
                    have hi0 : (0 : Int) ≤ (k : Int) := by omega
                    have hi1 : (k : Int) < (n : Int) := by omega
                    have Hs := Lib.hid hsame
                    have Hbw := Lib.hid hbw
                    clear e1 e2 e3 e4 e5 hsame hbw
                    go_wp2
                    go_quiet (fail)
                    go_wp2
                    all_goals
                      go_roundw
                      case rel =>
                        go_light
                        exact ⟨k + 1, t + (p + q), by omega, by go_num, by first | go_num | (simp; done) | (congr 1; omega), Ht, Go.RowKit.Below.trans Hbw.out (drewN_below _ _), fun p => Hs.out p⟩
                      case measure => simp [intOf]; omega
                  · obtain rfl : k = n := by omega
                    have ht' : t = b.length := by rw [ht.out, HN.out]; exact bef_all b r
                    have Hfin := Lib.hid (G4.out.go hbw)
                    have v1 : ((t : Int) == (b.length : Int)) = true := by rw [beq_iff_eq]; omega
                    clear hsame hbw ht'
                    go_wp2_with fail
                    (with_reducible refine (awake_ _ (by exact HP.out.below Hfin.out.bel)).mono ?_); rintro e wz ⟨rfl, hbz⟩
                    have hB := (Hfin.out.go hbz).bel
                    go_wp2
                    go_ret
                    exact ⟨rfl, hB⟩
              · have hE1 : (E != 0) = true := by simpa using hE0
                clear hE0
                go_wp2_with fail
                (with_reducible refine (awake_ _ (by exact HP.out.below G4.out.bel)).mono ?_); rintro e wz ⟨rfl, hbz⟩
                have hB := (G4.out.go hbz).bel
                go_wp2
                go_ret
                exact ⟨rfl, hB⟩
    · go_enter Tryd.func7, Tryd.ntmps7
      go_wp2_with fail
      (with_reducible refine (far_ _ A c _ _ hva).mono ?_); rintro e w1 ⟨rfl, hw1⟩; subst w1
      go_wp2_with fail
      (with_reducible refine (far_ _ A' c' _ _ hvb).mono ?_); rintro e w1 ⟨rfl, hw1⟩; subst w1
      go_wp2_with fail
      (with_reducible refine (awake_ _ (by exact HP.out.below HF0.out.bel)).mono ?_); rintro e wz ⟨rfl, hbz⟩
      have hB := (HF0.out.go hbz).bel
      go_wp2
      go_ret
      exact ⟨rfl, hB⟩
  · go_enter Tryd.func7, Tryd.ntmps7
    go_wp2_with fail
    (with_reducible refine (far_ _ A c _ _ hva).mono ?_); rintro e w1 ⟨rfl, hw1⟩; subst w1
    go_wp2_with fail
    (with_reducible refine (awake_ _ (by exact HP.out.below HF0.out.bel)).mono ?_); rintro e wz ⟨rfl, hbz⟩
    have hB := (HF0.out.go hbz).bel
    go_wp2
    go_ret
    exact ⟨rfl, hB⟩
end Go.Proofs.YtjccijmnbihpoaaDoor
