/- ConfigGrows: for every two configurations and shapes the law returns true. No condition. -/
import Derived.Test.YtjdbnfejidaeoaaDoorC11
namespace Go.Proofs.YtjdbnfejidaeoaaDoor
open Go.RowKit
@[go_sem] theorem eqgCs : Tryd.prog.eqGuardType Tryd.prog.depth 25 = false := by kernel_rfl
@[go_sem] theorem eqCs (a b c d : Int) (w : World) : (Op.equalIn 10000 25 (.agg #[.int .i64 a, .int .i64 b]) (.agg #[.int .i64 c, .int .i64 d])).run Tryd.prog w = .ok (decide (((a, b) : Int × Int) = (c, d))) w := by
  have u3 := Tryd.underlying3
  have hS : Tryd.prog.underlying 25 = some (.struct (Tryd.prog.fieldsOf 25)) := by kernel_rfl
  rw [show (10000 : Nat) = 9999 + 1 from rfl, run_equalIn_agg w 9999 25 _ _ hS (by kernel_rfl)]
  simp only [Program.fieldsOf, Tryd.underlying25]
  go_simp
  by_cases h1 : a = c <;> by_cases h2 : b = d <;> simp [h1, h2]
@[go_sem high] theorem eqlCs (a b c d : Int) (w : World) : (binOp .eql 25 (.agg #[.int .i64 a, .int .i64 b]) (.agg #[.int .i64 c, .int .i64 d])).run Tryd.prog w = .ok (.bool (decide (((a, b) : Int × Int) = (c, d)))) w := by
  rw [run_eql_struct, eqCs]; rfl
/-! plain: what grows -/
theorem lay_at (s r n s' r' n' : Int) (j : Nat) (nm nm' : ByteArray) (B S B' S' : Int) (hd : Hid ((lay s r n).drop j = (nm, B, S) :: (lay s r n).drop (j + 1))) (hd' : Hid ((lay s' r' n').drop j = (nm', B', S') :: (lay s' r' n').drop (j + 1)))
    (h1 : s ≤ s') (h2 : r ≤ r') (h3 : r * s ≤ r' * s') (h4 : n ≤ n') : nm = nm' ∧ S ≤ S' := by
  have hj : j < 9 := by
    rcases Nat.lt_or_ge j 9 with h | h
    · exact h
    · have := hd.out; rw [List.drop_eq_nil_of_le (by rw [lay_len]; exact h)] at this; cases this
  have e1 := hd.out
  have e2 := hd'.out
  rcases (show j = 0 ∨ j = 1 ∨ j = 2 ∨ j = 3 ∨ j = 4 ∨ j = 5 ∨ j = 6 ∨ j = 7 ∨ j = 8 by omega) with rfl | rfl | rfl | rfl | rfl | rfl | rfl | rfl | rfl
  all_goals
    simp only [lay, List.drop_succ_cons, List.drop_zero, List.cons.injEq, Prod.mk.injEq, and_true] at e1 e2
    obtain ⟨a1, a2, a3⟩ := e1
    obtain ⟨b1, b2, b3⟩ := e2
    exact ⟨a1.symm.trans b1, by omega⟩
structure GrS (w : World) (b k l b' k' l' s r s' r' : Int) (w' : World) : Prop where
  fr : Fr w [(w.heap.size + 1 + 1, .cells #[.int .i64 s, .int .i64 r, .int .i64 s', .int .i64 r'] 47 (0, 0)), (w.heap.size + 1, cfO b' k' l'), (w.heap.size, cfO b k l)] w'
theorem GrS.cells {w w1 : World} {b k l b' k' l' s r s' r' : Int} (h : GrS w b k l b' k' l' s r s' r' w1) :
    w1.cell? ⟨w.heap.size, 0, none⟩ = some (.int .i64 b) ∧ w1.cell? ⟨w.heap.size, 1, none⟩ = some (.int .i64 k) ∧ w1.cell? ⟨w.heap.size, 2, none⟩ = some (.int .i64 l) ∧
    w1.cell? ⟨w.heap.size + 1, 0, none⟩ = some (.int .i64 b') ∧ w1.cell? ⟨w.heap.size + 1, 1, none⟩ = some (.int .i64 k') ∧ w1.cell? ⟨w.heap.size + 1, 2, none⟩ = some (.int .i64 l') ∧
    w1.cell? ⟨w.heap.size + 1 + 1, 0, none⟩ = some (.int .i64 s) ∧ w1.cell? ⟨w.heap.size + 1 + 1, 1, none⟩ = some (.int .i64 r) ∧ w1.cell? ⟨w.heap.size + 1 + 1, 2, none⟩ = some (.int .i64 s') ∧ w1.cell? ⟨w.heap.size + 1 + 1, 3, none⟩ = some (.int .i64 r') ∧
    w.heap.size < w1.heap.size ∧ w.heap.size + 1 < w1.heap.size ∧ w.heap.size + 1 + 1 < w1.heap.size := by
  have a := h.fr.at (g := w.heap.size) (o := cfO b k l) (by simp)
  have a' := h.fr.at (g := w.heap.size + 1) (o := cfO b' k' l') (by simp)
  have x := h.fr.at (g := w.heap.size + 1 + 1) List.mem_cons_self
  exact ⟨Lib.cell_of_heap a 0, Lib.cell_of_heap a 1, Lib.cell_of_heap a 2, Lib.cell_of_heap a' 0, Lib.cell_of_heap a' 1, Lib.cell_of_heap a' 2, Lib.cell_of_heap x 0, Lib.cell_of_heap x 1, Lib.cell_of_heap x 2, Lib.cell_of_heap x 3, heap_lt a, heap_lt a', heap_lt x⟩
theorem GrS.go {w w1 w2 : World} {b k l b' k' l' s r s' r' : Int} (h : GrS w b k l b' k' l' s r s' r' w1) (hb : Below w1.heap.size w1 w2) : GrS w b k l b' k' l' s r s' r' w2 := ⟨h.fr.go hb⟩
theorem GrS.al {w w1 : World} {b k l b' k' l' s r s' r' : Int} (h : GrS w b k l b' k' l' s r s' r' w1) (o : Obj) : GrS w b k l b' k' l' s r s' r' (w1.alloc o) := ⟨h.fr.al o⟩
set_option maxRecDepth 100000 in
set_option maxHeartbeats 4000000 in
theorem configGrows_walk (w : World) (b k l b' k' l' s r s' r' : Int) (hP : Pow w) :
    Calls Tryd.prog 6 #[cfV b k l, cfV b' k' l', .agg #[.int .i64 s, .int .i64 r, .int .i64 s', .int .i64 r']] w fun e w' => e = .returned (.bool true) ∧ Below w.heap.size w w' := by
  have HP := Lib.hid hP
  clear hP
  by_cases h1 : Ok2 b k l s r
  case neg =>
    have H1 := Lib.hid h1
    clear h1
    have HE := Lib.hid (err2_no H1.out)
    go_enter Tryd.func6, Tryd.ntmps6
    go_wp2_with fail
    (with_reducible refine (layout_no b k l s r H1.out _).mono ?_); rintro e w1 ⟨A1, a1, rfl, hb1, hr1, _, _⟩
    have hF1 : GrS w b k l b' k' l' s r s' r' w1 := ⟨((((Fr.start w).newN rfl (cfO b k l)).newN (by simp) (cfO b' k' l')).newN (by simp) (.cells #[.int .i64 s, .int .i64 r, .int .i64 s', .int .i64 r'] 47 (0, 0))).go hb1⟩
    obtain ⟨c0, c1, c2, c0', c1', c2', x0, x1, x2, x3, q0, q1, q2⟩ := hF1.cells
    clear hb1
    go_wp2_with fail
    (with_reducible refine (layout_any b' k' l' s' r' _).mono ?_); rintro e w2 ⟨A2, a2, rfl, hb2, hr2, _, _⟩
    have hF2 := hF1.go hb2
    clear c0 c1 c2 c0' c1' c2' x0 x1 x2 x3 q0 q1 q2 hb2 hF1
    go_wp2_with fail
    (with_reducible refine (awake w2 (HP.out.below hF2.fr.bel)).mono ?_); rintro e w3 ⟨rfl, hb3⟩
    have hB := bt hF2.fr.bel hb3
    go_wp2
    go_ret
    exact ⟨rfl, hB⟩
  by_cases h2 : Ok2 b' k' l' s' r'
  case neg =>
    have H1 := Lib.hid h1
    have H2 := Lib.hid h2
    clear h1 h2
    go_enter Tryd.func6, Tryd.ntmps6
    go_wp2_with fail
    (with_reducible refine (layout_yes b k l s r H1.out _).mono ?_); rintro e w1 ⟨A1, a1, rfl, hb1, hr1, _, _⟩
    have hF1 : GrS w b k l b' k' l' s r s' r' w1 := ⟨((((Fr.start w).newN rfl (cfO b k l)).newN (by simp) (cfO b' k' l')).newN (by simp) (.cells #[.int .i64 s, .int .i64 r, .int .i64 s', .int .i64 r'] 47 (0, 0))).go hb1⟩
    obtain ⟨c0, c1, c2, c0', c1', c2', x0, x1, x2, x3, q0, q1, q2⟩ := hF1.cells
    clear hb1
    go_wp2_with fail
    (with_reducible refine (layout_no b' k' l' s' r' H2.out _).mono ?_); rintro e w2 ⟨A2, a2, rfl, hb2, hr2, _, _⟩
    have hF2 := hF1.go hb2
    clear c0 c1 c2 c0' c1' c2' x0 x1 x2 x3 q0 q1 q2 hb2 hF1
    go_wp2_with fail
    (with_reducible refine (awake w2 (HP.out.below hF2.fr.bel)).mono ?_); rintro e w3 ⟨rfl, hb3⟩
    have hB := bt hF2.fr.bel hb3
    go_wp2
    go_ret
    exact ⟨rfl, hB⟩
  have H1 := Lib.hid h1
  have H2 := Lib.hid h2
  have H3 := Lib.hid (show Ok2 b k l' s r from ⟨⟨h1.c.1, h1.c.2.1, h1.c.2.2.1, h2.c.2.2.2⟩, h1.s⟩)
  have hbd1 := sumS_bd (layL_bd b k l s r) 9
  have hN1 : needI b k l s r = 259 * s + r * s + r + 4 * (k + b * r) + 4 := by unfold needI; rw [layL_yes h1, sum_lay]; omega
  have hN2 : needI b' k' l' s' r' = 259 * s' + r' * s' + r' + 4 * (k' + b' * r') + 4 := by unfold needI; rw [layL_yes h2, sum_lay]; omega
  have E1 := Lib.hid (err2_yes h1)
  have E2 := Lib.hid (err2_yes h2)
  have hk1 := h1.c.2.1
  have hk1' := h2.c.2.1
  have hb1' : 1 ≤ b := by have := h1.c.1; omega
  have hb2' : 1 ≤ b' := by have := h2.c.1; omega
  obtain ⟨hs1, hs2, hr1, hr2⟩ := h1.s
  obtain ⟨hs1', hs2', hr1', hr2'⟩ := h2.s
  clear h1 h2 hbd1
  generalize hp : needI b k l s r = p at *
  generalize hq : needI b' k' l' s' r' = q at *
  have Hp := Lib.hid hp
  have Hq := Lib.hid hq
  have HN1 := Lib.hid hN1
  have HN2 := Lib.hid hN2
  clear hp hq hN1 hN2
  go_enter Tryd.func6, Tryd.ntmps6
  go_wp2_with fail
  (with_reducible refine (layout_yes b k l s r H1.out _).mono ?_); rintro e w1 ⟨A1, a1, rfl, hb1, hr1, _, _⟩
  have hF1 : GrS w b k l b' k' l' s r s' r' w1 := ⟨((((Fr.start w).newN rfl (cfO b k l)).newN (by simp) (cfO b' k' l')).newN (by simp) (.cells #[.int .i64 s, .int .i64 r, .int .i64 s', .int .i64 r'] 47 (0, 0))).go hb1⟩
  obtain ⟨c0, c1, c2, c0', c1', c2', x0, x1, x2, x3, q0, q1, q2⟩ := hF1.cells
  clear hb1
  go_wp2_with fail
  (with_reducible refine (layout_yes b' k' l' s' r' H2.out _).mono ?_); rintro e w2 ⟨A2, a2, rfl, hb2, hr2, _, _⟩
  have hF2 := hF1.go hb2
  have hr1 := hr1.go hb2
  clear c0 c1 c2 c0' c1' c2' x0 x1 x2 x3 q0 q1 q2 hb2 hF1
  obtain ⟨c0, c1, c2, c0', c1', c2', x0, x1, x2, x3, q0, q1, q2⟩ := hF2.cells
  go_wp2_with fail
  (with_reducible refine (cneed b k l s r _).mono ?_); rintro e w3 ⟨rfl, hb3⟩
  rw [Hp.out, E1.out]
  have hF3 := hF2.go hb3
  have hr1 := hr1.go hb3
  have hr2 := hr2.go hb3
  clear c0 c1 c2 c0' c1' c2' x0 x1 x2 x3 q0 q1 q2 hb3 hF2
  obtain ⟨c0, c1, c2, c0', c1', c2', x0, x1, x2, x3, q0, q1, q2⟩ := hF3.cells
  go_wp2_with fail
  (with_reducible refine (cneed b' k' l' s' r' _).mono ?_); rintro e w4 ⟨rfl, hb4⟩
  rw [Hq.out, E2.out]
  have hF4 := hF3.go hb4
  have hr1 := hr1.go hb4
  have hr2 := hr2.go hb4
  clear c0 c1 c2 c0' c1' c2' x0 x1 x2 x3 q0 q1 q2 hb4 hF3
  obtain ⟨c0, c1, c2, c0', c1', c2', x0, x1, x2, x3, q0, q1, q2⟩ := hF4.cells
  go_wp2_with fail
  (with_reducible refine (layout_yes b k l' s r H3.out _).mono ?_); rintro e w5 ⟨A5, a5, rfl, hb5, hr5, _, _⟩
  have hF5 := (hF4.al _).go hb5
  have hr1 := (hr1.al (cfO b k l')).go hb5
  have hr2 := (hr2.al (cfO b k l')).go hb5
  clear c0 c1 c2 c0' c1' c2' x0 x1 x2 x3 q0 q1 q2 hb5 hF4
  have hs := sameRegions_any w5 _ _ A5 A1 a5 a1 (lay s r (k + b * r)) (lay s r (k + b * r)) hr5 hr1 (by simp [lay_len])
  rw [decide_eq_true rfl, lay_len] at hs
  have Hs := Lib.hid hs
  clear hs hr5
  obtain ⟨c0, c1, c2, c0', c1', c2', x0, x1, x2, x3, q0, q1, q2⟩ := hF5.cells
  go_wp2_with fail
  (with_reducible refine (Hs.out).mono ?_); rintro e w6 ⟨rfl, hb6⟩
  have hF6 := hF5.go hb6
  have hr1 := hr1.go hb6
  have hr2 := hr2.go hb6
  clear c0 c1 c2 c0' c1' c2' x0 x1 x2 x3 q0 q1 q2 hb6 hF5
  obtain ⟨c0, c1, c2, c0', c1', c2', x0, x1, x2, x3, q0, q1, q2⟩ := hF6.cells
  by_cases hg : b' < b ∨ k' < k ∨ s' < s ∨ r' < r
  · have Hb := Lib.hid hF6.fr.bel
    have HP6 := Lib.hid (HP.out.below hF6.fr.bel)
    clear hF6 hr1 hr2
    go_wp2_with (go_at_call 16; refine (awake _ HP6.out).mono ?_; rintro e w7 ⟨rfl, hb7⟩)
    all_goals
      go_ret
      exact ⟨rfl, bt Hb.out hb7⟩
  have g1 : b ≤ b' := by omega
  have g2 : k ≤ k' := by omega
  have g3 : s ≤ s' := by omega
  have g4 : r ≤ r' := by omega
  clear hg
  have m1 : b * r ≤ b' * r' := Int.mul_le_mul g1 g4 (by omega) (by omega)
  have m2 : r * s ≤ r' * s' := Int.mul_le_mul g4 g3 (by omega) (by omega)
  have HG := Lib.hid (⟨g3, g4, m2, by omega⟩ : s ≤ s' ∧ r ≤ r' ∧ r * s ≤ r' * s' ∧ k + b * r ≤ k' + b' * r')
  by_cases hsame : b = b' ∧ k = k' ∧ s = s' ∧ r = r'
  · obtain ⟨rfl, rfl, rfl, rfl⟩ := hsame
    have hpq : p = q := HN1.out.trans HN2.out.symm
    subst hpq
    clear m1 m2 g1 g2 g3 g4
    generalize hL : lay s r (k + b * r) = L at *
    have HL := Lib.hid hL
    clear hL
    have Hlen := Lib.hid (show L.length = 9 by rw [← HL.out]; rfl)
    have Hb := Lib.hid hF6.fr.bel
    have HP6 := Lib.hid (HP.out.below hF6.fr.bel)
    go_wp2_with fail
    go_loopw [17] (fun i wr => ∃ j : Nat, j ≤ 9 ∧ i = .int .i64 j ∧ Below w6.heap.size w6 wr ∧ (∀ p, wr.cell? p = w6.cell? p)) (fun i _ => 9 - (intOf i).toNat)
    case atStart => exact ⟨0, by omega, rfl, Below.refl _ _, fun _ => rfl⟩
    case round =>
      obtain ⟨j, hj, rfl, hbl, hsame⟩ := hrel
      by_cases hlt : j < 9
      · obtain ⟨e1, f1, nm, B, S, rfl, _, d1, d2, d3, hd⟩ := rgAt (by rw [Hlen.out]; exact hr1) (show j < L.length by rw [Hlen.out]; exact hlt)
        obtain ⟨e2, f2, nm', B', S', rfl, _, d1', d2', d3', hd'⟩ := rgAt (by rw [Hlen.out]; exact hr2) (show j < L.length by rw [Hlen.out]; exact hlt)
        have heq := hd.out.symm.trans hd'.out
        injection heq with heq _
        injection heq with h1 h2
        injection h2 with h2 h3
        subst h1 h2 h3
        have y1 := (hsame ⟨e1, f1 + j * 3, none⟩).trans d1
        have y2 := (hsame ⟨e1, f1 + j * 3 + 1, none⟩).trans d2
        have y3 := (hsame ⟨e1, f1 + j * 3 + 2, none⟩).trans d3
        have y1' := (hsame ⟨e2, f2 + j * 3, none⟩).trans d1'
        have y2' := (hsame ⟨e2, f2 + j * 3 + 1, none⟩).trans d2'
        have y3' := (hsame ⟨e2, f2 + j * 3 + 2, none⟩).trans d3'
        have Hs2 := Lib.hid hsame
        have hi1 : (j : Int) < 9 := by omega
        have hi0 : (0 : Int) ≤ (j : Int) := by omega
        have hS : decide (S < S) = false := by simp
        clear hsame d1 d2 d3 d1' d2' d3' hd hd' c0 c1 c2 c0' c1' c2' x0 x1 x2 x3 q0 q1 q2 hr1 hr2 hF6
        go_wp2
        go_quiet (fail)
        go_wp2
        go_roundw
        case rel => exact ⟨j + 1, by omega, by go_num, hbl.trans (drewN_below _ _), fun p => Hs2.out p⟩
        case measure => simp [intOf]; omega
      · obtain rfl : j = 9 := by omega
        have HPr := Lib.hid (HP6.out.below hbl)
        clear hsame c0 c1 c2 c0' c1' c2' x0 x1 x2 x3 q0 q1 q2 hr1 hr2 hF6
        go_wp2_with fail
        (with_reducible refine (awake _ HPr.out).mono ?_); rintro e w7 ⟨rfl, hb7⟩
        have hB := bt (bt Hb.out hbl) hb7
        go_wp2
        go_ret
        exact ⟨rfl, hB⟩
  generalize hL1 : lay s r (k + b * r) = L1 at *
  generalize hL2 : lay s' r' (k' + b' * r') = L2 at *
  have HL1 := Lib.hid hL1
  have HL2 := Lib.hid hL2
  clear hL1 hL2
  have Hlen1 := Lib.hid (show L1.length = 9 by rw [← HL1.out]; rfl)
  have Hlen2 := Lib.hid (show L2.length = 9 by rw [← HL2.out]; rfl)
  have hpq : p < q := by
    have e1 := HN1.out
    have e2 := HN2.out
    by_cases h1 : b = b'
    · by_cases h2 : k = k'
      · by_cases h3 : s = s'
        · have h4 : r < r' := by
            have : r ≠ r' := fun e => hsame ⟨h1, h2, h3, e⟩
            omega
          omega
        · omega
      · omega
    · have h5 : (b + 1) * r ≤ b' * r' := Int.mul_le_mul (by omega) g4 (by omega) (by omega)
      rw [Int.add_mul, Int.one_mul] at h5
      omega
  have Hb := Lib.hid hF6.fr.bel
  have HP6 := Lib.hid (HP.out.below hF6.fr.bel)
  clear m1 m2
  by_cases hE1 : b = b'
  case neg =>
    have e0 : (b == b') = false := by simpa using hE1
    clear hsame hE1
    go_wp2_with fail
    go_loopw [17] (fun i wr => ∃ j : Nat, j ≤ 9 ∧ i = .int .i64 j ∧ Below w6.heap.size w6 wr ∧ (∀ p, wr.cell? p = w6.cell? p)) (fun i _ => 9 - (intOf i).toNat)
    case atStart => exact ⟨0, by omega, rfl, Below.refl _ _, fun _ => rfl⟩
    case round =>
      obtain ⟨j, hj, rfl, hbl, hsame⟩ := hrel
      by_cases hlt : j < 9
      · obtain ⟨e1, f1, nm, B, S, rfl, _, d1, d2, d3, hd⟩ := rgAt (by rw [Hlen1.out]; exact hr1) (show j < L1.length by rw [Hlen1.out]; exact hlt)
        obtain ⟨e2, f2, nm', B', S', rfl, _, d1', d2', d3', hd'⟩ := rgAt (by rw [Hlen2.out]; exact hr2) (show j < L2.length by rw [Hlen2.out]; exact hlt)
        obtain ⟨hn, hSS⟩ := lay_at _ _ _ _ _ _ j nm nm' B S B' S' (by rw [HL1.out]; exact hd) (by rw [HL2.out]; exact hd') HG.out.1 HG.out.2.1 HG.out.2.2.1 HG.out.2.2.2
        subst hn
        have y1 := (hsame ⟨e1, f1 + j * 3, none⟩).trans d1
        have y2 := (hsame ⟨e1, f1 + j * 3 + 1, none⟩).trans d2
        have y3 := (hsame ⟨e1, f1 + j * 3 + 2, none⟩).trans d3
        have y1' := (hsame ⟨e2, f2 + j * 3, none⟩).trans d1'
        have y2' := (hsame ⟨e2, f2 + j * 3 + 1, none⟩).trans d2'
        have y3' := (hsame ⟨e2, f2 + j * 3 + 2, none⟩).trans d3'
        have Hs2 := Lib.hid hsame
        have hi1 : (j : Int) < 9 := by omega
        have hi0 : (0 : Int) ≤ (j : Int) := by omega
        have hS : decide (S' < S) = false := by simp; omega
        clear hsame d1 d2 d3 d1' d2' d3' hd hd' c0 c1 c2 c0' c1' c2' x0 x1 x2 x3 q0 q1 q2 hr1 hr2 hF6
        go_wp2
        go_quiet (fail)
        go_wp2
        go_roundw
        case rel => exact ⟨j + 1, by omega, by go_num, hbl.trans (drewN_below _ _), fun p => Hs2.out p⟩
        case measure => simp [intOf]; omega
      · obtain rfl : j = 9 := by omega
        have HPr := Lib.hid (HP6.out.below hbl)
        clear hsame c0 c1 c2 c0' c1' c2' x0 x1 x2 x3 q0 q1 q2 hr1 hr2 hF6
        go_wp2_with fail
        (with_reducible refine (awake _ HPr.out).mono ?_); rintro e w7 ⟨rfl, hb7⟩
        have hB := bt (bt Hb.out hbl) hb7
        go_wp2
        go_ret
        exact ⟨rfl, hB⟩
  subst hE1
  by_cases hE2 : k = k'
  case neg =>
    have e0 : (k == k') = false := by simpa using hE2
    clear hsame hE2
    go_wp2_with fail
    go_loopw [17] (fun i wr => ∃ j : Nat, j ≤ 9 ∧ i = .int .i64 j ∧ Below w6.heap.size w6 wr ∧ (∀ p, wr.cell? p = w6.cell? p)) (fun i _ => 9 - (intOf i).toNat)
    case atStart => exact ⟨0, by omega, rfl, Below.refl _ _, fun _ => rfl⟩
    case round =>
      obtain ⟨j, hj, rfl, hbl, hsame⟩ := hrel
      by_cases hlt : j < 9
      · obtain ⟨e1, f1, nm, B, S, rfl, _, d1, d2, d3, hd⟩ := rgAt (by rw [Hlen1.out]; exact hr1) (show j < L1.length by rw [Hlen1.out]; exact hlt)
        obtain ⟨e2, f2, nm', B', S', rfl, _, d1', d2', d3', hd'⟩ := rgAt (by rw [Hlen2.out]; exact hr2) (show j < L2.length by rw [Hlen2.out]; exact hlt)
        obtain ⟨hn, hSS⟩ := lay_at _ _ _ _ _ _ j nm nm' B S B' S' (by rw [HL1.out]; exact hd) (by rw [HL2.out]; exact hd') HG.out.1 HG.out.2.1 HG.out.2.2.1 HG.out.2.2.2
        subst hn
        have y1 := (hsame ⟨e1, f1 + j * 3, none⟩).trans d1
        have y2 := (hsame ⟨e1, f1 + j * 3 + 1, none⟩).trans d2
        have y3 := (hsame ⟨e1, f1 + j * 3 + 2, none⟩).trans d3
        have y1' := (hsame ⟨e2, f2 + j * 3, none⟩).trans d1'
        have y2' := (hsame ⟨e2, f2 + j * 3 + 1, none⟩).trans d2'
        have y3' := (hsame ⟨e2, f2 + j * 3 + 2, none⟩).trans d3'
        have Hs2 := Lib.hid hsame
        have hi1 : (j : Int) < 9 := by omega
        have hi0 : (0 : Int) ≤ (j : Int) := by omega
        have hS : decide (S' < S) = false := by simp; omega
        clear hsame d1 d2 d3 d1' d2' d3' hd hd' c0 c1 c2 c0' c1' c2' x0 x1 x2 x3 q0 q1 q2 hr1 hr2 hF6
        go_wp2
        go_quiet (fail)
        go_wp2
        go_roundw
        case rel => exact ⟨j + 1, by omega, by go_num, hbl.trans (drewN_below _ _), fun p => Hs2.out p⟩
        case measure => simp [intOf]; omega
      · obtain rfl : j = 9 := by omega
        have HPr := Lib.hid (HP6.out.below hbl)
        clear hsame c0 c1 c2 c0' c1' c2' x0 x1 x2 x3 q0 q1 q2 hr1 hr2 hF6
        go_wp2_with fail
        (with_reducible refine (awake _ HPr.out).mono ?_); rintro e w7 ⟨rfl, hb7⟩
        have hB := bt (bt Hb.out hbl) hb7
        go_wp2
        go_ret
        exact ⟨rfl, hB⟩
  subst hE2
  have e0 : decide (((s, r) : Int × Int) = (s', r')) = false := by
    rw [decide_eq_false_iff_not]
    intro e
    injection e with h1 h2
    exact hsame ⟨rfl, rfl, h1, h2⟩
  have e1 : decide (s = s' ∧ r = r') = false := by
    rw [decide_eq_false_iff_not]
    intro h
    exact hsame ⟨rfl, rfl, h.1, h.2⟩
  have e2 : (decide (s = s') && decide (r = r')) = false := by
    rw [← Bool.decide_and]; exact e1
  have e3 : s = s' → ¬ r = r' := fun h h' => hsame ⟨rfl, rfl, h, h'⟩
  clear hsame
  go_wp2_with fail
  go_loopw [17] (fun i wr => ∃ j : Nat, j ≤ 9 ∧ i = .int .i64 j ∧ Below w6.heap.size w6 wr ∧ (∀ p, wr.cell? p = w6.cell? p)) (fun i _ => 9 - (intOf i).toNat)
  case atStart => exact ⟨0, by omega, rfl, Below.refl _ _, fun _ => rfl⟩
  case round =>
    obtain ⟨j, hj, rfl, hbl, hsame⟩ := hrel
    by_cases hlt : j < 9
    · obtain ⟨e1, f1, nm, B, S, rfl, _, d1, d2, d3, hd⟩ := rgAt (by rw [Hlen1.out]; exact hr1) (show j < L1.length by rw [Hlen1.out]; exact hlt)
      obtain ⟨e2, f2, nm', B', S', rfl, _, d1', d2', d3', hd'⟩ := rgAt (by rw [Hlen2.out]; exact hr2) (show j < L2.length by rw [Hlen2.out]; exact hlt)
      obtain ⟨hn, hSS⟩ := lay_at _ _ _ _ _ _ j nm nm' B S B' S' (by rw [HL1.out]; exact hd) (by rw [HL2.out]; exact hd') HG.out.1 HG.out.2.1 HG.out.2.2.1 HG.out.2.2.2
      subst hn
      have y1 := (hsame ⟨e1, f1 + j * 3, none⟩).trans d1
      have y2 := (hsame ⟨e1, f1 + j * 3 + 1, none⟩).trans d2
      have y3 := (hsame ⟨e1, f1 + j * 3 + 2, none⟩).trans d3
      have y1' := (hsame ⟨e2, f2 + j * 3, none⟩).trans d1'
      have y2' := (hsame ⟨e2, f2 + j * 3 + 1, none⟩).trans d2'
      have y3' := (hsame ⟨e2, f2 + j * 3 + 2, none⟩).trans d3'
      have Hs2 := Lib.hid hsame
      have hi1 : (j : Int) < 9 := by omega
      have hi0 : (0 : Int) ≤ (j : Int) := by omega
      have hS : decide (S' < S) = false := by simp; omega
      clear hsame d1 d2 d3 d1' d2' d3' hd hd' c0 c1 c2 c0' c1' c2' x0 x1 x2 x3 q0 q1 q2 hr1 hr2 hF6
      go_wp2
      go_quiet (fail)
      go_wp2
      go_roundw
      case rel => exact ⟨j + 1, by omega, by go_num, hbl.trans (drewN_below _ _), fun p => Hs2.out p⟩
      case measure => simp [intOf]; omega
    · obtain rfl : j = 9 := by omega
      have HPr := Lib.hid (HP6.out.below hbl)
      clear hsame c0 c1 c2 c0' c1' c2' x0 x1 x2 x3 q0 q1 q2 hr1 hr2 hF6
      go_wp2_with fail
      (with_reducible refine (awake _ HPr.out).mono ?_); rintro e w7 ⟨rfl, hb7⟩
      have hB := bt (bt Hb.out hbl) hb7
      go_wp2
      go_ret
      exact ⟨rfl, hB⟩
end Go.Proofs.YtjdbnfejidaeoaaDoor
