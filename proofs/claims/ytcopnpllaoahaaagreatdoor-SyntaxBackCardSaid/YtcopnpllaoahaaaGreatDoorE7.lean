/- Syntax: elem of the reader: gaps, faults, the end. No condition. -/
import Derived.Test.YtcopnpllaoahaaaGreatDoorE6
namespace Go.Proofs.YtcopnpllaoahaaaGreatDoor
open Go.RowKit
set_option maxRecDepth 100000 in
set_option maxHeartbeats 4000000 in
theorem elem_gap1 {w0 w : World} {g p c : Nat} {A : Option Addr} {P Q id : Int} {E : Value} {l : List T9} {es : List El} (hF : Fr w0 [(g, rdO A l.length c P id E)] w) (hg : w0.heap.size ≤ g)
    (hR : Reads w0 w0.heap.size 9 A l.length (tks l)) (hm : l.length ≤ 100000) (hH : Hd w0) (hO : w.ownsRow w0.heap.size 38 8 E es.length (els es)) (he : es.length < 64) (hp : p < l.length)
    (hk : l[p].1 = 2) (hP : P = (p : Int)) (hQ : Q = P + 1) (h1 : ∀ hp : p + 1 < l.length, l[p + 1].1 ≠ 3) :
    Calls Tryz.prog 45 #[ptG g] w (FaultR w0 [] Q 6) := by
  have hw1 := fun (W : World) (E : Value) (L : List (Nat × Obj)) (hF : Fr w0 ((g, rdO A l.length c Q id E) :: L) W) => want_no (p := p + 1) (P := Q) 3 hF hR h1 hm (by omega)
  have HW1 := Lib.hid hw1
  clear hw1 h1

  subst hP
  obtain ⟨AE, cE, rfl, hrE, hcE, hmE⟩ := own_sl hO
  obtain ⟨⟨K, F, T, N, S, f⟩, ht⟩ : ∃ t, l[p] = t := ⟨_, rfl⟩
  rw [ht] at hk
  simp only at hk
  subst hk
  obtain ⟨b0, off, rfl, hb0, _⟩ := hR.at9 hp
  obtain ⟨bk, rfl⟩ : ∃ b, b = b0 := ⟨_, rfl⟩
  have HT := Lib.hid ht
  have hK : ∀ W, Hd W → Calls Tryz.prog 55 #[.int .i64 2] W fun e w' => e = .returned (.int .i64 4) ∧ w' = W := fun W hW => kindOf_ 2 W hW
  have HK := Lib.hid hK
  clear hK
  obtain ⟨n, hn⟩ : ∃ n, n = l.length := ⟨_, rfl⟩
  rw [← hn] at hF hp hm
  have Hn := Lib.hid hn
  have HR := Lib.hid hR
  have HQ := Lib.hid hQ
  have HO := Lib.hid hO
  have HF := Lib.hid hF
  have HH := Lib.hid hH
  have i1 : ((p : Int) == (n : Int)) = false := by rw [beq_eq_false_iff_ne]; omega
  have i2 : (p : Int) < (n : Int) := by omega
  have i0 : (0 : Int) ≤ (p : Int) := by omega
  have i3 : ((es.length : Int) == 64) = false := by rw [beq_eq_false_iff_ne]; omega
  obtain ⟨⟨c0, c1, c2, c3⟩, ⟨f0, f1, f2, f3⟩, l1⟩ := bx4 (hF.at (g := g) (o := rdO (some ⟨bk, off, none⟩) n c (p : Int) id (.slice AE es.length cE)) List.mem_cons_self)
  clear hF hR ht hn hO hH hQ hrE hcE hmE hb0
  go_enter Tryz.func45, Tryz.ntmps45
  go_upto_region 1 with fail
  go_cut [15] (fun s wx => s = .bool false ∧ Fr w0 [(g, rdO (some ⟨bk, off, none⟩) n c (p : Int) id (.slice AE es.length cE))] wx ∧ wx.ownsRow w0.heap.size 38 8 (.slice AE es.length cE) es.length (els es))
  case first =>
    go_quiet (fail)
    go_wp2
    go_meet
    exact ⟨rfl, HF.out.drewN _, own_below HO.out (drewN_below _ _)⟩
  case rest =>
  obtain ⟨rfl, hF2, hO2⟩ := hcut
  clear c0 c1 c2 c3 f0 f1 f2 f3 l1
  obtain ⟨bk2, off2, e2, hbk2, t0, t1, t2, t3, t4, t5, t6, t7, t8⟩ := (HR.out.below hF2.bel).at9 (by rw [← Hn.out]; exact hp)
  cases e2
  rw [HT.out] at t0 t1 t2 t3 t4 t5 t6 t7 t8
  simp only at t0 t1 t2 t3 t4 t5 t6 t7 t8
  obtain ⟨⟨c0, c1, c2, c3⟩, ⟨f0, f1, f2, f3⟩, l1⟩ := bx4 (hF2.at (g := g) (o := rdO (some ⟨bk, off, none⟩) n c (p : Int) id (.slice AE es.length cE)) List.mem_cons_self)
  have hbkw : bk < wc.heap.size := Nat.lt_of_lt_of_le hbk2 hF2.bel.size
  have HF3 := Lib.hid (((hF2.al (tkO 2 F T N S f)).drew).cons (g := wc.heap.size) (o := tkO 2 F T N S f) (alloc1_new _ _))
  have HO3 := Lib.hid (show (wc.alloc (tkO 2 F T N S f)).drew.ownsRow w0.heap.size 38 8 (.slice AE es.length cE) es.length (els es) from own_below hO2 (((Below.refl _ _).alloc (Nat.le_refl _) _).drew))
  have hne : g ≠ wc.heap.size := by omega
  clear hF2 hO2 HF HO
  go_wp2
  go_upto_region 6 with go_region
  clear c0 c1 c2 c3 f0 f1 f2 f3 l1 t0 t1 t2 t3 t4 t5 t6 t7 t8 hbkw
  generalize (wc.alloc (tkO 2 F T N S f)).drew = W4 at *
  generalize wc.heap.size = R4 at *
  obtain ⟨⟨x0, x1, x2, x3, x4, x5, x6, x7, x8⟩, _, l3⟩ := bx9 (HF3.out.at (g := R4) (o := tkO 2 F T N S f) List.mem_cons_self)
  obtain ⟨⟨c0, c1, c2, c3⟩, ⟨f0, f1, f2, f3⟩, l1⟩ := bx4 (HF3.out.at (g := g) (o := rdO (some ⟨bk, off, none⟩) n c (p : Int) id (.slice AE es.length cE)) (by simp))
  go_wp2_with fail
  (with_reducible refine (HK.out _ (HH.out.below HF3.out.bel)).mono ?_); rintro e w5 ⟨rfl, hw5⟩; subst hw5
  have hF6 : Fr w0 [(g, rdO (some ⟨bk, off, none⟩) n c Q id (.slice AE es.length cE))] (w5.setCell ⟨g, 1, none⟩ (.int .i64 Q)) := by
    have := (HF3.out.sub (M := [(g, rdO (some ⟨bk, off, none⟩) n c (p : Int) id (.slice AE es.length cE))]) (by simp)).set hg (by simp) 1 (.int .i64 Q)
    simpa using this
  have hneE : (Value.slice AE es.length cE).ownBlock ≠ some g := own_blk_ne HO3.out (HF3.out.at (g := g) (o := rdO (some ⟨bk, off, none⟩) n c (p : Int) id (.slice AE es.length cE)) (by simp)) (by decide)
  have hO6 := own_set HO3.out ⟨g, 1, none⟩ (.int .i64 Q) hneE
  have hneR : (Value.slice AE es.length cE).ownBlock ≠ some w5.heap.size := by
    intro e
    have h1 := (HO3.out.lt _ e).2
    omega
  have hgR : g ≠ w5.heap.size := by omega
  have hRw : w0.heap.size ≤ w5.heap.size := HF3.out.bel.size
  have hF7 : Fr w0 [(g, rdO (some ⟨bk, off, none⟩) n c Q id (.slice AE es.length cE)), (w5.heap.size, elO (4, S, f, 0, 0))] ((w5.setCell ⟨g, 1, none⟩ (.int .i64 Q)).alloc (elO (4, S, f, 0, 0))) :=
    (hF6.newN (g := w5.heap.size) (by simp) (elO (4, S, f, 0, 0))).sub (by simp)
  have hO7 := own_below hO6 (((Below.refl (w5.setCell ⟨g, 1, none⟩ (.int .i64 Q)).heap.size _).alloc (Nat.le_refl _) (elO (4, S, f, 0, 0))))
  have HF7 := Lib.hid hF7
  have HO7 := Lib.hid hO7
  have HNE := Lib.hid hneE
  have HNR := Lib.hid hneR
  clear hF6 hneE hO6 hF7 hO7 hneR
  rw [← Hn.out] at HW1
  go_upto_region 12 with fail
  rw [← HQ.out]
  clear c0 c1 c2 c3 f0 f1 f2 f3 l1 x0 x1 x2 x3 x4 x5 x6 x7 x8 l3 HF3 HO3
  generalize (w5.setCell ⟨g, 1, none⟩ (.int .i64 Q)).alloc (elO (4, S, f, 0, 0)) = W7 at *
  generalize w5.heap.size = R7 at *
  go_wp2_with fail
  (with_reducible refine (HW1.out _ _ _ HF7.out).mono ?_); rintro e w6 ⟨rfl, hF8⟩
  go_wp2
  exact ⟨rfl, rfl, hF8.sub (by simp)⟩
set_option maxRecDepth 100000 in
set_option maxHeartbeats 4000000 in
theorem elem_gap2 {w0 w : World} {g p c : Nat} {A : Option Addr} {P Q id : Int} {E : Value} {l : List T9} {es : List El} (hF : Fr w0 [(g, rdO A l.length c P id E)] w) (hg : w0.heap.size ≤ g)
    (hR : Reads w0 w0.heap.size 9 A l.length (tks l)) (hm : l.length ≤ 100000) (hH : Hd w0) (hO : w.ownsRow w0.heap.size 38 8 E es.length (els es)) (he : es.length < 64) (hp : p < l.length)
    (hk : l[p].1 = 2) (hP : P = (p : Int)) (hQ : Q = P + 1) {lo : Int} (hp1 : p + 1 < l.length) (h1 : l[p + 1].1 = 3) (hlo : l[p + 1].2.2.2.1 = lo) (h2 : ∀ hp : p + 2 < l.length, l[p + 2].1 ≠ 3) :
    Calls Tryz.prog 45 #[ptG g] w (FaultR w0 [] (Q + 1) 6) := by
  have hw2 := fun (W : World) (E : Value) (L : List (Nat × Obj)) (hF : Fr w0 ((g, rdO A l.length c (Q + 1) id E) :: L) W) => want_no (p := p + 2) (P := Q + 1) 3 hF hR h2 hm (by omega)
  have HW2 := Lib.hid hw2
  clear hw2 h2
  obtain ⟨⟨K1, F1, T1, N1, S1, f1⟩, ht1⟩ : ∃ t, l[p + 1] = t := ⟨_, rfl⟩
  have hw1 := fun (W : World) (E : Value) (L : List (Nat × Obj)) (hF : Fr w0 ((g, rdO A l.length c Q id E) :: L) W) (hL : ∀ q ∈ L, q.1 ≠ g) => want_yes (p := p + 1) (P := Q) (Q := Q + 1) 3 hF hg hL hR hp1 h1 hm (by omega) rfl
  rw [ht1] at hw1 hlo
  simp only at hlo
  subst hlo
  have HW1 : Hid (∀ (W : World) (E : Value) (L : List (Nat × Obj)), Fr w0 ((g, rdO A l.length c Q id E) :: L) W → (∀ q ∈ L, q.1 ≠ g) → Calls Tryz.prog 44 #[.pointer (some ⟨g, 0, none⟩), .int .i64 3] W (WantR w0 W g (rdO A l.length c (Q + 1) id E) L (tkV K1 F1 T1 N1 S1 f1))) := Lib.hid hw1
  clear hw1 h1 ht1

  subst hP
  obtain ⟨AE, cE, rfl, hrE, hcE, hmE⟩ := own_sl hO
  obtain ⟨⟨K, F, T, N, S, f⟩, ht⟩ : ∃ t, l[p] = t := ⟨_, rfl⟩
  rw [ht] at hk
  simp only at hk
  subst hk
  obtain ⟨b0, off, rfl, hb0, _⟩ := hR.at9 hp
  obtain ⟨bk, rfl⟩ : ∃ b, b = b0 := ⟨_, rfl⟩
  have HT := Lib.hid ht
  have hK : ∀ W, Hd W → Calls Tryz.prog 55 #[.int .i64 2] W fun e w' => e = .returned (.int .i64 4) ∧ w' = W := fun W hW => kindOf_ 2 W hW
  have HK := Lib.hid hK
  clear hK
  obtain ⟨n, hn⟩ : ∃ n, n = l.length := ⟨_, rfl⟩
  rw [← hn] at hF hp hm
  have Hn := Lib.hid hn
  have HR := Lib.hid hR
  have HQ := Lib.hid hQ
  have HO := Lib.hid hO
  have HF := Lib.hid hF
  have HH := Lib.hid hH
  have i1 : ((p : Int) == (n : Int)) = false := by rw [beq_eq_false_iff_ne]; omega
  have i2 : (p : Int) < (n : Int) := by omega
  have i0 : (0 : Int) ≤ (p : Int) := by omega
  have i3 : ((es.length : Int) == 64) = false := by rw [beq_eq_false_iff_ne]; omega
  obtain ⟨⟨c0, c1, c2, c3⟩, ⟨f0, f1, f2, f3⟩, l1⟩ := bx4 (hF.at (g := g) (o := rdO (some ⟨bk, off, none⟩) n c (p : Int) id (.slice AE es.length cE)) List.mem_cons_self)
  clear hF hR ht hn hO hH hQ hrE hcE hmE hb0
  go_enter Tryz.func45, Tryz.ntmps45
  go_upto_region 1 with fail
  go_cut [15] (fun s wx => s = .bool false ∧ Fr w0 [(g, rdO (some ⟨bk, off, none⟩) n c (p : Int) id (.slice AE es.length cE))] wx ∧ wx.ownsRow w0.heap.size 38 8 (.slice AE es.length cE) es.length (els es))
  case first =>
    go_quiet (fail)
    go_wp2
    go_meet
    exact ⟨rfl, HF.out.drewN _, own_below HO.out (drewN_below _ _)⟩
  case rest =>
  obtain ⟨rfl, hF2, hO2⟩ := hcut
  clear c0 c1 c2 c3 f0 f1 f2 f3 l1
  obtain ⟨bk2, off2, e2, hbk2, t0, t1, t2, t3, t4, t5, t6, t7, t8⟩ := (HR.out.below hF2.bel).at9 (by rw [← Hn.out]; exact hp)
  cases e2
  rw [HT.out] at t0 t1 t2 t3 t4 t5 t6 t7 t8
  simp only at t0 t1 t2 t3 t4 t5 t6 t7 t8
  obtain ⟨⟨c0, c1, c2, c3⟩, ⟨f0, f1, f2, f3⟩, l1⟩ := bx4 (hF2.at (g := g) (o := rdO (some ⟨bk, off, none⟩) n c (p : Int) id (.slice AE es.length cE)) List.mem_cons_self)
  have hbkw : bk < wc.heap.size := Nat.lt_of_lt_of_le hbk2 hF2.bel.size
  have HF3 := Lib.hid (((hF2.al (tkO 2 F T N S f)).drew).cons (g := wc.heap.size) (o := tkO 2 F T N S f) (alloc1_new _ _))
  have HO3 := Lib.hid (show (wc.alloc (tkO 2 F T N S f)).drew.ownsRow w0.heap.size 38 8 (.slice AE es.length cE) es.length (els es) from own_below hO2 (((Below.refl _ _).alloc (Nat.le_refl _) _).drew))
  have hne : g ≠ wc.heap.size := by omega
  clear hF2 hO2 HF HO
  go_wp2
  go_upto_region 6 with go_region
  clear c0 c1 c2 c3 f0 f1 f2 f3 l1 t0 t1 t2 t3 t4 t5 t6 t7 t8 hbkw
  generalize (wc.alloc (tkO 2 F T N S f)).drew = W4 at *
  generalize wc.heap.size = R4 at *
  obtain ⟨⟨x0, x1, x2, x3, x4, x5, x6, x7, x8⟩, _, l3⟩ := bx9 (HF3.out.at (g := R4) (o := tkO 2 F T N S f) List.mem_cons_self)
  obtain ⟨⟨c0, c1, c2, c3⟩, ⟨f0, f1, f2, f3⟩, l1⟩ := bx4 (HF3.out.at (g := g) (o := rdO (some ⟨bk, off, none⟩) n c (p : Int) id (.slice AE es.length cE)) (by simp))
  go_wp2_with fail
  (with_reducible refine (HK.out _ (HH.out.below HF3.out.bel)).mono ?_); rintro e w5 ⟨rfl, hw5⟩; subst hw5
  have hF6 : Fr w0 [(g, rdO (some ⟨bk, off, none⟩) n c Q id (.slice AE es.length cE))] (w5.setCell ⟨g, 1, none⟩ (.int .i64 Q)) := by
    have := (HF3.out.sub (M := [(g, rdO (some ⟨bk, off, none⟩) n c (p : Int) id (.slice AE es.length cE))]) (by simp)).set hg (by simp) 1 (.int .i64 Q)
    simpa using this
  have hneE : (Value.slice AE es.length cE).ownBlock ≠ some g := own_blk_ne HO3.out (HF3.out.at (g := g) (o := rdO (some ⟨bk, off, none⟩) n c (p : Int) id (.slice AE es.length cE)) (by simp)) (by decide)
  have hO6 := own_set HO3.out ⟨g, 1, none⟩ (.int .i64 Q) hneE
  have hneR : (Value.slice AE es.length cE).ownBlock ≠ some w5.heap.size := by
    intro e
    have h1 := (HO3.out.lt _ e).2
    omega
  have hgR : g ≠ w5.heap.size := by omega
  have hRw : w0.heap.size ≤ w5.heap.size := HF3.out.bel.size
  have hF7 : Fr w0 [(g, rdO (some ⟨bk, off, none⟩) n c Q id (.slice AE es.length cE)), (w5.heap.size, elO (4, S, f, 0, 0))] ((w5.setCell ⟨g, 1, none⟩ (.int .i64 Q)).alloc (elO (4, S, f, 0, 0))) :=
    (hF6.newN (g := w5.heap.size) (by simp) (elO (4, S, f, 0, 0))).sub (by simp)
  have hO7 := own_below hO6 (((Below.refl (w5.setCell ⟨g, 1, none⟩ (.int .i64 Q)).heap.size _).alloc (Nat.le_refl _) (elO (4, S, f, 0, 0))))
  have HF7 := Lib.hid hF7
  have HO7 := Lib.hid hO7
  have HNE := Lib.hid hneE
  have HNR := Lib.hid hneR
  clear hF6 hneE hO6 hF7 hO7 hneR
  rw [← Hn.out] at HW1
  go_upto_region 12 with fail
  rw [← HQ.out]
  clear c0 c1 c2 c3 f0 f1 f2 f3 l1 x0 x1 x2 x3 x4 x5 x6 x7 x8 l3 HF3 HO3
  generalize (w5.setCell ⟨g, 1, none⟩ (.int .i64 Q)).alloc (elO (4, S, f, 0, 0)) = W7 at *
  generalize w5.heap.size = R7 at *
  go_wp2_with fail
  (with_reducible refine (HW1.out _ _ _ HF7.out (by simpa using hgR.symm)).mono ?_); rintro e w6 ⟨rfl, hF8, hG8⟩
  have hO8 := own_grown HO7.out hG8 (.inr HNE.out)
  have hO9 := own_set hO8 ⟨R7, 6, none⟩ (.int .i64 N1) HNR.out
  have hF9 : Fr w0 [(g, rdO (some ⟨bk, off, none⟩) n c (Q + 1) id (.slice AE es.length cE)), (R7, elO (4, S, f, N1, 0))] (w6.setCell ⟨R7, 6, none⟩ (.int .i64 N1)) := by
    have := ((hF8.sub (M := [(R7, elO (4, S, f, 0, 0)), (g, rdO (some ⟨bk, off, none⟩) n c (Q + 1) id (.slice AE es.length cE))]) (by simp)).set hRw (by simpa using hgR) 6 (.int .i64 N1)).sub (M := [(g, rdO (some ⟨bk, off, none⟩) n c (Q + 1) id (.slice AE es.length cE)), (R7, elO (4, S, f, N1, 0))]) (by simp)
    exact this
  obtain ⟨⟨x0, x1, x2, x3, x4, x5, x6, x7⟩, ⟨q0, q1, q2, q3, q4, q5, q6, q7⟩, l3⟩ := bx8 (hF8.at (g := R7) (o := elO (4, S, f, 0, 0)) (by simp))
  have HF9 := Lib.hid hF9
  have HO9 := Lib.hid hO9
  clear hF8 hG8 hO8 hO9 hF9 HO7 HF7
  go_upto_region 13 with fail
  clear x0 x1 x2 x3 x4 x5 x6 x7 q0 q1 q2 q3 q4 q5 q6 q7 l3
  generalize w6.setCell ⟨R7, 6, none⟩ (.int .i64 N1) = W9 at *
  go_wp2_with fail
  rw [← Hn.out] at HW2
  (with_reducible refine (HW2.out _ _ _ HF9.out).mono ?_); rintro e w8 ⟨rfl, hF10⟩
  go_wp2
  exact ⟨rfl, rfl, hF10.sub (by simp)⟩
set_option maxRecDepth 100000 in
set_option maxHeartbeats 4000000 in
theorem elem_gap {w0 w : World} {g p c : Nat} {A : Option Addr} {P Q id : Int} {E : Value} {l : List T9} {es : List El} (hF : Fr w0 [(g, rdO A l.length c P id E)] w) (hg : w0.heap.size ≤ g)
    (hR : Reads w0 w0.heap.size 9 A l.length (tks l)) (hm : l.length ≤ 100000) (hH : Hd w0) (hO : w.ownsRow w0.heap.size 38 8 E es.length (els es)) (he : es.length < 64) (hp : p < l.length)
    (hk : l[p].1 = 2) (hP : P = (p : Int)) (hQ : Q = P + 1) {lo hi : Int} (hp1 : p + 1 < l.length) (h1 : l[p + 1].1 = 3) (hlo : l[p + 1].2.2.2.1 = lo) (hp2 : p + 2 < l.length) (h2 : l[p + 2].1 = 3) (hhi : l[p + 2].2.2.2.1 = hi) {x : El} (hx : Hid (elC x = elC (4, l[p].2.2.2.2.1, l[p].2.2.2.2.2, lo, hi))) :
    Calls Tryz.prog 45 #[ptG g] w (ElR w0 g A l.length c (Q + 1 + 1) id (es ++ [x])) := by
  obtain ⟨⟨K2, F2, T2, N2, S2, f2⟩, ht2⟩ : ∃ t, l[p + 2] = t := ⟨_, rfl⟩
  have hw2 := fun (W : World) (E : Value) (L : List (Nat × Obj)) (hF : Fr w0 ((g, rdO A l.length c (Q + 1) id E) :: L) W) (hL : ∀ q ∈ L, q.1 ≠ g) => want_yes (p := p + 2) (P := Q + 1) (Q := Q + 1 + 1) 3 hF hg hL hR hp2 h2 hm (by omega) rfl
  rw [ht2] at hw2 hhi
  simp only at hhi
  subst hhi
  have HW2 : Hid (∀ (W : World) (E : Value) (L : List (Nat × Obj)), Fr w0 ((g, rdO A l.length c (Q + 1) id E) :: L) W → (∀ q ∈ L, q.1 ≠ g) → Calls Tryz.prog 44 #[.pointer (some ⟨g, 0, none⟩), .int .i64 3] W (WantR w0 W g (rdO A l.length c (Q + 1 + 1) id E) L (tkV K2 F2 T2 N2 S2 f2))) := Lib.hid hw2
  clear hw2 h2 ht2
  obtain ⟨⟨K1, F1, T1, N1, S1, f1⟩, ht1⟩ : ∃ t, l[p + 1] = t := ⟨_, rfl⟩
  have hw1 := fun (W : World) (E : Value) (L : List (Nat × Obj)) (hF : Fr w0 ((g, rdO A l.length c Q id E) :: L) W) (hL : ∀ q ∈ L, q.1 ≠ g) => want_yes (p := p + 1) (P := Q) (Q := Q + 1) 3 hF hg hL hR hp1 h1 hm (by omega) rfl
  rw [ht1] at hw1 hlo
  simp only at hlo
  subst hlo
  have HW1 : Hid (∀ (W : World) (E : Value) (L : List (Nat × Obj)), Fr w0 ((g, rdO A l.length c Q id E) :: L) W → (∀ q ∈ L, q.1 ≠ g) → Calls Tryz.prog 44 #[.pointer (some ⟨g, 0, none⟩), .int .i64 3] W (WantR w0 W g (rdO A l.length c (Q + 1) id E) L (tkV K1 F1 T1 N1 S1 f1))) := Lib.hid hw1
  clear hw1 h1 ht1

  subst hP
  obtain ⟨AE, cE, rfl, hrE, hcE, hmE⟩ := own_sl hO
  obtain ⟨⟨K, F, T, N, S, f⟩, ht⟩ : ∃ t, l[p] = t := ⟨_, rfl⟩
  rw [ht] at hk
  simp only at hk
  subst hk
  obtain ⟨b0, off, rfl, hb0, _⟩ := hR.at9 hp
  obtain ⟨bk, rfl⟩ : ∃ b, b = b0 := ⟨_, rfl⟩
  have HT := Lib.hid ht
  have hK : ∀ W, Hd W → Calls Tryz.prog 55 #[.int .i64 2] W fun e w' => e = .returned (.int .i64 4) ∧ w' = W := fun W hW => kindOf_ 2 W hW
  have HK := Lib.hid hK
  clear hK
  obtain ⟨n, hn⟩ : ∃ n, n = l.length := ⟨_, rfl⟩
  rw [← hn] at hF hp hm
  have Hn := Lib.hid hn
  have HR := Lib.hid hR
  have HQ := Lib.hid hQ
  have HO := Lib.hid hO
  have HF := Lib.hid hF
  have HH := Lib.hid hH
  have i1 : ((p : Int) == (n : Int)) = false := by rw [beq_eq_false_iff_ne]; omega
  have i2 : (p : Int) < (n : Int) := by omega
  have i0 : (0 : Int) ≤ (p : Int) := by omega
  have i3 : ((es.length : Int) == 64) = false := by rw [beq_eq_false_iff_ne]; omega
  obtain ⟨⟨c0, c1, c2, c3⟩, ⟨f0, f1, f2, f3⟩, l1⟩ := bx4 (hF.at (g := g) (o := rdO (some ⟨bk, off, none⟩) n c (p : Int) id (.slice AE es.length cE)) List.mem_cons_self)
  clear hF hR ht hn hO hH hQ hrE hcE hmE hb0
  go_enter Tryz.func45, Tryz.ntmps45
  go_upto_region 1 with fail
  go_cut [15] (fun s wx => s = .bool false ∧ Fr w0 [(g, rdO (some ⟨bk, off, none⟩) n c (p : Int) id (.slice AE es.length cE))] wx ∧ wx.ownsRow w0.heap.size 38 8 (.slice AE es.length cE) es.length (els es))
  case first =>
    go_quiet (fail)
    go_wp2
    go_meet
    exact ⟨rfl, HF.out.drewN _, own_below HO.out (drewN_below _ _)⟩
  case rest =>
  obtain ⟨rfl, hF2, hO2⟩ := hcut
  clear c0 c1 c2 c3 f0 f1 f2 f3 l1
  obtain ⟨bk2, off2, e2, hbk2, t0, t1, t2, t3, t4, t5, t6, t7, t8⟩ := (HR.out.below hF2.bel).at9 (by rw [← Hn.out]; exact hp)
  cases e2
  rw [HT.out] at t0 t1 t2 t3 t4 t5 t6 t7 t8
  simp only at t0 t1 t2 t3 t4 t5 t6 t7 t8
  obtain ⟨⟨c0, c1, c2, c3⟩, ⟨f0, f1, f2, f3⟩, l1⟩ := bx4 (hF2.at (g := g) (o := rdO (some ⟨bk, off, none⟩) n c (p : Int) id (.slice AE es.length cE)) List.mem_cons_self)
  have hbkw : bk < wc.heap.size := Nat.lt_of_lt_of_le hbk2 hF2.bel.size
  have HF3 := Lib.hid (((hF2.al (tkO 2 F T N S f)).drew).cons (g := wc.heap.size) (o := tkO 2 F T N S f) (alloc1_new _ _))
  have HO3 := Lib.hid (show (wc.alloc (tkO 2 F T N S f)).drew.ownsRow w0.heap.size 38 8 (.slice AE es.length cE) es.length (els es) from own_below hO2 (((Below.refl _ _).alloc (Nat.le_refl _) _).drew))
  have hne : g ≠ wc.heap.size := by omega
  clear hF2 hO2 HF HO
  go_wp2
  go_upto_region 6 with go_region
  clear c0 c1 c2 c3 f0 f1 f2 f3 l1 t0 t1 t2 t3 t4 t5 t6 t7 t8 hbkw
  generalize (wc.alloc (tkO 2 F T N S f)).drew = W4 at *
  generalize wc.heap.size = R4 at *
  obtain ⟨⟨x0, x1, x2, x3, x4, x5, x6, x7, x8⟩, _, l3⟩ := bx9 (HF3.out.at (g := R4) (o := tkO 2 F T N S f) List.mem_cons_self)
  obtain ⟨⟨c0, c1, c2, c3⟩, ⟨f0, f1, f2, f3⟩, l1⟩ := bx4 (HF3.out.at (g := g) (o := rdO (some ⟨bk, off, none⟩) n c (p : Int) id (.slice AE es.length cE)) (by simp))
  go_wp2_with fail
  (with_reducible refine (HK.out _ (HH.out.below HF3.out.bel)).mono ?_); rintro e w5 ⟨rfl, hw5⟩; subst hw5
  have hF6 : Fr w0 [(g, rdO (some ⟨bk, off, none⟩) n c Q id (.slice AE es.length cE))] (w5.setCell ⟨g, 1, none⟩ (.int .i64 Q)) := by
    have := (HF3.out.sub (M := [(g, rdO (some ⟨bk, off, none⟩) n c (p : Int) id (.slice AE es.length cE))]) (by simp)).set hg (by simp) 1 (.int .i64 Q)
    simpa using this
  have hneE : (Value.slice AE es.length cE).ownBlock ≠ some g := own_blk_ne HO3.out (HF3.out.at (g := g) (o := rdO (some ⟨bk, off, none⟩) n c (p : Int) id (.slice AE es.length cE)) (by simp)) (by decide)
  have hO6 := own_set HO3.out ⟨g, 1, none⟩ (.int .i64 Q) hneE
  have hneR : (Value.slice AE es.length cE).ownBlock ≠ some w5.heap.size := by
    intro e
    have h1 := (HO3.out.lt _ e).2
    omega
  have hgR : g ≠ w5.heap.size := by omega
  have hRw : w0.heap.size ≤ w5.heap.size := HF3.out.bel.size
  have hF7 : Fr w0 [(g, rdO (some ⟨bk, off, none⟩) n c Q id (.slice AE es.length cE)), (w5.heap.size, elO (4, S, f, 0, 0))] ((w5.setCell ⟨g, 1, none⟩ (.int .i64 Q)).alloc (elO (4, S, f, 0, 0))) :=
    (hF6.newN (g := w5.heap.size) (by simp) (elO (4, S, f, 0, 0))).sub (by simp)
  have hO7 := own_below hO6 (((Below.refl (w5.setCell ⟨g, 1, none⟩ (.int .i64 Q)).heap.size _).alloc (Nat.le_refl _) (elO (4, S, f, 0, 0))))
  have HF7 := Lib.hid hF7
  have HO7 := Lib.hid hO7
  have HNE := Lib.hid hneE
  have HNR := Lib.hid hneR
  clear hF6 hneE hO6 hF7 hO7 hneR
  rw [← Hn.out] at HW1
  go_upto_region 12 with fail
  rw [← HQ.out]
  clear c0 c1 c2 c3 f0 f1 f2 f3 l1 x0 x1 x2 x3 x4 x5 x6 x7 x8 l3 HF3 HO3
  generalize (w5.setCell ⟨g, 1, none⟩ (.int .i64 Q)).alloc (elO (4, S, f, 0, 0)) = W7 at *
  generalize w5.heap.size = R7 at *
  go_wp2_with fail
  (with_reducible refine (HW1.out _ _ _ HF7.out (by simpa using hgR.symm)).mono ?_); rintro e w6 ⟨rfl, hF8, hG8⟩
  have hO8 := own_grown HO7.out hG8 (.inr HNE.out)
  have hO9 := own_set hO8 ⟨R7, 6, none⟩ (.int .i64 N1) HNR.out
  have hF9 : Fr w0 [(g, rdO (some ⟨bk, off, none⟩) n c (Q + 1) id (.slice AE es.length cE)), (R7, elO (4, S, f, N1, 0))] (w6.setCell ⟨R7, 6, none⟩ (.int .i64 N1)) := by
    have := ((hF8.sub (M := [(R7, elO (4, S, f, 0, 0)), (g, rdO (some ⟨bk, off, none⟩) n c (Q + 1) id (.slice AE es.length cE))]) (by simp)).set hRw (by simpa using hgR) 6 (.int .i64 N1)).sub (M := [(g, rdO (some ⟨bk, off, none⟩) n c (Q + 1) id (.slice AE es.length cE)), (R7, elO (4, S, f, N1, 0))]) (by simp)
    exact this
  obtain ⟨⟨x0, x1, x2, x3, x4, x5, x6, x7⟩, ⟨q0, q1, q2, q3, q4, q5, q6, q7⟩, l3⟩ := bx8 (hF8.at (g := R7) (o := elO (4, S, f, 0, 0)) (by simp))
  have HF9 := Lib.hid hF9
  have HO9 := Lib.hid hO9
  clear hF8 hG8 hO8 hO9 hF9 HO7 HF7
  go_upto_region 13 with fail
  clear x0 x1 x2 x3 x4 x5 x6 x7 q0 q1 q2 q3 q4 q5 q6 q7 l3
  generalize w6.setCell ⟨R7, 6, none⟩ (.int .i64 N1) = W9 at *
  go_wp2_with fail
  rw [← Hn.out] at HW2
  (with_reducible refine (HW2.out _ _ _ HF9.out (by simpa using hgR.symm)).mono ?_); rintro e w8 ⟨rfl, hF10, hG10⟩
  have hO10 := own_grown HO9.out hG10 (.inr HNE.out)
  have hO11 := own_set hO10 ⟨R7, 7, none⟩ (.int .i64 N2) HNR.out
  have hF11 : Fr w0 [(R7, elO (4, S, f, N1, N2)), (g, rdO (some ⟨bk, off, none⟩) n c (Q + 1 + 1) id (.slice AE es.length cE))] (w8.setCell ⟨R7, 7, none⟩ (.int .i64 N2)) :=
    (hF10.sub (M := [(R7, elO (4, S, f, N1, 0)), (g, rdO (some ⟨bk, off, none⟩) n c (Q + 1 + 1) id (.slice AE es.length cE))]) (by simp)).set hRw (by simpa using hgR) 7 (.int .i64 N2)
  obtain ⟨⟨x0, x1, x2, x3, x4, x5, x6, x7⟩, ⟨q0, q1, q2, q3, q4, q5, q6, q7⟩, l3⟩ := bx8 (hF10.at (g := R7) (o := elO (4, S, f, N1, 0)) (by simp))
  have HF12 := Lib.hid (hF11.sub (M := [(g, rdO (some ⟨bk, off, none⟩) n c (Q + 1 + 1) id (.slice AE es.length cE))]) (by simp))
  have HX12 := Lib.hid (hF11.at (g := R7) (o := elO (4, S, f, N1, N2)) List.mem_cons_self)
  have HO12 := Lib.hid hO11
  have HEl := Lib.hid (show els (es ++ [x]) = els es ++ [.int .i64 4, .string S, .int .u64 ((wK f 0 : Nat) : Int), .int .u64 ((wK f 1 : Nat) : Int), .int .u64 ((wK f 2 : Nat) : Int), .int .u64 ((wK f 3 : Nat) : Int), .int .i64 N1, .int .i64 N2] by
    have hx2 : elC x = [.int .i64 4, .string S, .int .u64 ((wK f 0 : Nat) : Int), .int .u64 ((wK f 1 : Nat) : Int), .int .u64 ((wK f 2 : Nat) : Int), .int .u64 ((wK f 3 : Nat) : Int), .int .i64 N1, .int .i64 N2] := by
      have h := hx.out
      rw [HT.out] at h
      exact h
    rw [els_app]
    show els es ++ (elC x ++ []) = _
    rw [List.append_nil, hx2])
  clear hF10 hG10 hO10 hO11 hF11 HO9 HF9
  go_upto_region 14 with fail
  clear x0 x1 x2 x3 x4 x5 x6 x7 q0 q1 q2 q3 q4 q5 q6 q7 l3
  generalize w8.setCell ⟨R7, 7, none⟩ (.int .i64 N2) = W12 at *
  obtain ⟨⟨x0, x1, x2, x3, x4, x5, x6, x7⟩, _, l3⟩ := bx8 HX12.out
  obtain ⟨⟨c0, c1, c2, c3⟩, ⟨f0, f1, f2, f3⟩, l1⟩ := bx4 (HF12.out.at (g := g) (o := rdO (some ⟨bk, off, none⟩) n c (Q + 1 + 1) id (.slice AE es.length cE)) (by simp))
  go_region_law ((refine step_ap elEl (w0 := w0) (by exact HO12.out.alloc _) (by exact (ba HF12.out.bel _).drew) [.int .i64 4, .string S, .int .u64 ((wK f 0 : Nat) : Int), .int .u64 ((wK f 1 : Nat) : Int), .int .u64 ((wK f 2 : Nat) : Int), .int .u64 ((wK f 3 : Nat) : Int), .int .i64 N1, .int .i64 N2] (by exact alloc1_new _ _) ?_; intro g4 cap4 w4 hO4 hb4 hg4; have hF4 := far_fr HF12.out hb4 hg4 HNE.out; have z3 := Lib.cell_of_heap (hF4.at (g := g) List.mem_cons_self) 3; have y3 := Lib.frozen_of_heap (hF4.at (g := g) List.mem_cons_self) 3))
  all_goals
    have hF5 : Fr w0 [(g, rdO (some ⟨bk, off, none⟩) n c (Q + 1 + 1) id (.slice (some ⟨g4, 0, none⟩) (es.length + 1) cap4))] (w4.setCell ⟨g, 3, none⟩ (.slice (some ⟨g4, 0, none⟩) (es.length + 1) cap4)) := by
      have := hF4.set hg (by simp) 3 (.slice (some ⟨g4, 0, none⟩) (es.length + 1) cap4)
      simpa using this
    have hO5 := own_set hO4 ⟨g, 3, none⟩ (.slice (some ⟨g4, 0, none⟩) (es.length + 1) cap4) (own_blk_ne hO4 (hF4.at (g := g) List.mem_cons_self) (by decide))
    have HF5 := Lib.hid hF5
    have HO5 := Lib.hid hO5
    clear hF5 hO5 hO4 hb4 hg4 hF4 z3 y3 x0 x1 x2 x3 x4 x5 x6 x7 c0 c1 c2 c3 f0 f1 f2 f3 l1 l3
    generalize w4.setCell ⟨g, 3, none⟩ (.slice (some ⟨g4, 0, none⟩) (es.length + 1) cap4) = W9 at *
    go_wp2
    refine bodyPost_ret (v := .bool true) (by simp [results, go_sem]) rfl ⟨rfl, _, by rw [← Hn.out]; exact HF5.out, ?_⟩
    rw [List.length_append, HEl.out]
    exact HO5.out
set_option maxRecDepth 100000 in
set_option maxHeartbeats 4000000 in
theorem elem_end {w0 w : World} {g c : Nat} {A : Option Addr} {P id : Int} {E : Value} {n : Nat} {es : List El} (hF : Fr w0 [(g, rdO A n c P id E)] w) (hO : w.ownsRow w0.heap.size 38 8 E es.length (els es)) (hP : P = (n : Int)) :
    Calls Tryz.prog 45 #[ptG g] w fun e w' => e = .returned (.bool false) ∧ Fr w0 [(g, rdO A n c P id E)] w' ∧ w'.ownsRow w0.heap.size 38 8 E es.length (els es) := by
  subst hP
  have HF := Lib.hid hF
  have HO := Lib.hid hO
  have i1 : ((n : Int) == (n : Int)) = true := by simp
  obtain ⟨⟨c0, c1, c2, c3⟩, ⟨f0, f1, f2, f3⟩, l1⟩ := bx4 (hF.at (g := g) (o := rdO A n c (n : Int) id E) List.mem_cons_self)
  clear hF hO
  go_enter Tryz.func45, Tryz.ntmps45
  go_upto_region 1 with fail
  go_quiet (fail)
  go_wp2
  exact bodyPost_ret (v := .bool false) (by simp [results, go_sem]) rfl ⟨rfl, HF.out.drewN _, own_below HO.out (drewN_below _ _)⟩
set_option maxRecDepth 100000 in
set_option maxHeartbeats 4000000 in
theorem elem_full {w0 w : World} {g c p : Nat} {A : Option Addr} {P id : Int} {E : Value} {n : Nat} {es : List El} (hF : Fr w0 [(g, rdO A n c P id E)] w) (hO : w.ownsRow w0.heap.size 38 8 E es.length (els es)) (hP : P = (p : Int)) (hp : p < n) (he : es.length = 64) :
    Calls Tryz.prog 45 #[ptG g] w (FaultR w0 [] P 3) := by
  subst hP
  obtain ⟨AE, cE, rfl, hrE, hcE, hmE⟩ := own_sl hO
  have HF := Lib.hid hF
  have i1 : ((p : Int) == (n : Int)) = false := by rw [beq_eq_false_iff_ne]; omega
  rw [he] at HF hF
  obtain ⟨⟨c0, c1, c2, c3⟩, ⟨f0, f1, f2, f3⟩, l1⟩ := bx4 (hF.at (g := g) (o := rdO A n c (p : Int) id (.slice AE 64 cE)) List.mem_cons_self)
  clear hF hO he hrE hcE hmE
  go_enter Tryz.func45, Tryz.ntmps45
  go_upto_region 1 with fail
  go_quiet (fail)
  go_wp2
  exact ⟨rfl, rfl, (HF.out.drewN _).sub (by simp)⟩
set_option maxRecDepth 100000 in
set_option maxHeartbeats 4000000 in
theorem elem_bad {w0 w : World} {g p c : Nat} {A : Option Addr} {P id : Int} {E : Value} {l : List T9} {es : List El} (hF : Fr w0 [(g, rdO A l.length c P id E)] w) 
    (hR : Reads w0 w0.heap.size 9 A l.length (tks l)) (hm : l.length ≤ 100000) (hH : Hd w0) (hO : w.ownsRow w0.heap.size 38 8 E es.length (els es)) (he : es.length < 64) (hp : p < l.length)
    (hk0 : kdI l[p].1 = 0) (hP : P = (p : Int))  :
    Calls Tryz.prog 45 #[ptG g] w (FaultR w0 [] P 6) := by

  subst hP
  obtain ⟨AE, cE, rfl, hrE, hcE, hmE⟩ := own_sl hO
  obtain ⟨⟨K, F, T, N, S, f⟩, ht⟩ : ∃ t, l[p] = t := ⟨_, rfl⟩
  rw [ht] at hk0
  simp only at hk0
  obtain ⟨b0, off, rfl, hb0, _⟩ := hR.at9 hp
  obtain ⟨bk, rfl⟩ : ∃ b, b = b0 := ⟨_, rfl⟩
  have HT := Lib.hid ht
  have HK := Lib.hid (fun W (hW : Hd W) => kindOf_ K W hW)
  rw [hk0] at HK
  obtain ⟨n, hn⟩ : ∃ n, n = l.length := ⟨_, rfl⟩
  rw [← hn] at hF hp hm
  have Hn := Lib.hid hn
  have HR := Lib.hid hR
  have HO := Lib.hid hO
  have HF := Lib.hid hF
  have HH := Lib.hid hH
  have i1 : ((p : Int) == (n : Int)) = false := by rw [beq_eq_false_iff_ne]; omega
  have i2 : (p : Int) < (n : Int) := by omega
  have i0 : (0 : Int) ≤ (p : Int) := by omega
  have i3 : ((es.length : Int) == 64) = false := by rw [beq_eq_false_iff_ne]; omega
  obtain ⟨⟨c0, c1, c2, c3⟩, ⟨f0, f1, f2, f3⟩, l1⟩ := bx4 (hF.at (g := g) (o := rdO (some ⟨bk, off, none⟩) n c (p : Int) id (.slice AE es.length cE)) List.mem_cons_self)
  clear hF hR ht hn hO hH hk0 hrE hcE hmE hb0
  go_enter Tryz.func45, Tryz.ntmps45
  go_upto_region 1 with fail
  go_cut [15] (fun s wx => s = .bool false ∧ Fr w0 [(g, rdO (some ⟨bk, off, none⟩) n c (p : Int) id (.slice AE es.length cE))] wx ∧ wx.ownsRow w0.heap.size 38 8 (.slice AE es.length cE) es.length (els es))
  case first =>
    go_quiet (fail)
    go_wp2
    go_meet
    exact ⟨rfl, HF.out.drewN _, own_below HO.out (drewN_below _ _)⟩
  case rest =>
  obtain ⟨rfl, hF2, hO2⟩ := hcut
  clear c0 c1 c2 c3 f0 f1 f2 f3 l1
  obtain ⟨bk2, off2, e2, hbk2, t0, t1, t2, t3, t4, t5, t6, t7, t8⟩ := (HR.out.below hF2.bel).at9 (by rw [← Hn.out]; exact hp)
  cases e2
  rw [HT.out] at t0 t1 t2 t3 t4 t5 t6 t7 t8
  simp only at t0 t1 t2 t3 t4 t5 t6 t7 t8
  obtain ⟨⟨c0, c1, c2, c3⟩, ⟨f0, f1, f2, f3⟩, l1⟩ := bx4 (hF2.at (g := g) (o := rdO (some ⟨bk, off, none⟩) n c (p : Int) id (.slice AE es.length cE)) List.mem_cons_self)
  have hbkw : bk < wc.heap.size := Nat.lt_of_lt_of_le hbk2 hF2.bel.size
  have HF3 := Lib.hid (((hF2.al (tkO K F T N S f)).drew).cons (g := wc.heap.size) (o := tkO K F T N S f) (alloc1_new _ _))
  have HO3 := Lib.hid (show (wc.alloc (tkO K F T N S f)).drew.ownsRow w0.heap.size 38 8 (.slice AE es.length cE) es.length (els es) from own_below hO2 (((Below.refl _ _).alloc (Nat.le_refl _) _).drew))
  have hne : g ≠ wc.heap.size := by omega
  clear hF2 hO2 HF HO
  go_wp2
  go_upto_region 6 with go_region
  clear c0 c1 c2 c3 f0 f1 f2 f3 l1 t0 t1 t2 t3 t4 t5 t6 t7 t8 hbkw
  generalize (wc.alloc (tkO K F T N S f)).drew = W4 at *
  generalize wc.heap.size = R4 at *
  obtain ⟨⟨x0, x1, x2, x3, x4, x5, x6, x7, x8⟩, _, l3⟩ := bx9 (HF3.out.at (g := R4) (o := tkO K F T N S f) List.mem_cons_self)
  obtain ⟨⟨c0, c1, c2, c3⟩, ⟨f0, f1, f2, f3⟩, l1⟩ := bx4 (HF3.out.at (g := g) (o := rdO (some ⟨bk, off, none⟩) n c (p : Int) id (.slice AE es.length cE)) (by simp))
  go_wp2_with fail
  (with_reducible refine (HK.out _ (HH.out.below HF3.out.bel)).mono ?_); rintro e w5 ⟨rfl, hw5⟩; subst hw5
  go_wp2
  exact ⟨rfl, rfl, HF3.out.sub (by simp)⟩
end Go.Proofs.YtcopnpllaoahaaaGreatDoor
