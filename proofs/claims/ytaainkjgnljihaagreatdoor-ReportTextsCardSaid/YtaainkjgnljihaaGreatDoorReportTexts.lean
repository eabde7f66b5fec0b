/- ReportTexts: Print and Parse answer as the document says, and undo each other. -/
import Derived.Test.YtaainkjgnljihaaGreatDoorV5
import Derived.Test.YtaainkjgnljihaaGreatDoorV4
import Derived.Test.YtaainkjgnljihaaGreatDoorR10
namespace Go.Proofs.YtaainkjgnljihaaGreatDoor
open Go.RowKit
theorem prR_size (l : List Hit) (o : Bool) (d k : Int) : (prR l o d k).size ≤ 2000 := by
  by_cases h : (chkR l o d k).2 = 0
  · obtain ⟨hk, hlk, hw0, hd, _⟩ := chkR_ok h
    have h1 := headL_len l.length d (by omega) hd
    have h2 := hitsL_len l (wrgF_ok l 0 none hw0)
    unfold prR
    rw [if_pos h]
    show (prL l d).length ≤ _
    unfold prL
    rw [List.length_append]
    omega
  · unfold prR
    rw [if_neg h]
    show 0 ≤ _
    omega
theorem eqR_self (l : List Hit) (o : Bool) (d : Int) : eqR l l o o d d = true := by simp [eqR]
set_option maxRecDepth 100000 in
set_option maxHeartbeats 4000000 in
theorem reportTexts_walk (w : World) (A : Option Addr) (c : Nat) (l : List Hit) (o : Bool) (d : Int) (h : Reads w w.heap.size 2 A l.length (hits l)) (hc : l.length ≤ c ∧ c ≤ 9223372036854775807) (_hd : -9223372036854775808 ≤ d ∧ d ≤ 9223372036854775807)
    (s : ByteArray) (hs : s.size ≤ 140737488351232) (k : Int) (_hk : (Lit.int .i64 k).wf = true) (hP : Pow w) (hR : ER w) (hE : Esc w) (hM : ML w) :
    Calls Tryz.prog 3 #[repV A l.length c o d, .string s, .int .i64 k] w fun e w' => e = .returned (.bool true) ∧ Below w.heap.size w w' := by
  have hl : l.length ≤ 9223372036854775807 := Nat.le_trans hc.1 hc.2
  have HP := Lib.hid hP
  have hE0 := Lib.hid (And.intro hE (And.intro hM hR))
  have hF := (Fr.start w).newN rfl (repO A l.length c o d)
  have Hp1 := Lib.hid (fun w1 (hb : Below w.heap.size w w1) => print_any w1 A c l (h.go hb) hl o d k (hP.below hb))
  have Hp2 := Lib.hid (fun w1 (hb : Below w.heap.size w w1) => rprint_any w1 A c l (h.go hb) hl o d k)
  have HRl := Lib.hid h
  have hO := hF.at (g := w.heap.size) List.mem_cons_self
  have c0 := Lib.cell_of_heap hO 0
  have c1 := Lib.cell_of_heap hO 1
  have c2 := Lib.cell_of_heap hO 2
  have HF := Lib.hid hF
  clear hP hF h hO hc
  by_cases h100 : 100 < l.length
  · have i1 : (100 : Int) < (l.length : Int) := by omega
    go_enter Tryz.func3, Tryz.ntmps3
    go_wp2_with fail
    (with_reducible refine (shown_ _ (by exact HP.out.below HF.out.bel)).mono ?_); rintro e w1 ⟨rfl, hb1⟩
    have hB := (HF.out.go hb1).bel
    go_wp2
    go_ret
    exact ⟨rfl, hB⟩
  have i1 : ¬ ((100 : Int) < (l.length : Int)) := by omega
  by_cases h2000 : 2000 < s.size
  · have i2 : (2000 : Int) < (s.size : Int) := by omega
    go_enter Tryz.func3, Tryz.ntmps3
    go_wp2_with fail
    (with_reducible refine (shown_ _ (by exact HP.out.below HF.out.bel)).mono ?_); rintro e w1 ⟨rfl, hb1⟩
    have hB := (HF.out.go hb1).bel
    go_wp2
    go_ret
    exact ⟨rfl, hB⟩
  have i2 : ¬ ((2000 : Int) < (s.size : Int)) := by omega
  obtain ⟨q, hq⟩ : ∃ q, psR s k = q := ⟨_, rfl⟩
  have Hq := Lib.hid hq
  have Hs1 := Lib.hid (fun w1 (hb : Below w.heap.size w w1) => by
    have := parse_ s k w1 (hE.below hb) (hM.below hb) (hR.below hb) (by omega)
    rw [hq] at this
    exact this)
  have Hs2 := Lib.hid (fun w1 => by
    have := rparse_ s k w1 (by omega)
    rw [hq] at this
    exact this)
  obtain ⟨T, hT⟩ : ∃ T, prR l o d k = T := ⟨_, rfl⟩
  rcases hck : chkR l o d k with ⟨I, E⟩
  have HT := Lib.hid hT
  have Hck := Lib.hid hck
  have Hp1 := Lib.hid (fun w1 (hb : Below w.heap.size w w1) => by
    have := Hp1.out w1 hb
    rw [hT, hck] at this
    exact this)
  have Hp2 := Lib.hid (fun w1 (hb : Below w.heap.size w w1) => by
    have := Hp2.out w1 hb
    rw [hT, hck] at this
    exact this)
  clear hq hT hck h100 h2000
  go_enter Tryz.func3, Tryz.ntmps3
  go_wp2_with fail
  (with_reducible refine (Hp1.out _ HF.out.bel).mono ?_); rintro e w1 ⟨rfl, hb1⟩
  have HF1 := Lib.hid (HF.out.go hb1)
  clear c0 c1 c2 hb1 HF
  have c0 := Lib.cell_of_heap (HF1.out.at (g := w.heap.size) List.mem_cons_self) 0
  have c1 := Lib.cell_of_heap (HF1.out.at (g := w.heap.size) List.mem_cons_self) 1
  have c2 := Lib.cell_of_heap (HF1.out.at (g := w.heap.size) List.mem_cons_self) 2
  go_wp2_with fail
  (with_reducible refine (Hp2.out _ HF1.out.bel).mono ?_); rintro e w2 ⟨rfl, hb2⟩
  have HF2 := Lib.hid (HF1.out.go hb2)
  clear c0 c1 c2 hb2 HF1 Hp2
  go_wp2_with fail
  (with_reducible refine (Hs1.out _ HF2.out.bel).mono ?_); rintro e w3 ⟨A3, c3, rfl, hb3, hr3, hl3, hm3⟩
  have HF3 := Lib.hid ((HF2.out.go hb3).new (repO A3 q.l.length c3 (decide (0 < q.d)) q.d))
  have HR3 := Lib.hid (hr3.al (repO A3 q.l.length c3 (decide (0 < q.d)) q.d))
  have hl3' : q.l.length ≤ 9223372036854775807 := Nat.le_trans hl3 hm3
  clear hb3 hr3 HF2 hl3 hm3
  go_wp2_with fail
  (with_reducible refine (Hs2.out _).mono ?_); rintro e w4 ⟨A4, c4, rfl, hb4, hr4, _, _⟩
  have HF4 := Lib.hid ((HF3.out.go hb4).new (repO A4 q.l.length c4 (decide (0 < q.d)) q.d))
  have HR3 := Lib.hid ((HR3.out.go hb4).al (repO A4 q.l.length c4 (decide (0 < q.d)) q.d))
  have HR4 := Lib.hid (hr4.al (repO A4 q.l.length c4 (decide (0 < q.d)) q.d))
  clear hb4 hr4 HF3 Hs2
  have g1 := HF4.out.at (List.mem_cons_of_mem _ List.mem_cons_self)
  have g2 := HF4.out.at List.mem_cons_self
  have k10 := Lib.cell_of_heap g1 0
  have k11 := Lib.cell_of_heap g1 1
  have k12 := Lib.cell_of_heap g1 2
  have k20 := Lib.cell_of_heap g2 0
  have k21 := Lib.cell_of_heap g2 1
  have k22 := Lib.cell_of_heap g2 2
  have Heq := Lib.hid (equal_ _ A3 A4 c3 c4 q.l q.l HR3.out HR4.out hl3' (decide (0 < q.d)) (decide (0 < q.d)) q.d q.d true (Lib.hid (eqR_self _ _ _).symm))
  clear g1 g2 HR4
  obtain ⟨QL, QD, QP, QE⟩ := q
  simp only at HF4 HR3 hl3' k10 k11 k12 k20 k21 k22 Heq ⊢
  generalize hOO : decide (0 < QD) = OO at *
  have HOO := Lib.hid hOO
  clear hOO
  go_wp2_with fail
  (with_reducible refine (Heq.out).mono ?_); rintro e w5 ⟨rfl, hb5⟩
  have HF5 := Lib.hid (HF4.out.go hb5)
  have HR5 := Lib.hid (HR3.out.go hb5)
  clear hb5 HF4 HR3 Heq k10 k11 k12 k20 k21 k22
  have HF6 := Lib.hid (HF5.out.sub (M := [(w3.heap.size, repO A3 QL.length c3 OO QD), (w.heap.size, repO A l.length c o d)]) (by intro q hq; simp at hq ⊢; rcases hq with h | h <;> simp [h]))
  clear HF5
  generalize w3.heap.size = b3 at *
  go_upto_if 83 with (fail)
  go_cut [] (fun wx => Fr w [(b3, repO A3 QL.length c3 OO QD), (w.heap.size, repO A l.length c o d)] wx ∧ Reads wx wx.heap.size 2 A3 QL.length (hits QL))
  case first =>
    by_cases hE : E = 0
    · obtain ⟨hps, ho⟩ := ps_pr (l := l) (o := o) (d := d) (k := k) (by rw [Hck.out]; exact hE)
      rw [HT.out] at hps
      have hp6 := parse_ T k w5 (hE0.out.1.below HF6.out.bel) (hE0.out.2.1.below HF6.out.bel) (hE0.out.2.2.below HF6.out.bel) (by have := prR_size l o d k; rw [HT.out] at this; omega)
      rw [hps] at hp6
      have Hp6 : Hid (Calls Tryz.prog 7 #[.string T, .int .i64 k] w5 (RetPar w5 ⟨l, d, 0, 0⟩)) := Lib.hid hp6
      have Ho := Lib.hid ho
      subst hE
      clear hps hp6 ho
      have g1 := HF6.out.at (g := w.heap.size) (o := repO A l.length c o d) (by simp)
      go_wp2_with fail
      (with_reducible refine (Hp6.out).mono ?_); rintro e w6 ⟨A6, c6, rfl, hb6, hr6, hl6, hm6⟩
      dsimp only at hr6 hl6
      dsimp only
      rw [← Ho.out]
      have HF7 := Lib.hid ((HF6.out.go hb6).new (repO A6 l.length c6 o d))
      have HR7 := Lib.hid ((HR5.out.go hb6).al (repO A6 l.length c6 o d))
      have heq := Lib.hid (equal_ _ A6 A c6 c l l (hr6.al (repO A6 l.length c6 o d)) (HRl.out.go HF7.out.bel) hl o o d d true (Lib.hid (eqR_self _ _ _).symm))
      clear hb6 hr6 hl6 hm6 g1 HF6 HR5
      have g1 := HF7.out.at (g := w.heap.size) (o := repO A l.length c o d) (by simp)
      have g2 := HF7.out.at List.mem_cons_self
      have k10 := Lib.cell_of_heap g1 0
      have k11 := Lib.cell_of_heap g1 1
      have k12 := Lib.cell_of_heap g1 2
      have k20 := Lib.cell_of_heap g2 0
      have k21 := Lib.cell_of_heap g2 1
      have k22 := Lib.cell_of_heap g2 2
      clear g1 g2
      go_wp2_with fail
      (with_reducible refine (heq.out).mono ?_); rintro e w7 ⟨rfl, hb7⟩
      have HF8 := Lib.hid ((HF7.out.go hb7).sub (M := [(b3, repO A3 QL.length c3 OO QD), (w.heap.size, repO A l.length c o d)]) (by intro q hq; simp at hq ⊢; rcases hq with h | h <;> simp [h]))
      have HR8 := Lib.hid (HR7.out.go hb7)
      clear hb7 heq k10 k11 k12 k20 k21 k22 HF7 HR7
      go_wp2
      go_meet
      exact ⟨HF8.out, HR8.out⟩
    · have e1 : (E == 0) = false := by simpa using hE
      clear hE
      go_wp2
      go_meet
      exact ⟨HF6.out, HR5.out⟩
  case rest =>
    obtain ⟨hF7, hr7⟩ := hcut
    have HF7 := Lib.hid hF7
    have HR7 := Lib.hid hr7
    clear hF7 hr7 HF6 HR5
    by_cases hQ : QE = 0
    · have hpp := pr_ps (s := s) (k := k) (by rw [Hq.out]; exact hQ)
      rw [Hq.out] at hpp
      simp only [HOO.out] at hpp
      obtain ⟨hp1, hp2⟩ := hpp
      have hpr := print_any wc A3 c3 QL HR7.out hl3' OO QD k (HP.out.below HF7.out.bel)
      rw [hp1, hp2] at hpr
      have Hpr := Lib.hid hpr
      subst hQ
      clear hpr hp1 hp2
      have g1 := HF7.out.at (g := b3) (o := repO A3 QL.length c3 OO QD) (by simp)
      have k10 := Lib.cell_of_heap g1 0
      have k11 := Lib.cell_of_heap g1 1
      have k12 := Lib.cell_of_heap g1 2
      clear g1
      go_wp2_with fail
      (with_reducible refine (Hpr.out).mono ?_); rintro e w8 ⟨rfl, hb8⟩
      have HF8 := Lib.hid (HF7.out.go hb8)
      clear hb8 k10 k11 k12
      go_wp2_with fail
      (with_reducible refine (shown_ _ (by exact HP.out.below HF8.out.bel)).mono ?_); rintro e w9 ⟨rfl, hb9⟩
      have hB := (HF8.out.go hb9).bel
      go_wp2
      go_ret
      exact ⟨rfl, hB⟩
    · have e1 : (QE == 0) = false := by simpa using hQ
      clear hQ
      go_wp2_with fail
      (with_reducible refine (shown_ _ (by exact HP.out.below HF7.out.bel)).mono ?_); rintro e w9 ⟨rfl, hb9⟩
      have hB := (HF7.out.go hb9).bel
      go_wp2
      go_ret
      exact ⟨rfl, hB⟩
end Go.Proofs.YtaainkjgnljihaaGreatDoor
