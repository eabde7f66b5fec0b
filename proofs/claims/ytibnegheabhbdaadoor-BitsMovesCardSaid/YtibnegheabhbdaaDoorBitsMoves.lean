/- BitsMoves: Shift and Back go through And, Or and Not. -/
import Derived.Test.YtibnegheabhbdaaDoorB25
import Derived.Test.YtibnegheabhbdaaDoorOpenB2
import Derived.Deep.DeepCutAuto
namespace Go.Proofs.YtibnegheabhbdaaDoor
open Go.RowKit
theorem len_zip {g : Bool → Bool → Bool} {l m : List Nat} {n : Nat} (h : l.length = n) : (zipB g l m).length = n := by rw [zipB_len, h]
theorem notF_eq (x : Bool) : notF x x = !x := rfl
/-- what a round compares -/
structure Mv (n : Nat) (Z : List Nat) (b : Bool) (P Q : List Nat) (s t : Bool) : Prop where
  up : shL Z b = P
  dn : bkL Z b = Q
  so : shO Z = s
  bo : bkO Z = t
theorem mv_zip (g : Bool → Bool → Bool) {l m : List Nat} {n : Nat} (hl : l.length = n) (hm : m.length = n) (hc : chkB n = 0) (x y : Bool) : Mv n (zipB g l m) (g x y) (zipB g (shL l x) (shL m y)) (zipB g (bkL l x) (bkL m y)) (g (shO l) (shO m)) (g (bkO l) (bkO m)) := by
  subst hl
  exact ⟨(sh_zip g hc hm.symm x y).1, (bk_zip g hc hm.symm x y).1, (sh_zip g hc hm.symm x y).2, (bk_zip g hc hm.symm x y).2⟩
theorem eq2_ (a b : Bool) (W : World) : (Op.equalIn 10000 38 (Value.agg #[.bool a, .bool b]) (Value.agg #[.bool a, .bool b])).run Tryd.prog W = .ok true W := by cases a <;> cases b <;> kernel_rfl
abbrev mvK (g0 g1 g2 : Nat) (x y oS oB eS eB : Bool) : List (Nat × Obj) := [(g2, b2O eS eB), (g1, b2O oS oB), (g0, b2O x y)]
set_option maxRecDepth 100000 in
set_option maxHeartbeats 8000000 in
theorem bitsMoves_ok (w : World) (A A' : Option Addr) (c c' n : Nat) (l m : List Nat) (hS : RS w n [] [(A, l), (A', m)] w) (hc : chkB n = 0) (x y : Bool) (hT : Tz16 w) :
    Calls Tryd.prog 7 #[.slice A n c, .slice A' n c', .agg #[.bool x, .bool y]] w fun e w' => e = .returned (.bool true) ∧ Below w.heap.size w w' := by
  have hn := chkB_ok.1 hc
  have HT := Lib.hid hT
  have HS0 := Lib.hid (hS.newN rfl (b2O x y))
  have Hc := Lib.hid hc
  have hel := hS.len (A, l) (by simp)
  have hem := hS.len (A', m) (by simp)
  simp only at hel hem
  have HM0 := Lib.hid (mv_zip and hel hem hc x y)
  have HM1 := Lib.hid (mv_zip or hel hem hc x y)
  have HM2 : Hid (Mv n (zipB notF l l) (!x) (zipB notF (shL l x) (shL l x)) (zipB notF (bkL l x) (bkL l x)) (!(shO l)) (!(bkO l))) := Lib.hid (mv_zip notF hel hel hc x x)
  obtain ⟨oS, hoS⟩ : ∃ b, b = shO l := ⟨_, rfl⟩
  obtain ⟨oB, hoB⟩ : ∃ b, b = bkO l := ⟨_, rfl⟩
  obtain ⟨eS, heS⟩ : ∃ b, b = shO m := ⟨_, rfl⟩
  obtain ⟨eB, heB⟩ : ∃ b, b = bkO m := ⟨_, rfl⟩
  rw [← hoS, ← hoB] at HM0 HM1 HM2
  rw [← heS, ← heB] at HM0 HM1
  have HoS := Lib.hid hoS.symm
  have HoB := Lib.hid hoB.symm
  have HeS := Lib.hid heS.symm
  have HeB := Lib.hid heB.symm
  have Hx := Lib.hid (show (0 : Int) = chkB n from hc.symm)
  have hnn : ((n : Int) != (n : Int)) = false := by simp
  have c0 := Lib.cell_of_heap (HS0.out.blk (w.heap.size, b2O x y) (by simp)) 0
  clear hS hT hc hel hem hoS hoB heS heB
  go_enter Tryd.func7, Tryd.ntmps7
  go_wp2_with fail
  (with_reducible refine (check_ _ A c n (by omega) 0 Hx).mono ?_); rintro e w' ⟨rfl, rfl⟩
  go_wp2_with fail
  (with_reducible refine (and_ok HS0.out (A := A) (A' := A') (l := l) (m := m) (by simp) (by simp) Hc.out).mono ?_); rintro e w1 ⟨A1, c1, rfl, hS⟩
  have HS := Lib.hid hS
  clear hS HS0 c0
  go_wp2_with fail
  (with_reducible refine (or_ok HS.out (A := A) (A' := A') (l := l) (m := m) (by simp) (by simp) Hc.out).mono ?_); rintro e w2 ⟨A2, c2, rfl, hS⟩
  have HS := Lib.hid hS
  clear hS
  go_wp2_with fail
  (with_reducible refine (not_ok HS.out (A := A) (l := l) (by simp) Hc.out).mono ?_); rintro e w3 ⟨A3, c3, rfl, hS⟩
  have HS := Lib.hid hS
  have k0 := Lib.cell_of_heap (hS.blk (w.heap.size, b2O x y) (by simp)) 0
  clear hS
  go_wp2_with fail
  (with_reducible refine (moved_ok HS.out (A := A) (l := l) (by simp) Hc.out x).mono ?_); rintro e w4 ⟨A4, c4, A5, c5, rfl, hS⟩
  rw [HoS.out, HoB.out]
  have HS := Lib.hid (hS.new (b2O oS oB))
  have HN := Lib.hid (hS.blk (w.heap.size, b2O x y) (by simp))
  clear hS k0
  have k1 := Lib.cell_of_heap (HS.out.blk (w.heap.size, b2O x y) (by simp)) 1
  go_wp2_with fail
  (with_reducible refine (moved_ok HS.out (A := A') (l := m) (by simp) Hc.out y).mono ?_); rintro e w5 ⟨A6, c6, A7, c7, rfl, hS⟩
  rw [HeS.out, HeB.out]
  have HS := Lib.hid (hS.new (b2O eS eB))
  clear hS k1 HN
  obtain ⟨g1, hg1⟩ : ∃ g, g = w4.heap.size := ⟨_, rfl⟩
  obtain ⟨g2, hg2⟩ : ∃ g, g = w5.heap.size := ⟨_, rfl⟩
  rw [← hg1, ← hg2] at HS

  go_wp2_with fail
  rw [← hg1, ← hg2]
  obtain ⟨wl, hwl⟩ : ∃ wl, wl = w5.alloc (b2O eS eB) := ⟨_, rfl⟩
  have hwl' : wl = w5.alloc (Obj.cells #[.bool eS, .bool eB] 38) := hwl
  rw [← hwl] at HS
  rw [← hwl']
  clear hg1 hg2 hwl hwl'
  go_loopw [21] (fun i wr => ∃ k : Nat, k ≤ 3 ∧ i = .int .i64 k ∧ RS w n [(g2, b2O eS eB), (g1, b2O oS oB), (w.heap.size, b2O x y)] [(A7, bkL m y), (A6, shL m y), (A5, bkL l x), (A4, shL l x), (A3, zipB notF l l), (A2, zipB or l m), (A1, zipB and l m), (A, l), (A', m)] wr) (fun i _ => 3 - (intOf i).toNat)
  case atStart => exact ⟨0, by omega, rfl, HS.out⟩
  case round =>
    obtain ⟨k, hk, rfl, hS⟩ := hrel
    have HS := Lib.hid hS
    clear hS
    by_cases hk3 : k < 3
    · have k00 := Lib.cell_of_heap (HS.out.blk (w.heap.size, b2O x y) (by simp)) 0
      have k01 := Lib.cell_of_heap (HS.out.blk (w.heap.size, b2O x y) (by simp)) 1
      have k10 := Lib.cell_of_heap (HS.out.blk (g1, b2O oS oB) (by simp)) 0
      have k11 := Lib.cell_of_heap (HS.out.blk (g1, b2O oS oB) (by simp)) 1
      have k20 := Lib.cell_of_heap (HS.out.blk (g2, b2O eS eB) (by simp)) 0
      have k21 := Lib.cell_of_heap (HS.out.blk (g2, b2O eS eB) (by simp)) 1
      go_upto_region 13 with (fail)
      go_cut [22, 23, 24, 25] (fun s22 s23 s24 s25 wx => s22 = .slice A1 n c1 ∧ s23 = .bool (x && y) ∧ s24 = .bool (oS && eS) ∧ s25 = .bool (oB && eB) ∧ RS w n [(g2, b2O eS eB), (g1, b2O oS oB), (w.heap.size, b2O x y)] [(A7, bkL m y), (A6, shL m y), (A5, bkL l x), (A4, shL l x), (A3, zipB notF l l), (A2, zipB or l m), (A1, zipB and l m), (A, l), (A', m)] wx)
      case first =>
        cases x <;> cases oS <;> cases oB
        all_goals
          as_aux_lemma =>
            go_quiet (fail)
            go_wp2
            go_meet
            exact ⟨rfl, rfl, rfl, rfl, HS.out.drewN _⟩
      case rest =>
        obtain ⟨rfl, rfl, rfl, rfl, hS⟩ := hcut
        have HS := Lib.hid hS
        clear hS k00 k01 k10 k11 k20 k21
        go_wp2_with fail
        (with_reducible refine (and_ok HS.out (A := A4) (A' := A6) (l := shL l x) (m := shL m y) (by simp) (by simp) Hc.out).mono ?_); rintro e wa ⟨Aa, ca, rfl, hS⟩
        have HS := Lib.hid hS
        clear hS
        go_wp2_with fail
        (with_reducible refine (and_ok HS.out (A := A5) (A' := A7) (l := bkL l x) (m := bkL m y) (by simp) (by simp) Hc.out).mono ?_); rintro e wb ⟨Ab, cb, rfl, hS⟩
        have HS := Lib.hid hS
        clear hS
        rcases (show k = 0 ∨ k = 1 ∨ k = 2 by omega) with rfl | rfl | rfl
        · clear hk hk3
          go_wp2_with fail
          (with_reducible refine (moved_ok HS.out (A := A1) (l := zipB and l m) (by simp) Hc.out (x && y)).mono ?_); rintro e we ⟨A8, c8, A9, c9, rfl, hS⟩
          rw [HM0.out.so, HM0.out.bo]
          have HS := Lib.hid (hS.new (b2O (oS && eS) (oB && eB)))
          clear hS
          go_wp2_with fail
          (with_reducible refine (same_ok HS.out (A := A8) (A' := Aa) (l := shL (zipB and l m) (x && y)) (m := zipB and (shL l x) (shL m y)) (by simp) (by simp) HM0.out.up (by omega)).mono ?_); rintro e wf ⟨rfl, hS⟩
          have HS := Lib.hid hS
          clear hS
          go_wp2_with fail
          (with_reducible refine (same_ok HS.out (A := A9) (A' := Ab) (l := bkL (zipB and l m) (x && y)) (m := zipB and (bkL l x) (bkL m y)) (by simp) (by simp) HM0.out.dn (by omega)).mono ?_); rintro e wg ⟨rfl, hS⟩
          have z0 := Lib.cell_of_heap (hS.blk (we.heap.size, b2O (oS && eS) (oB && eB)) (by simp)) 0
          have z1 := Lib.cell_of_heap (hS.blk (we.heap.size, b2O (oS && eS) (oB && eB)) (by simp)) 1
          have hS2 : RS w n [(g2, b2O eS eB), (g1, b2O oS oB), (w.heap.size, b2O x y)] [(A7, bkL m y), (A6, shL m y), (A5, bkL l x), (A4, shL l x), (A3, zipB notF l l), (A2, zipB or l m), (A1, zipB and l m), (A, l), (A', m)] wg := (hS.sub fun p hp => List.mem_cons_of_mem _ (List.mem_cons_of_mem _ (List.mem_cons_of_mem _ (List.mem_cons_of_mem _ (hp))))).sub' fun p hp => List.mem_cons_of_mem _ hp
          have HSz := Lib.hid hS2
          clear hS2
          clear hS
          generalize (oS && eS) = bs at *
          generalize (oB && eB) = bb at *
          have heq := eq2_ bs bb
          go_wp2
          go_roundw
          case rel => exact ⟨1, by omega, rfl, HSz.out⟩
          case measure => simp [intOf]
        · clear hk hk3
          have k00 := Lib.cell_of_heap (HS.out.blk (w.heap.size, b2O x y) (by simp)) 0
          have k01 := Lib.cell_of_heap (HS.out.blk (w.heap.size, b2O x y) (by simp)) 1
          have k10 := Lib.cell_of_heap (HS.out.blk (g1, b2O oS oB) (by simp)) 0
          have k11 := Lib.cell_of_heap (HS.out.blk (g1, b2O oS oB) (by simp)) 1
          have k20 := Lib.cell_of_heap (HS.out.blk (g2, b2O eS eB) (by simp)) 0
          have k21 := Lib.cell_of_heap (HS.out.blk (g2, b2O eS eB) (by simp)) 1
          go_upto_region 17 with (fail)
          go_cut [22, 23, 24, 25] (fun s22 s23 s24 s25 wx => s22 = .slice A2 n c2 ∧ s23 = .bool (x || y) ∧ s24 = .bool (oS || eS) ∧ s25 = .bool (oB || eB) ∧ RS w n [(g2, b2O eS eB), (g1, b2O oS oB), (w.heap.size, b2O x y)] [(Ab, zipB and (bkL l x) (bkL m y)), (Aa, zipB and (shL l x) (shL m y)), (A7, bkL m y), (A6, shL m y), (A5, bkL l x), (A4, shL l x), (A3, zipB notF l l), (A2, zipB or l m), (A1, zipB and l m), (A, l), (A', m)] wx)
          case first =>
            cases x <;> cases oS <;> cases oB
            all_goals
              as_aux_lemma =>
                go_quiet (fail)
                go_wp2
                go_meet
                exact ⟨rfl, rfl, rfl, rfl, HS.out.drewN _⟩
          case rest =>
            obtain ⟨rfl, rfl, rfl, rfl, hS⟩ := hcut
            have HS := Lib.hid hS
            clear hS k00 k01 k10 k11 k20 k21
            go_wp2_with fail
            (with_reducible refine (or_ok HS.out (A := A4) (A' := A6) (l := shL l x) (m := shL m y) (by simp) (by simp) Hc.out).mono ?_); rintro e wc ⟨Ap, cp, rfl, hS⟩
            have HS := Lib.hid hS
            clear hS
            go_wp2_with fail
            (with_reducible refine (or_ok HS.out (A := A5) (A' := A7) (l := bkL l x) (m := bkL m y) (by simp) (by simp) Hc.out).mono ?_); rintro e wd ⟨Aq, cq, rfl, hS⟩
            have HS := Lib.hid hS
            clear hS
            go_wp2_with fail
            (with_reducible refine (moved_ok HS.out (A := A2) (l := zipB or l m) (by simp) Hc.out (x || y)).mono ?_); rintro e we ⟨A8, c8, A9, c9, rfl, hS⟩
            rw [HM1.out.so, HM1.out.bo]
            have HS := Lib.hid (hS.new (b2O (oS || eS) (oB || eB)))
            clear hS
            go_wp2_with fail
            (with_reducible refine (same_ok HS.out (A := A8) (A' := Ap) (l := shL (zipB or l m) (x || y)) (m := zipB or (shL l x) (shL m y)) (by simp) (by simp) HM1.out.up (by omega)).mono ?_); rintro e wf ⟨rfl, hS⟩
            have HS := Lib.hid hS
            clear hS
            go_wp2_with fail
            (with_reducible refine (same_ok HS.out (A := A9) (A' := Aq) (l := bkL (zipB or l m) (x || y)) (m := zipB or (bkL l x) (bkL m y)) (by simp) (by simp) HM1.out.dn (by omega)).mono ?_); rintro e wg ⟨rfl, hS⟩
            have z0 := Lib.cell_of_heap (hS.blk (we.heap.size, b2O (oS || eS) (oB || eB)) (by simp)) 0
            have z1 := Lib.cell_of_heap (hS.blk (we.heap.size, b2O (oS || eS) (oB || eB)) (by simp)) 1
            have hS2 : RS w n [(g2, b2O eS eB), (g1, b2O oS oB), (w.heap.size, b2O x y)] [(A7, bkL m y), (A6, shL m y), (A5, bkL l x), (A4, shL l x), (A3, zipB notF l l), (A2, zipB or l m), (A1, zipB and l m), (A, l), (A', m)] wg := (hS.sub fun p hp => List.mem_cons_of_mem _ (List.mem_cons_of_mem _ (List.mem_cons_of_mem _ (List.mem_cons_of_mem _ (List.mem_cons_of_mem _ (List.mem_cons_of_mem _ (hp))))))).sub' fun p hp => List.mem_cons_of_mem _ hp
            have HSz := Lib.hid hS2
            clear hS2
            clear hS
            generalize (oS || eS) = bs at *
            generalize (oB || eB) = bb at *
            have heq := eq2_ bs bb
            go_wp2
            go_roundw
            case rel => exact ⟨2, by omega, rfl, HSz.out⟩
            case measure => simp [intOf]
        · clear hk hk3
          have k00 := Lib.cell_of_heap (HS.out.blk (w.heap.size, b2O x y) (by simp)) 0
          have k01 := Lib.cell_of_heap (HS.out.blk (w.heap.size, b2O x y) (by simp)) 1
          have k10 := Lib.cell_of_heap (HS.out.blk (g1, b2O oS oB) (by simp)) 0
          have k11 := Lib.cell_of_heap (HS.out.blk (g1, b2O oS oB) (by simp)) 1
          have k20 := Lib.cell_of_heap (HS.out.blk (g2, b2O eS eB) (by simp)) 0
          have k21 := Lib.cell_of_heap (HS.out.blk (g2, b2O eS eB) (by simp)) 1
          go_upto_region 21 with (fail)
          go_cut [22, 23, 24, 25] (fun s22 s23 s24 s25 wx => s22 = .slice A3 n c3 ∧ s23 = .bool (!x) ∧ s24 = .bool (!oS) ∧ s25 = .bool (!oB) ∧ RS w n [(g2, b2O eS eB), (g1, b2O oS oB), (w.heap.size, b2O x y)] [(Ab, zipB and (bkL l x) (bkL m y)), (Aa, zipB and (shL l x) (shL m y)), (A7, bkL m y), (A6, shL m y), (A5, bkL l x), (A4, shL l x), (A3, zipB notF l l), (A2, zipB or l m), (A1, zipB and l m), (A, l), (A', m)] wx)
          case first =>
            as_aux_lemma =>
              go_quiet (fail)
              go_wp2
              go_meet
              exact ⟨rfl, rfl, rfl, rfl, HS.out.drewN _⟩
          case rest =>
            obtain ⟨rfl, rfl, rfl, rfl, hS⟩ := hcut
            have HS := Lib.hid hS
            clear hS k00 k01 k10 k11 k20 k21
            go_wp2_with fail
            (with_reducible refine (not_ok HS.out (A := A4) (l := shL l x) (by simp) Hc.out).mono ?_); rintro e wc ⟨Ap, cp, rfl, hS⟩
            have HS := Lib.hid hS
            clear hS
            go_wp2_with fail
            (with_reducible refine (not_ok HS.out (A := A5) (l := bkL l x) (by simp) Hc.out).mono ?_); rintro e wd ⟨Aq, cq, rfl, hS⟩
            have HS := Lib.hid hS
            clear hS
            go_wp2_with fail
            (with_reducible refine (moved_ok HS.out (A := A3) (l := zipB notF l l) (by simp) Hc.out (!x)).mono ?_); rintro e we ⟨A8, c8, A9, c9, rfl, hS⟩
            rw [HM2.out.so, HM2.out.bo]
            have HS := Lib.hid (hS.new (b2O (!oS) (!oB)))
            clear hS
            go_wp2_with fail
            (with_reducible refine (same_ok HS.out (A := A8) (A' := Ap) (l := shL (zipB notF l l) (!x)) (m := zipB notF (shL l x) (shL l x)) (by simp) (by simp) HM2.out.up (by omega)).mono ?_); rintro e wf ⟨rfl, hS⟩
            have HS := Lib.hid hS
            clear hS
            go_wp2_with fail
            (with_reducible refine (same_ok HS.out (A := A9) (A' := Aq) (l := bkL (zipB notF l l) (!x)) (m := zipB notF (bkL l x) (bkL l x)) (by simp) (by simp) HM2.out.dn (by omega)).mono ?_); rintro e wg ⟨rfl, hS⟩
            have z0 := Lib.cell_of_heap (hS.blk (we.heap.size, b2O (!oS) (!oB)) (by simp)) 0
            have z1 := Lib.cell_of_heap (hS.blk (we.heap.size, b2O (!oS) (!oB)) (by simp)) 1
            have hS2 : RS w n [(g2, b2O eS eB), (g1, b2O oS oB), (w.heap.size, b2O x y)] [(A7, bkL m y), (A6, shL m y), (A5, bkL l x), (A4, shL l x), (A3, zipB notF l l), (A2, zipB or l m), (A1, zipB and l m), (A, l), (A', m)] wg := (hS.sub fun p hp => List.mem_cons_of_mem _ (List.mem_cons_of_mem _ (List.mem_cons_of_mem _ (List.mem_cons_of_mem _ (List.mem_cons_of_mem _ (List.mem_cons_of_mem _ (hp))))))).sub' fun p hp => List.mem_cons_of_mem _ hp
            have HSz := Lib.hid hS2
            clear hS2
            clear hS
            generalize (!oS) = bs at *
            generalize (!oB) = bb at *
            have heq := eq2_ bs bb
            go_wp2
            go_roundw
            case rel => exact ⟨3, by omega, rfl, HSz.out⟩
            case measure => simp [intOf]
    · obtain rfl : k = 3 := by omega
      clear hk hk3
      go_wp2_with fail
      (with_reducible refine (awake_ok HS.out HT.out).mono ?_); rintro e wz ⟨rfl, hB⟩
      go_wp2
      go_ret
      exact ⟨rfl, hB⟩
set_option maxRecDepth 100000 in
set_option maxHeartbeats 2000000 in
theorem bitsMoves_no (w : World) (A A' : Option Addr) (c c' : Nat) (l m : List Nat) (hl : l.length ≤ 9223372036854775807) (hl' : m.length ≤ 9223372036854775807) (x y : Bool) (hT : Tz16 w) (hno : chkB l.length ≠ 0 ∨ l.length ≠ m.length) :
    Calls Tryd.prog 7 #[.slice A l.length c, .slice A' m.length c', .agg #[.bool x, .bool y]] w fun e w' => e = .returned (.bool true) ∧ Below w.heap.size w w' := by
  obtain ⟨E, hE⟩ : ∃ E, E = chkB l.length := ⟨_, rfl⟩
  have hB0 : Below w.heap.size w (w.alloc (b2O x y)) := ba (Below.refl _ _) _
  have HT := Lib.hid (tz16_below hT hB0)
  have HE := Lib.hid hE
  rw [← hE] at hno
  have hB0' := Lib.hid hB0
  clear hE hT hB0
  by_cases h0 : E = 0
  · subst h0
    have e1 : ((l.length : Int) != (m.length : Int)) = true := by simp; omega
    clear hno
    go_enter Tryd.func7, Tryd.ntmps7
    go_wp2_with fail
    (with_reducible refine (check_ _ A c l.length hl 0 HE).mono ?_); rintro e w' ⟨rfl, rfl⟩
    go_wp2_with fail
    (with_reducible refine (awake_ _ HT.out).mono ?_); rintro e w1 ⟨rfl, hb1⟩
    have hB := bt hB0'.out hb1
    go_wp2
    go_ret
    exact ⟨rfl, hB⟩
  · have e1 : (E != 0) = true := by simpa using h0
    clear hno h0
    go_enter Tryd.func7, Tryd.ntmps7
    go_wp2_with fail
    (with_reducible refine (check_ _ A c l.length hl E HE).mono ?_); rintro e w' ⟨rfl, rfl⟩
    go_wp2_with fail
    (with_reducible refine (awake_ _ HT.out).mono ?_); rintro e w1 ⟨rfl, hb1⟩
    have hB := bt hB0'.out hb1
    go_wp2
    go_ret
    exact ⟨rfl, hB⟩
theorem bitsMoves_walk (W : World) (A : Option Addr) (c : Nat) (L : List Int) (h : Reads W W.heap.size 1 A L.length (L.map (Value.int .u64))) (hx : ∀ x ∈ L, 0 ≤ x ∧ x ≤ 18446744073709551615) (hc : L.length ≤ c ∧ c ≤ 9223372036854775807)
    (A' : Option Addr) (c' : Nat) (L' : List Int) (h' : Reads W W.heap.size 1 A' L'.length (L'.map (Value.int .u64))) (hx' : ∀ x ∈ L', 0 ≤ x ∧ x ≤ 18446744073709551615) (hc' : L'.length ≤ c' ∧ c' ≤ 9223372036854775807) (x y : Bool) (hT : Tzt W) :
    Calls Tryd.prog 7 #[.slice A L.length c, .slice A' L'.length c', .agg #[.bool x, .bool y]] W fun e w' => e = .returned (.bool true) ∧ Below W.heap.size W w' := by
  obtain ⟨l, e1, hw, e2⟩ := nats_of hx
  obtain ⟨l', e1', hw', e2'⟩ := nats_of hx'
  rw [e1] at h
  rw [e1'] at h'
  rw [← e2] at h hc ⊢
  rw [← e2'] at h' hc' ⊢
  by_cases h0 : chkB l.length = 0
  · by_cases hll : l.length = l'.length
    · rw [← hll] at h' ⊢
      exact bitsMoves_ok W A A' c c' l.length l l' (((RS.start W l.length).add h' hll.symm hw').add h rfl hw) h0 x y hT.of16
    · exact bitsMoves_no W A A' c c' l l' (by omega) (by omega) x y hT.of16 (.inr hll)
  · exact bitsMoves_no W A A' c c' l l' (by omega) (by omega) x y hT.of16 (.inl h0)

end Go.Proofs.YtibnegheabhbdaaDoor
