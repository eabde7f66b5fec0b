/- ReportMakes: Make and Merge answer as the reference does. -/
import Derived.Test.YtokcbdaoofjbgaaDoorR15
import Derived.Test.YtokcbdaoofjbgaaDoorR10
import Derived.Test.YtokcbdaoofjbgaaDoorOpenReps
namespace Go.Proofs.YtokcbdaoofjbgaaDoor
open Go.RowKit
set_option maxRecDepth 100000 in
set_option maxHeartbeats 4000000 in
theorem reportMakes_good (w : World) (A : Option Addr) (c : Nat) (l : List Hit) (h : Reads w w.heap.size 2 A l.length (hits l)) (hc : l.length ≤ c ∧ c ≤ 9223372036854775807) (A' : Option Addr) (c' : Nat) (L : List Rp) (h' : IsReps w A' L) (hL : L.length ≤ 9223372036854775807) (k : Int) (hP : Pow w)
    (hg1 : l.length ≤ 300 ∨ (20000 < l.length ∧ l.length ≤ 20005)) (hg2 : L.length ≤ 40 ∨ (1000 < L.length ∧ L.length ≤ 1005)) :
    Calls Tryd.prog 4 #[.slice A l.length c, .slice A' L.length c', .int .i64 k] w fun e w' => e = .returned (.bool true) ∧ Below w.heap.size w w' := by
  have HP := Lib.hid hP
  have Hm := Lib.hid (fun w1 (hb : Below w.heap.size w w1) => make_any w1 A c l (h.go hb) (Nat.le_trans hc.1 hc.2) k)
  have Hrm := Lib.hid (fun w1 (hb : Below w.heap.size w w1) => rmake_ w1 A c l (h.go hb) hc k)
  have Hg := Lib.hid (fun w1 (hb : Below w.heap.size w w1) => merge_ w1 A' c' L (h'.go hb) hL k)
  have Hrg := Lib.hid (fun w1 (hb : Below w.heap.size w w1) => rmerge_ w1 A' c' L (h'.go hb) hL k)
  have HL := Lib.hid h'
  clear hP h h' hc
  go_enter Tryd.func4, Tryd.ntmps4
  rcases hg1 with p1 | ⟨p1, p2⟩ <;> rcases hg2 with q1 | ⟨q1, q2⟩
  case inl.inl =>
    have e1 : ¬ (300 < l.length) := by omega
    have e2 : ¬ (20005 < l.length) := by omega
    have e3 : ¬ (40 < L.length) := by omega
    have e4 : ¬ (1005 < L.length) := by omega
    go_wp2_with fail
    go_loopw [6, 7] (fun a i wr => ∃ j : Nat, j ≤ L.length ∧ i = .int .i64 j ∧ a = .bool false ∧ Below w.heap.size w wr) (fun _ i _ => L.length - (intOf i).toNat)
    case atStart => exact ⟨0, Nat.zero_le _, rfl, rfl, Below.refl _ _⟩
    case round =>
      obtain ⟨j, hj, rfl, rfl, hB⟩ := hrel
      by_cases hjl : j < L.length
      · obtain ⟨b, off, r, rfl, hb, D1, _, _, hd, _, hlr, _⟩ := rpAt HL.out hjl
        have d1 := (hB.cell (p := ⟨b, off + j * 3, none⟩) hb).trans D1
        have hbw : b < wr.heap.size := Nat.lt_of_lt_of_le hb hB.size
        clear D1 hd
        by_cases h40 : 40 < r.l.length
        · go_wp2_with fail
          (with_reducible refine (shown_ _ (by exact HP.out.below hB)).mono ?_); rintro e w1 ⟨rfl, hb1⟩
          have hB1 := bt hB hb1
          go_wp2
          go_ret
          exact ⟨rfl, hB1⟩
        · go_wp2
          go_roundw
          case rel => exact ⟨j + 1, by omega, by go_num, rfl, hB⟩
          case measure => simp [intOf]; omega
      · obtain rfl : j = L.length := by omega
        go_wp2_with fail
        (with_reducible refine (Hm.out _ hB).mono ?_); rintro e w1 hret
        obtain ⟨A1, c1, rfl, hb1, hr1, hc1, hc2⟩ := hret
        have hF1 := (Fr.nil (bt hB hb1)).new (repO A1 (mkL l k).length c1 (mkO l k) (mkD l k))
        have hr1 := hr1.al (repO A1 (mkL l k).length c1 (mkO l k) (mkD l k))
        clear hb1 hB
        go_wp2_with fail
        (with_reducible refine (Hrm.out _ (by exact hF1.bel)).mono ?_); rintro e w2 hret
        obtain ⟨A2, c2, rfl, hb2, hr2, _, _⟩ := hret
        have hF2 := (hF1.go hb2).new (repO A2 (mkL l k).length c2 (mkO l k) (mkD l k))
        have hr1 := (hr1.go hb2).al (repO A2 (mkL l k).length c2 (mkO l k) (mkD l k))
        have hr2 := hr2.al (repO A2 (mkL l k).length c2 (mkO l k) (mkD l k))
        have hlm : (mkL l k).length ≤ 9223372036854775807 := Nat.le_trans hc1 hc2
        clear hb2 hF1
        go_wp2_with fail
        (with_reducible refine (Hg.out _ (by exact hF2.bel)).mono ?_); rintro e w3 hret
        obtain ⟨A3, c3, rfl, hb3, hr3, hc3, hc3'⟩ := hret
        have hF3 := hF2.go hb3
        have hr1 := hr1.go hb3
        have hr2 := hr2.go hb3
        clear hb3 hF2
        go_wp2_with fail
        (with_reducible refine (Hrg.out _ (by exact hF3.bel)).mono ?_); rintro e w4 hret
        obtain ⟨A4, c4, rfl, hb4, hr4, _, _⟩ := hret
        have hF4 := hF3.go hb4
        have hr1 := hr1.go hb4
        have hr2 := hr2.go hb4
        have hr3 := hr3.go hb4
        have hgl : (mgL L k).length ≤ 9223372036854775807 := Nat.le_trans hc3 hc3'
        have g1 := hF4.at (List.mem_cons_of_mem _ List.mem_cons_self)
        have g2 := hF4.at List.mem_cons_self
        have k10 := Lib.cell_of_heap g1 0
        have k11 := Lib.cell_of_heap g1 1
        have k12 := Lib.cell_of_heap g1 2
        have k20 := Lib.cell_of_heap g2 0
        have k21 := Lib.cell_of_heap g2 1
        have k22 := Lib.cell_of_heap g2 2
        have He := Lib.hid (equal_ w4 A1 A2 c1 c2 (mkL l k) (mkL l k) hr1 hr2 hlm (mkO l k) (mkO l k) (mkD l k) (mkD l k) true (Lib.hid (by simp [eqR])))
        have Hr3 := Lib.hid hr3
        have Hr4 := Lib.hid hr4
        have HF4 := Lib.hid hF4
        clear hb4 hF3 hF4 g1 g2 hr1 hr2 hr3 hr4
        go_wp2_with fail
        (with_reducible refine (He.out).mono ?_); rintro e w5 ⟨rfl, hb5⟩
        have hS := same_any w5 _ _ A3 A4 c3 c4 (mgL L k) (mgL L k) (Hr3.out.go hb5) (Hr4.out.go hb5) hgl
        rw [decide_eq_true rfl] at hS
        have HS := Lib.hid hS
        have HB5 := Lib.hid (HF4.out.go hb5).bel
        clear hS hb5 k10 k11 k12 k20 k21 k22
        go_wp2_with fail
        (with_reducible refine (HS.out).mono ?_); rintro e w6 ⟨rfl, hb6⟩
        have HB6 := Lib.hid (bt HB5.out hb6)
        clear hb6
        go_wp2_with fail
        (with_reducible refine (shown_ _ (by exact HP.out.below HB6.out)).mono ?_); rintro e w7 ⟨rfl, hb7⟩
        have hB7 := bt HB6.out hb7
        go_wp2
        go_ret
        exact ⟨rfl, hB7⟩
  case inl.inr =>
    have e1 : ¬ (300 < l.length) := by omega
    have e2 : ¬ (20005 < l.length) := by omega
    have e3 : 40 < L.length := by omega
    have e6 : ¬ (L.length ≤ 1000) := by omega
    have e4 : ¬ (1005 < L.length) := by omega
    go_wp2_with fail
    go_loopw [6, 7] (fun a i wr => ∃ j : Nat, j ≤ L.length ∧ i = .int .i64 j ∧ a = .bool false ∧ Below w.heap.size w wr) (fun _ i _ => L.length - (intOf i).toNat)
    case atStart => exact ⟨0, Nat.zero_le _, rfl, rfl, Below.refl _ _⟩
    case round =>
      obtain ⟨j, hj, rfl, rfl, hB⟩ := hrel
      by_cases hjl : j < L.length
      · obtain ⟨b, off, r, rfl, hb, D1, _, _, hd, _, hlr, _⟩ := rpAt HL.out hjl
        have d1 := (hB.cell (p := ⟨b, off + j * 3, none⟩) hb).trans D1
        have hbw : b < wr.heap.size := Nat.lt_of_lt_of_le hb hB.size
        clear D1 hd
        by_cases h40 : 40 < r.l.length
        · go_wp2_with fail
          (with_reducible refine (shown_ _ (by exact HP.out.below hB)).mono ?_); rintro e w1 ⟨rfl, hb1⟩
          have hB1 := bt hB hb1
          go_wp2
          go_ret
          exact ⟨rfl, hB1⟩
        · by_cases h0 : 0 < r.l.length
          · go_wp2_with fail
            (with_reducible refine (shown_ _ (by exact HP.out.below hB)).mono ?_); rintro e w1 ⟨rfl, hb1⟩
            have hB1 := bt hB hb1
            go_wp2
            go_ret
            exact ⟨rfl, hB1⟩
          · go_wp2
            go_roundw
            case rel => exact ⟨j + 1, by omega, by go_num, rfl, hB⟩
            case measure => simp [intOf]; omega
      · obtain rfl : j = L.length := by omega
        go_wp2_with fail
        (with_reducible refine (Hm.out _ hB).mono ?_); rintro e w1 hret
        obtain ⟨A1, c1, rfl, hb1, hr1, hc1, hc2⟩ := hret
        have hF1 := (Fr.nil (bt hB hb1)).new (repO A1 (mkL l k).length c1 (mkO l k) (mkD l k))
        have hr1 := hr1.al (repO A1 (mkL l k).length c1 (mkO l k) (mkD l k))
        clear hb1 hB
        go_wp2_with fail
        (with_reducible refine (Hrm.out _ (by exact hF1.bel)).mono ?_); rintro e w2 hret
        obtain ⟨A2, c2, rfl, hb2, hr2, _, _⟩ := hret
        have hF2 := (hF1.go hb2).new (repO A2 (mkL l k).length c2 (mkO l k) (mkD l k))
        have hr1 := (hr1.go hb2).al (repO A2 (mkL l k).length c2 (mkO l k) (mkD l k))
        have hr2 := hr2.al (repO A2 (mkL l k).length c2 (mkO l k) (mkD l k))
        have hlm : (mkL l k).length ≤ 9223372036854775807 := Nat.le_trans hc1 hc2
        clear hb2 hF1
        go_wp2_with fail
        (with_reducible refine (Hg.out _ (by exact hF2.bel)).mono ?_); rintro e w3 hret
        obtain ⟨A3, c3, rfl, hb3, hr3, hc3, hc3'⟩ := hret
        have hF3 := hF2.go hb3
        have hr1 := hr1.go hb3
        have hr2 := hr2.go hb3
        clear hb3 hF2
        go_wp2_with fail
        (with_reducible refine (Hrg.out _ (by exact hF3.bel)).mono ?_); rintro e w4 hret
        obtain ⟨A4, c4, rfl, hb4, hr4, _, _⟩ := hret
        have hF4 := hF3.go hb4
        have hr1 := hr1.go hb4
        have hr2 := hr2.go hb4
        have hr3 := hr3.go hb4
        have hgl : (mgL L k).length ≤ 9223372036854775807 := Nat.le_trans hc3 hc3'
        have g1 := hF4.at (List.mem_cons_of_mem _ List.mem_cons_self)
        have g2 := hF4.at List.mem_cons_self
        have k10 := Lib.cell_of_heap g1 0
        have k11 := Lib.cell_of_heap g1 1
        have k12 := Lib.cell_of_heap g1 2
        have k20 := Lib.cell_of_heap g2 0
        have k21 := Lib.cell_of_heap g2 1
        have k22 := Lib.cell_of_heap g2 2
        have He := Lib.hid (equal_ w4 A1 A2 c1 c2 (mkL l k) (mkL l k) hr1 hr2 hlm (mkO l k) (mkO l k) (mkD l k) (mkD l k) true (Lib.hid (by simp [eqR])))
        have Hr3 := Lib.hid hr3
        have Hr4 := Lib.hid hr4
        have HF4 := Lib.hid hF4
        clear hb4 hF3 hF4 g1 g2 hr1 hr2 hr3 hr4
        go_wp2_with fail
        (with_reducible refine (He.out).mono ?_); rintro e w5 ⟨rfl, hb5⟩
        have hS := same_any w5 _ _ A3 A4 c3 c4 (mgL L k) (mgL L k) (Hr3.out.go hb5) (Hr4.out.go hb5) hgl
        rw [decide_eq_true rfl] at hS
        have HS := Lib.hid hS
        have HB5 := Lib.hid (HF4.out.go hb5).bel
        clear hS hb5 k10 k11 k12 k20 k21 k22
        go_wp2_with fail
        (with_reducible refine (HS.out).mono ?_); rintro e w6 ⟨rfl, hb6⟩
        have HB6 := Lib.hid (bt HB5.out hb6)
        clear hb6
        go_wp2_with fail
        (with_reducible refine (shown_ _ (by exact HP.out.below HB6.out)).mono ?_); rintro e w7 ⟨rfl, hb7⟩
        have hB7 := bt HB6.out hb7
        go_wp2
        go_ret
        exact ⟨rfl, hB7⟩
  case inr.inl =>
    have e1 : 300 < l.length := by omega
    have e5 : ¬ (l.length ≤ 20000) := by omega
    have e2 : ¬ (20005 < l.length) := by omega
    have e3 : ¬ (40 < L.length) := by omega
    have e4 : ¬ (1005 < L.length) := by omega
    go_wp2_with fail
    go_loopw [6, 7] (fun a i wr => ∃ j : Nat, j ≤ L.length ∧ i = .int .i64 j ∧ a = .bool false ∧ Below w.heap.size w wr) (fun _ i _ => L.length - (intOf i).toNat)
    case atStart => exact ⟨0, Nat.zero_le _, rfl, rfl, Below.refl _ _⟩
    case round =>
      obtain ⟨j, hj, rfl, rfl, hB⟩ := hrel
      by_cases hjl : j < L.length
      · obtain ⟨b, off, r, rfl, hb, D1, _, _, hd, _, hlr, _⟩ := rpAt HL.out hjl
        have d1 := (hB.cell (p := ⟨b, off + j * 3, none⟩) hb).trans D1
        have hbw : b < wr.heap.size := Nat.lt_of_lt_of_le hb hB.size
        clear D1 hd
        by_cases h40 : 40 < r.l.length
        · go_wp2_with fail
          (with_reducible refine (shown_ _ (by exact HP.out.below hB)).mono ?_); rintro e w1 ⟨rfl, hb1⟩
          have hB1 := bt hB hb1
          go_wp2
          go_ret
          exact ⟨rfl, hB1⟩
        · go_wp2
          go_roundw
          case rel => exact ⟨j + 1, by omega, by go_num, rfl, hB⟩
          case measure => simp [intOf]; omega
      · obtain rfl : j = L.length := by omega
        go_wp2_with fail
        (with_reducible refine (Hm.out _ hB).mono ?_); rintro e w1 hret
        obtain ⟨A1, c1, rfl, hb1, hr1, hc1, hc2⟩ := hret
        have hF1 := (Fr.nil (bt hB hb1)).new (repO A1 (mkL l k).length c1 (mkO l k) (mkD l k))
        have hr1 := hr1.al (repO A1 (mkL l k).length c1 (mkO l k) (mkD l k))
        clear hb1 hB
        go_wp2_with fail
        (with_reducible refine (Hrm.out _ (by exact hF1.bel)).mono ?_); rintro e w2 hret
        obtain ⟨A2, c2, rfl, hb2, hr2, _, _⟩ := hret
        have hF2 := (hF1.go hb2).new (repO A2 (mkL l k).length c2 (mkO l k) (mkD l k))
        have hr1 := (hr1.go hb2).al (repO A2 (mkL l k).length c2 (mkO l k) (mkD l k))
        have hr2 := hr2.al (repO A2 (mkL l k).length c2 (mkO l k) (mkD l k))
        have hlm : (mkL l k).length ≤ 9223372036854775807 := Nat.le_trans hc1 hc2
        clear hb2 hF1
        go_wp2_with fail
        (with_reducible refine (Hg.out _ (by exact hF2.bel)).mono ?_); rintro e w3 hret
        obtain ⟨A3, c3, rfl, hb3, hr3, hc3, hc3'⟩ := hret
        have hF3 := hF2.go hb3
        have hr1 := hr1.go hb3
        have hr2 := hr2.go hb3
        clear hb3 hF2
        go_wp2_with fail
        (with_reducible refine (Hrg.out _ (by exact hF3.bel)).mono ?_); rintro e w4 hret
        obtain ⟨A4, c4, rfl, hb4, hr4, _, _⟩ := hret
        have hF4 := hF3.go hb4
        have hr1 := hr1.go hb4
        have hr2 := hr2.go hb4
        have hr3 := hr3.go hb4
        have hgl : (mgL L k).length ≤ 9223372036854775807 := Nat.le_trans hc3 hc3'
        have g1 := hF4.at (List.mem_cons_of_mem _ List.mem_cons_self)
        have g2 := hF4.at List.mem_cons_self
        have k10 := Lib.cell_of_heap g1 0
        have k11 := Lib.cell_of_heap g1 1
        have k12 := Lib.cell_of_heap g1 2
        have k20 := Lib.cell_of_heap g2 0
        have k21 := Lib.cell_of_heap g2 1
        have k22 := Lib.cell_of_heap g2 2
        have He := Lib.hid (equal_ w4 A1 A2 c1 c2 (mkL l k) (mkL l k) hr1 hr2 hlm (mkO l k) (mkO l k) (mkD l k) (mkD l k) true (Lib.hid (by simp [eqR])))
        have Hr3 := Lib.hid hr3
        have Hr4 := Lib.hid hr4
        have HF4 := Lib.hid hF4
        clear hb4 hF3 hF4 g1 g2 hr1 hr2 hr3 hr4
        go_wp2_with fail
        (with_reducible refine (He.out).mono ?_); rintro e w5 ⟨rfl, hb5⟩
        have hS := same_any w5 _ _ A3 A4 c3 c4 (mgL L k) (mgL L k) (Hr3.out.go hb5) (Hr4.out.go hb5) hgl
        rw [decide_eq_true rfl] at hS
        have HS := Lib.hid hS
        have HB5 := Lib.hid (HF4.out.go hb5).bel
        clear hS hb5 k10 k11 k12 k20 k21 k22
        go_wp2_with fail
        (with_reducible refine (HS.out).mono ?_); rintro e w6 ⟨rfl, hb6⟩
        have HB6 := Lib.hid (bt HB5.out hb6)
        clear hb6
        go_wp2_with fail
        (with_reducible refine (shown_ _ (by exact HP.out.below HB6.out)).mono ?_); rintro e w7 ⟨rfl, hb7⟩
        have hB7 := bt HB6.out hb7
        go_wp2
        go_ret
        exact ⟨rfl, hB7⟩
  case inr.inr =>
    have e1 : 300 < l.length := by omega
    have e5 : ¬ (l.length ≤ 20000) := by omega
    have e2 : ¬ (20005 < l.length) := by omega
    have e3 : 40 < L.length := by omega
    have e6 : ¬ (L.length ≤ 1000) := by omega
    have e4 : ¬ (1005 < L.length) := by omega
    go_wp2_with fail
    go_loopw [6, 7] (fun a i wr => ∃ j : Nat, j ≤ L.length ∧ i = .int .i64 j ∧ a = .bool false ∧ Below w.heap.size w wr) (fun _ i _ => L.length - (intOf i).toNat)
    case atStart => exact ⟨0, Nat.zero_le _, rfl, rfl, Below.refl _ _⟩
    case round =>
      obtain ⟨j, hj, rfl, rfl, hB⟩ := hrel
      by_cases hjl : j < L.length
      · obtain ⟨b, off, r, rfl, hb, D1, _, _, hd, _, hlr, _⟩ := rpAt HL.out hjl
        have d1 := (hB.cell (p := ⟨b, off + j * 3, none⟩) hb).trans D1
        have hbw : b < wr.heap.size := Nat.lt_of_lt_of_le hb hB.size
        clear D1 hd
        by_cases h40 : 40 < r.l.length
        · go_wp2_with fail
          (with_reducible refine (shown_ _ (by exact HP.out.below hB)).mono ?_); rintro e w1 ⟨rfl, hb1⟩
          have hB1 := bt hB hb1
          go_wp2
          go_ret
          exact ⟨rfl, hB1⟩
        · by_cases h0 : 0 < r.l.length
          · go_wp2_with fail
            (with_reducible refine (shown_ _ (by exact HP.out.below hB)).mono ?_); rintro e w1 ⟨rfl, hb1⟩
            have hB1 := bt hB hb1
            go_wp2
            go_ret
            exact ⟨rfl, hB1⟩
          · go_wp2
            go_roundw
            case rel => exact ⟨j + 1, by omega, by go_num, rfl, hB⟩
            case measure => simp [intOf]; omega
      · obtain rfl : j = L.length := by omega
        go_wp2_with fail
        (with_reducible refine (Hm.out _ hB).mono ?_); rintro e w1 hret
        obtain ⟨A1, c1, rfl, hb1, hr1, hc1, hc2⟩ := hret
        have hF1 := (Fr.nil (bt hB hb1)).new (repO A1 (mkL l k).length c1 (mkO l k) (mkD l k))
        have hr1 := hr1.al (repO A1 (mkL l k).length c1 (mkO l k) (mkD l k))
        clear hb1 hB
        go_wp2_with fail
        (with_reducible refine (Hrm.out _ (by exact hF1.bel)).mono ?_); rintro e w2 hret
        obtain ⟨A2, c2, rfl, hb2, hr2, _, _⟩ := hret
        have hF2 := (hF1.go hb2).new (repO A2 (mkL l k).length c2 (mkO l k) (mkD l k))
        have hr1 := (hr1.go hb2).al (repO A2 (mkL l k).length c2 (mkO l k) (mkD l k))
        have hr2 := hr2.al (repO A2 (mkL l k).length c2 (mkO l k) (mkD l k))
        have hlm : (mkL l k).length ≤ 9223372036854775807 := Nat.le_trans hc1 hc2
        clear hb2 hF1
        go_wp2_with fail
        (with_reducible refine (Hg.out _ (by exact hF2.bel)).mono ?_); rintro e w3 hret
        obtain ⟨A3, c3, rfl, hb3, hr3, hc3, hc3'⟩ := hret
        have hF3 := hF2.go hb3
        have hr1 := hr1.go hb3
        have hr2 := hr2.go hb3
        clear hb3 hF2
        go_wp2_with fail
        (with_reducible refine (Hrg.out _ (by exact hF3.bel)).mono ?_); rintro e w4 hret
        obtain ⟨A4, c4, rfl, hb4, hr4, _, _⟩ := hret
        have hF4 := hF3.go hb4
        have hr1 := hr1.go hb4
        have hr2 := hr2.go hb4
        have hr3 := hr3.go hb4
        have hgl : (mgL L k).length ≤ 9223372036854775807 := Nat.le_trans hc3 hc3'
        have g1 := hF4.at (List.mem_cons_of_mem _ List.mem_cons_self)
        have g2 := hF4.at List.mem_cons_self
        have k10 := Lib.cell_of_heap g1 0
        have k11 := Lib.cell_of_heap g1 1
        have k12 := Lib.cell_of_heap g1 2
        have k20 := Lib.cell_of_heap g2 0
        have k21 := Lib.cell_of_heap g2 1
        have k22 := Lib.cell_of_heap g2 2
        have He := Lib.hid (equal_ w4 A1 A2 c1 c2 (mkL l k) (mkL l k) hr1 hr2 hlm (mkO l k) (mkO l k) (mkD l k) (mkD l k) true (Lib.hid (by simp [eqR])))
        have Hr3 := Lib.hid hr3
        have Hr4 := Lib.hid hr4
        have HF4 := Lib.hid hF4
        clear hb4 hF3 hF4 g1 g2 hr1 hr2 hr3 hr4
        go_wp2_with fail
        (with_reducible refine (He.out).mono ?_); rintro e w5 ⟨rfl, hb5⟩
        have hS := same_any w5 _ _ A3 A4 c3 c4 (mgL L k) (mgL L k) (Hr3.out.go hb5) (Hr4.out.go hb5) hgl
        rw [decide_eq_true rfl] at hS
        have HS := Lib.hid hS
        have HB5 := Lib.hid (HF4.out.go hb5).bel
        clear hS hb5 k10 k11 k12 k20 k21 k22
        go_wp2_with fail
        (with_reducible refine (HS.out).mono ?_); rintro e w6 ⟨rfl, hb6⟩
        have HB6 := Lib.hid (bt HB5.out hb6)
        clear hb6
        go_wp2_with fail
        (with_reducible refine (shown_ _ (by exact HP.out.below HB6.out)).mono ?_); rintro e w7 ⟨rfl, hb7⟩
        have hB7 := bt HB6.out hb7
        go_wp2
        go_ret
        exact ⟨rfl, hB7⟩
end Go.Proofs.YtokcbdaoofjbgaaDoor
