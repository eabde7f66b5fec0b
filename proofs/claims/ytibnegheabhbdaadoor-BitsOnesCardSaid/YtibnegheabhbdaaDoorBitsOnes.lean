/- BitsOnes: Ones and Of are inverse to each other; a bit that is set is read. -/
import Derived.Test.YtibnegheabhbdaaDoorB30
import Derived.Test.YtibnegheabhbdaaDoorB31
import Derived.Deep.DeepCutAuto
namespace Go.Proofs.YtibnegheabhbdaaDoor
open Go.RowKit
theorem any_succ {L : List Int} {j : Nat} (hj : j < L.length) (x : Int) : (L.take (j + 1)).any (fun y => y == x) = ((L.take j).any (fun y => y == x) || (L.getD j 0 == x)) := by
  rw [take_succ_ hj, List.any_append]
  simp
theorem getE_ok {n : Nat} {i : Int} (h : getE n i = 0) : chkB n = 0 ∧ ∃ k : Nat, i = k ∧ k < 64 * n := by
  unfold getE at h
  by_cases hc : chkB n ≠ 0
  · rw [if_pos hc] at h; exact absurd h hc
  · rw [if_neg hc] at h
    by_cases hr : i < 0 ∨ 64 * (n : Int) ≤ i
    · rw [if_pos hr] at h; cases h
    · exact ⟨by simpa using hc, i.toNat, by omega, by omega⟩
set_option maxRecDepth 100000 in
set_option maxHeartbeats 8000000 in
theorem bitsOnes_ok (w : World) (A A' : Option Addr) (c c' : Nat) (l : List Nat) (L : List Int) (h : Reads w w.heap.size 1 A l.length (u64s l)) (h' : Reads w w.heap.size 1 A' L.length (i64s L)) (hw : W64 l) (hc : chkB l.length = 0) (hL1 : L.length ≤ 100) (i : Int) (hi : -9223372036854775808 ≤ i ∧ i ≤ 9223372036854775807) (hT : Tzt w) :
    Calls Tryd.prog 9 #[.slice A l.length c, .slice A' L.length c', .int .i64 i] w fun e w' => e = .returned (.bool true) ∧ Below w.heap.size w w' := by
  have hn := chkB_ok.1 hc
  have HT := Lib.hid hT
  have HR := Lib.hid h
  have HR' := Lib.hid h'
  have Hw := Lib.hid hw
  have Hc := Lib.hid hc
  have Hf := Lib.hid (show false = decide (20 < l.length) by simp; omega)
  obtain ⟨P, hP⟩ : ∃ P, P = onesTo l (64 * l.length) := ⟨_, rfl⟩
  have hVP : onesV l = P := by unfold onesV; rw [if_pos hc, hP]
  have hPl : P.length ≤ 64 * l.length := by rw [hP]; exact onesTo_le _ _
  have hPn : P.length = cntV l := by rw [← hVP]; exact onesV_len hw
  have hoE : ofE l.length P = 0 := by rw [hP]; exact ones_ofE hc
  have hoL : ofL l.length P = l := by rw [hP]; exact ones_ofL hw hc
  have HSo := Lib.hid (show P.Pairwise (· < ·) by rw [hP]; exact ones_sorted _ _)
  have h1 := ones_ w A c l h hw (by omega) hT
  rw [hVP, hc] at h1
  have H1 := Lib.hid h1
  have H2 := Lib.hid (fun W A1 c1 (hr : Reads W W.heap.size 1 A1 P.length (i64s P)) => by
    have := of_ W A1 c1 l.length (by omega) P hr (by omega)
    rw [hoE, hoL] at this
    exact this)
  obtain ⟨OE, hOE⟩ : ∃ OE, OE = ofE l.length L := ⟨_, rfl⟩
  obtain ⟨OL, hOL⟩ : ∃ OL, OL = ofL l.length L := ⟨_, rfl⟩
  have H3 := Lib.hid (fun W (hb : Below w.heap.size w W) => of_ W A' c' l.length (by omega) L (h'.go hb) (by omega))
  rw [← hOE, ← hOL] at H3
  have HOr := Lib.hid (fun hz : OE = 0 => (show OL = rowOf l.length (ofF L) by rw [hOL]; exact ofL_row (by rw [← hOE]; exact hz)))
  have HPn := Lib.hid hPn
  have HP := Lib.hid hP
  clear hT h h' hw hc hVP hPn hoE hoL h1 hP hOE hOL
  have hd100 : decide (100 < (L.length : Int)) = false := by simp; omega
  go_enter Tryd.func9, Tryd.ntmps9
  go_wp2_with fail
  (with_reducible refine (far_ _ A c l.length false Hf (by omega)).mono ?_); rintro e w' ⟨rfl, rfl⟩
  go_wp2_with fail
  (with_reducible refine (H1.out).mono ?_); rintro e w1 ⟨A1, c1, rfl, hb, hr1, _, _⟩
  have HB := Lib.hid hb
  have HR1 := Lib.hid hr1
  clear hb hr1 H1
  go_wp2_with fail
  (with_reducible refine (H2.out _ A1 c1 HR1.out).mono ?_); rintro e w2 ⟨A2, c2, rfl, hb, hr2, _, _⟩
  have HB := Lib.hid (bt HB.out hb)
  have HR1 := Lib.hid (HR1.out.go hb)
  have HR2 := Lib.hid hr2
  clear hb hr2 H2
  go_wp2_with fail
  (with_reducible refine (same_ _ _ _ A2 A c2 c l l HR2.out (HR.out.below HB.out) (by omega) true (Lib.hid (by simp))).mono ?_); rintro e w3 ⟨rfl, hb⟩
  have HBz := Lib.hid (bt HB.out hb)
  have HRz := Lib.hid (HR1.out.go hb)
  clear hb HR2
  go_wp2_with fail
  go_loopw [11] (fun i wr => ∃ k : Nat, 1 ≤ k ∧ k ≤ P.length + 1 ∧ i = .int .i64 k ∧ Hid (Below w.heap.size w wr) ∧ Hid (Reads wr wr.heap.size 1 A1 P.length (i64s P))) (fun i _ => P.length + 1 - (intOf i).toNat)
  case atStart => exact ⟨1, by omega, by omega, rfl, HBz, HRz⟩
  case round =>
    obtain ⟨k, hk1, hk2, rfl, HB, HR1⟩ := hrel
    clear HBz HRz
    by_cases hk : k < P.length
    · obtain ⟨j, rfl⟩ : ∃ j, k = j + 1 := ⟨k - 1, by omega⟩
      obtain ⟨b, off, rfl, hb, d0⟩ := i64At HR1.out (k := j) (by omega)
      obtain ⟨b', off', he, hb', d0'⟩ := i64At HR1.out (k := j + 1) hk
      injection he with he
      injection he with e1 e2
      subst e1 e2
      have hso := sorted_at HSo.out hk
      have hd : wr.cell? ⟨b, off + (j + 1), none⟩ = some (.int .i64 (P.getD (j + 1) 0)) := d0'
      generalize P.getD (j + 1) 0 = Y at *
      generalize P.getD j 0 = X at *
      have e3 : ((j + 1 : Nat) : Int) = (j : Int) + 1 := rfl
      have hnge : ¬ Y ≤ X := by omega
      have hj0 : (0 : Int) ≤ (j : Int) := by omega
      have hj1 : (j : Int) < (P.length : Int) := by omega
      have hj2 : (0 : Int) ≤ (j : Int) + 1 := by omega
      have hj3 : (j : Int) + 1 < (P.length : Int) := by omega
      have hj4 : IntKind.i64.wrap ((j : Int) + 1 - 1) = (j : Int) := by rw [Int.add_sub_cancel]; exact IntWalk.i64_in _ (by omega)
      have hj5 : ((j : Int) + 1).toNat = j + 1 := by omega
      rw [e3]
      clear d0' hso hk hk1 e3
      go_wp2
      go_quiet (fail)
      go_wp2
      go_roundw
      case rel => exact ⟨j + 1 + 1, by omega, by omega, by go_num, Lib.hid (bd HB.out _), Lib.hid (HR1.out.drewN _)⟩
      case measure => simp [intOf]; omega
    · have HBz := HB
      have hk9 : P.length ≤ k := by omega
      clear HB hk hk1 hk2
      go_wp2_with fail
      (with_reducible refine (H3.out _ HBz.out).mono ?_); rintro e w4 ⟨A4, c4, rfl, hb, hr4, _, _⟩
      have HB4 := Lib.hid (bt HBz.out hb)
      have HR4 := Lib.hid hr4
      clear hb hr4 HBz H3 HR1
      go_upto_if 83 with (fail)
      go_cut [15] (fun _ wx => Below w.heap.size w wx)
      case first =>
        by_cases hE : OE = 0
        · have hor := HOr.out hE
          have hol : OL.length = l.length := by rw [hor, rowOf_len]
          have how : W64 OL := by rw [hor]; exact rowOf_w _ _
          have ho := ones_ w4 A4 c4 OL HR4.out how (by omega) (HT.out.below HB4.out)
          obtain ⟨Q, hQ⟩ : ∃ Q, Q = onesTo OL (64 * l.length) := ⟨_, rfl⟩
          rw [show onesV OL = Q by (unfold onesV; rw [hol, if_pos Hc.out, hQ]), show chkB OL.length = 0 by (rw [hol]; exact Hc.out)] at ho
          have HQ := Lib.hid (fun k (hk : k < 64 * l.length) => (show Q.any (fun x => x == (k : Int)) = L.any (fun x => x == (k : Int)) by rw [hQ, hor]; exact of_ones hk))
          have hQl : Q.length ≤ 64 * l.length := by rw [hQ]; exact onesTo_le _ _
          have HO := Lib.hid ho
          clear ho hor hQ how HR4 hol
          subst hE
          go_wp2_with fail
          (with_reducible refine (HO.out).mono ?_); rintro e w5 ⟨A5, c5, rfl, hb, hr5, _, _⟩
          have HB5 := Lib.hid (bt HB4.out hb)
          have HR5 := Lib.hid hr5
          have HRL := Lib.hid (HR'.out.go (bt HB4.out hb))
          clear hb hr5 HB4 HO
          have hN : IntKind.i64.wrap (64 * (l.length : Int)) = 64 * (l.length : Int) := IntWalk.i64_in _ (by omega)
          go_wp2_with fail
          go_loop [15] (fun i => ∃ k : Nat, k ≤ 64 * l.length ∧ i = .int .i64 k) (fun i => 64 * l.length - (intOf i).toNat)
          case atStart => exact ⟨0, Nat.zero_le _, rfl⟩
          case round =>
            obtain ⟨k, hk, rfl⟩ := hrel
            by_cases hk2 : k < 64 * l.length
            · have HQk := Lib.hid (HQ.out k hk2)
              go_wp2_with fail
              go_loop [16, 18] (fun b j => ∃ (t : Nat) (bb : Bool), t ≤ L.length ∧ j = .int .i64 t ∧ b = .bool bb ∧ Hid (bb = (L.take t).any (fun y => y == (k : Int)))) (fun _ j => L.length - (intOf j).toNat)
              case atStart => exact ⟨0, false, Nat.zero_le _, rfl, rfl, Lib.hid (show false = (L.take 0).any _ from rfl)⟩
              case round =>
                obtain ⟨t, bb, ht, rfl, rfl, hbb⟩ := hrel
                by_cases htl : t < L.length
                · have hs := any_succ htl (k : Int)
                  rw [← hbb.out] at hs
                  have HSs := Lib.hid hs.symm
                  clear hs hbb
                  cases bb
                  · obtain ⟨b, off, rfl, hb, d0⟩ := i64At HRL.out htl
                    generalize L.getD t 0 = X at *
                    go_wp2
                    go_round
                    case rel => exact ⟨t + 1, (X == (k : Int)), by omega, by go_num, rfl, Lib.hid (by rw [← HSs.out]; rfl)⟩
                    case measure => simp [intOf]; omega
                  · go_wp2
                    go_round
                    case rel => exact ⟨t + 1, true, by omega, by go_num, rfl, Lib.hid (by rw [← HSs.out]; rfl)⟩
                    case measure => simp [intOf]; omega
                · obtain rfl : t = L.length := by omega
                  have hbL := hbb.out
                  rw [List.take_of_length_le (Nat.le_refl _)] at hbL
                  have HbL := Lib.hid hbL
                  clear hbb hbL
                  go_wp2_with fail
                  go_loop [17, 19] (fun b j => ∃ (t : Nat) (bq : Bool), t ≤ Q.length ∧ j = .int .i64 t ∧ b = .bool bq ∧ Hid (bq = (Q.take t).any (fun y => y == (k : Int)))) (fun _ j => Q.length - (intOf j).toNat)
                  case atStart => exact ⟨0, false, Nat.zero_le _, rfl, rfl, Lib.hid (show false = (Q.take 0).any _ from rfl)⟩
                  case round =>
                    obtain ⟨t, bq, ht, rfl, rfl, hbb⟩ := hrel
                    by_cases htl : t < Q.length
                    · have hs := any_succ htl (k : Int)
                      rw [← hbb.out] at hs
                      have HSs := Lib.hid hs.symm
                      clear hs hbb
                      cases bq
                      · obtain ⟨b, off, rfl, hb, d0⟩ := i64At HR5.out htl
                        generalize Q.getD t 0 = X at *
                        go_wp2
                        go_round
                        case rel => exact ⟨t + 1, (X == (k : Int)), by omega, by go_num, rfl, Lib.hid (by rw [← HSs.out]; rfl)⟩
                        case measure => simp [intOf]; omega
                      · go_wp2
                        go_round
                        case rel => exact ⟨t + 1, true, by omega, by go_num, rfl, Lib.hid (by rw [← HSs.out]; rfl)⟩
                        case measure => simp [intOf]; omega
                    · obtain rfl : t = Q.length := by omega
                      have hbq := hbb.out
                      rw [List.take_of_length_le (Nat.le_refl _), HQk.out, ← HbL.out] at hbq
                      subst hbq
                      have e5 : (bq != bq) = false := by simp
                      clear hbb
                      go_wp2
                      go_round
                      case rel => exact ⟨k + 1, by omega, by go_num⟩
                      case measure => simp [intOf]; omega
            · obtain rfl : k = 64 * l.length := by omega
              have hBz := HB5.out
              clear hk2 hk
              go_wp2
              go_meet
              exact hBz
        · have e1 : (OE == 0) = false := by simpa using hE
          have hBz := HB4.out
          clear hE HOr
          go_wp2
          go_meet
          exact hBz
      case rest =>
        have HB5 := Lib.hid hcut
        clear hcut HB4 HR4 HOr
        have hg := pget_ wc A c l (HR.out.go HB5.out) Hw.out (by omega) i hi
        by_cases hG : getE l.length i = 0
        · obtain ⟨_, k, rfl, hk⟩ := getE_ok hG
          have hgv : getV l k = rbit l k := by unfold getV; rw [hG, if_pos rfl]; rfl
          rw [hgv, hG] at hg
          obtain ⟨X, hX⟩ : ∃ X, X = setB l k (!rbit l k) := ⟨_, rfl⟩
          have hXl : X.length = l.length := by rw [hX, setB_len]
          have hXw : W64 X := by rw [hX]; exact setB_w Hw.out k _ hk
          have hs1 := fun W (hb : Below w.heap.size w W) => set_ W A c l (HR.out.go hb) Hw.out (by omega) k (by omega) (!rbit l k)
          rw [show setL l k (!rbit l k) = X by rw [hX]; exact if_pos hG, hG] at hs1
          have hG2 : getE X.length k = 0 := by rw [hXl]; exact hG
          have hs2 := fun W A1 c1 (hr : Reads W W.heap.size 1 A1 X.length (u64s X)) => set_ W A1 c1 X hr hXw (by omega) k (by omega) (rbit l k)
          rw [show setL X k (rbit l k) = l by (rw [show setL X k (rbit l k) = setB X k (rbit l k) from if_pos hG2, hX]; exact set_back Hw.out hk _), hG2] at hs2
          have hs3 := fun W A1 c1 (hr : Reads W W.heap.size 1 A1 X.length (u64s X)) => count_ W A1 c1 X hr hXw (by omega)
          have hs4 := fun W A1 c1 (hr : Reads W W.heap.size 1 A1 X.length (u64s X)) => pget_ W A1 c1 X hr hXw (by omega) k (by omega)
          rw [show getV X k = !rbit l k by (unfold getV; rw [hG2, if_pos rfl, hX]; exact set_get hk _), hG2] at hs4
          have hct := cnt_turn Hw.out Hc.out hk
          rw [← hX, ← HPn.out] at hct
          rw [show chkB X.length = 0 by rw [hXl]; exact Hc.out] at hs3
          generalize cntV X = cx at *
          rw [hXl] at hs1 hs2 hs3 hs4
          have HG := Lib.hid hg
          have HS1 := Lib.hid hs1
          have HS2 := Lib.hid hs2
          have HS3 := Lib.hid hs3
          have HS4 := Lib.hid hs4
          generalize rbit l k = bt0 at *
          clear hg hs1 hs2 hs3 hs4 hX hXl hXw hG hG2 hgv HSo HP HPn
          cases bt0
          all_goals
            simp only [Bool.false_eq_true, if_false, if_true] at hct
            simp only [Bool.not_false, Bool.not_true] at HS1 HS4
            go_wp2_with fail
            (with_reducible refine (HG.out).mono ?_); rintro e w6 ⟨rfl, hb⟩
            have HB6 := Lib.hid (bt HB5.out hb)
            clear hb HG
            go_wp2_with fail
            (with_reducible refine (HS1.out _ HB6.out).mono ?_); rintro e w7 ⟨A7, c7, rfl, hb, hr7, _, _⟩
            have HB7 := Lib.hid (bt HB6.out hb)
            have HR7 := Lib.hid hr7
            clear hb hr7 HS1
            go_wp2_with fail
            (with_reducible refine (HS2.out _ A7 c7 HR7.out).mono ?_); rintro e w8 ⟨A8, c8, rfl, hb, hr8, _, _⟩
            have HB8 := Lib.hid (bt HB7.out hb)
            have HR7 := Lib.hid (HR7.out.go hb)
            have HR8 := Lib.hid hr8
            clear hb hr8 HS2
            go_wp2_with fail
            (with_reducible refine (HS3.out _ A7 c7 HR7.out).mono ?_); rintro e w9 ⟨rfl, hb⟩
            have HB9 := Lib.hid (bt HB8.out hb)
            have HR7 := Lib.hid (HR7.out.go hb)
            have HR8 := Lib.hid (HR8.out.go hb)
            clear hb HS3
            go_wp2_with fail
            (with_reducible refine (HS4.out _ A7 c7 HR7.out).mono ?_); rintro e wa ⟨rfl, hb⟩
            have HBa := Lib.hid (bt HB9.out hb)
            have HR8 := Lib.hid (HR8.out.go hb)
            clear hb HS4 HR7
            go_wp2_with fail
            (with_reducible refine (same_ _ _ _ A8 A c8 c l l HR8.out (HR.out.below HBa.out) (by omega) true (Lib.hid (by simp))).mono ?_); rintro e wb ⟨rfl, hb⟩
            have HBb := Lib.hid (bt HBa.out hb)
            clear hb
            go_wp2_with fail
            (with_reducible refine (awake_ _ (HT.out.below HBb.out).of16).mono ?_); rintro e wz ⟨rfl, hb⟩
            have hBe := bt HBb.out hb
            go_wp2
            go_ret
            exact ⟨rfl, hBe⟩
        · generalize getE l.length i = G at *
          generalize getV l i = GV at *
          have e6 : (G != 0) = true := by simpa using hG
          have HG := Lib.hid hg
          clear hg hG
          go_wp2_with fail
          (with_reducible refine (HG.out).mono ?_); rintro e w6 ⟨rfl, hb⟩
          have HB6 := Lib.hid (bt HB5.out hb)
          clear hb HG
          go_wp2_with fail
          (with_reducible refine (awake_ _ (HT.out.below HB6.out).of16).mono ?_); rintro e wz ⟨rfl, hb⟩
          have hBe := bt HB6.out hb
          go_wp2
          go_ret
          exact ⟨rfl, hBe⟩
set_option maxRecDepth 100000 in
set_option maxHeartbeats 2000000 in
theorem bitsOnes_no (w : World) (A A' : Option Addr) (c c' : Nat) (l : List Nat) (L : List Int) (h : Reads w w.heap.size 1 A l.length (u64s l)) (hw : W64 l) (hl : l.length ≤ 9223372036854775807) (i : Int) (hT : Tzt w) (hno : chkB l.length ≠ 0 ∨ 100 < L.length) :
    Calls Tryd.prog 9 #[.slice A l.length c, .slice A' L.length c', .int .i64 i] w fun e w' => e = .returned (.bool true) ∧ Below w.heap.size w w' := by
  have HT := Lib.hid hT
  have HO := Lib.hid (ones_ w A c l h hw hl hT)
  clear hT h hw
  by_cases hf : 20 < l.length
  · have Hf := Lib.hid (show true = decide (20 < l.length) by simp [hf])
    clear hno HO
    go_enter Tryd.func9, Tryd.ntmps9
    go_wp2_with fail
    (with_reducible refine (far_ _ A c l.length true Hf hl).mono ?_); rintro e w' ⟨rfl, rfl⟩
    go_wp2_with fail
    (with_reducible refine (awake_ _ HT.out.of16).mono ?_); rintro e w1 ⟨rfl, hb1⟩
    go_wp2
    go_ret
    exact ⟨rfl, hb1⟩
  have Hf := Lib.hid (show false = decide (20 < l.length) by simp [hf])
  by_cases hL : 100 < L.length
  · have hd100 : decide (100 < (L.length : Int)) = true := by simp; omega
    clear hno HO
    go_enter Tryd.func9, Tryd.ntmps9
    go_wp2_with fail
    (with_reducible refine (far_ _ A c l.length false Hf hl).mono ?_); rintro e w' ⟨rfl, rfl⟩
    go_wp2_with fail
    (with_reducible refine (awake_ _ HT.out.of16).mono ?_); rintro e w1 ⟨rfl, hb1⟩
    go_wp2
    go_ret
    exact ⟨rfl, hb1⟩
  · have hd100 : decide (100 < (L.length : Int)) = false := by simp; omega
    have hno2 : chkB l.length ≠ 0 := hno.resolve_right hL
    generalize chkB l.length = E at *
    have e1 : (E != 0) = true := by simpa using hno2
    clear hno hno2 hL hf
    go_enter Tryd.func9, Tryd.ntmps9
    go_wp2_with fail
    (with_reducible refine (far_ _ A c l.length false Hf hl).mono ?_); rintro e w' ⟨rfl, rfl⟩
    go_wp2_with fail
    (with_reducible refine (HO.out).mono ?_); rintro e w1 ⟨A1, c1, rfl, hb, _, _, _⟩
    have HB := Lib.hid hb
    clear hb HO
    go_wp2_with fail
    (with_reducible refine (awake_ _ (HT.out.below HB.out).of16).mono ?_); rintro e w2 ⟨rfl, hb⟩
    have hBe := bt HB.out hb
    go_wp2
    go_ret
    exact ⟨rfl, hBe⟩
theorem bitsOnes_walk (W : World) (A : Option Addr) (c : Nat) (L : List Int) (h : Reads W W.heap.size 1 A L.length (L.map (Value.int .u64))) (hx : ∀ x ∈ L, 0 ≤ x ∧ x ≤ 18446744073709551615) (hc : L.length ≤ c ∧ c ≤ 9223372036854775807)
    (A' : Option Addr) (c' : Nat) (L' : List Int) (h' : Reads W W.heap.size 1 A' L'.length (L'.map (Value.int .i64))) (_ : ∀ x ∈ L', -9223372036854775808 ≤ x ∧ x ≤ 9223372036854775807) (_ : L'.length ≤ c' ∧ c' ≤ 9223372036854775807) (i : Int) (hi : (Lit.int .i64 i).wf = true) (hT : Tzt W) :
    Calls Tryd.prog 9 #[.slice A L.length c, .slice A' L'.length c', .int .i64 i] W fun e w' => e = .returned (.bool true) ∧ Below W.heap.size W w' := by
  obtain ⟨l, e1, hw, e2⟩ := nats_of hx
  rw [e1] at h
  rw [← e2] at h hc ⊢
  by_cases h0 : chkB l.length = 0
  · by_cases hL : 100 < L'.length
    · exact bitsOnes_no W A A' c c' l L' h hw (by omega) i hT (.inr hL)
    · exact bitsOnes_ok W A A' c c' l L' h h' hw h0 (by omega) i (wf_i64 hi) hT
  · exact bitsOnes_no W A A' c c' l L' h hw (by omega) i hT (.inl h0)
end Go.Proofs.YtibnegheabhbdaaDoor
