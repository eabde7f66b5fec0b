/- Sets of bytes: the text of a byte by the reference. No condition. Sets of bytes: items and Print of the reference. No condition. -/
import Derived.Test.YtfleamgncodkpaaDoorL4
import Derived.Test.YtfleamgncodkpaaDoorN16
import Derived.Test.YtfleamgncodkpaaDoorG7
namespace Go.Proofs.YtfleamgncodkpaaDoor
open Go.RowKit
theorem bK_eq {b c : Nat} (hb : b < 256) (hc : c < 256) : (bK b == bK c) = decide (b = c) := by
  rw [Bool.eq_iff_iff, beq_iff_eq, decide_eq_true_eq]
  constructor
  · intro e
    have := congrArg UInt8.toNat e
    rwa [bK_nat hb, bK_nat hc] at this
  · rintro rfl; rfl
theorem spK_nat {b : Nat} (hb : b < 256) : spK (bK b) = (decide (b = 91) || decide (b = 93) || decide (b = 92) || decide (b = 94) || decide (b = 45)) := by
  unfold spK
  rw [← bK_eq hb (by decide), ← bK_eq hb (by decide), ← bK_eq hb (by decide), ← bK_eq hb (by decide), ← bK_eq hb (by decide)]
  rfl
set_option maxHeartbeats 1000000 in
theorem rspecial_ (b : Nat) (hb : b < 256) (v : Bool) (hv : Hid (spK (bK b) = v)) (w : World) : Calls Tryd.prog 88 #[.int .u8 (b : Int)] w fun e w' => e = .returned (.bool v) ∧ w' = w := by
  have HV := Lib.hid (show v = (decide (b = 91) || decide (b = 93) || decide (b = 92) || decide (b = 94) || decide (b = 45)) by rw [← hv.out, spK_nat hb])
  clear hv
  have key : ∀ c : Nat, ((b : Int) == (c : Int)) = decide (b = c) := fun c => by rw [Bool.eq_iff_iff, beq_iff_eq, decide_eq_true_eq]; omega
  have m1 : ((b : Int) == 91) = decide (b = 91) := key 91
  have m2 : ((b : Int) == 93) = decide (b = 93) := key 93
  have m3 : ((b : Int) == 92) = decide (b = 92) := key 92
  have m4 : ((b : Int) == 94) = decide (b = 94) := key 94
  have m5 : ((b : Int) == 45) = decide (b = 45) := key 45
  clear key
  rcases h1 : decide (b = 91) with _ | _
  · rcases h2 : decide (b = 93) with _ | _
    · rcases h3 : decide (b = 92) with _ | _
      · rcases h4 : decide (b = 94) with _ | _
        · rw [h1] at m1; rw [h2] at m2; rw [h3] at m3; rw [h4] at m4
          rw [h1, h2, h3, h4] at HV
          clear h1 h2 h3 h4
          go_enter Tryd.func88, Tryd.ntmps88
          go_wp2
          go_ret
          exact ⟨ret_bool (by rw [HV.out]; simp), rfl⟩
        · rw [h1] at m1; rw [h2] at m2; rw [h3] at m3; rw [h4] at m4
          rw [h1, h2, h3, h4] at HV
          clear h1 h2 h3 h4
          go_enter Tryd.func88, Tryd.ntmps88
          go_wp2
          go_ret
          exact ⟨ret_bool (by rw [HV.out]; simp), rfl⟩
      · rw [h1] at m1; rw [h2] at m2; rw [h3] at m3
        rw [h1, h2, h3] at HV
        clear h1 h2 h3
        go_enter Tryd.func88, Tryd.ntmps88
        go_wp2
        go_ret
        exact ⟨ret_bool (by rw [HV.out]; simp), rfl⟩
    · rw [h1] at m1; rw [h2] at m2
      rw [h1, h2] at HV
      clear h1 h2
      go_enter Tryd.func88, Tryd.ntmps88
      go_wp2
      go_ret
      exact ⟨ret_bool (by rw [HV.out]; simp), rfl⟩
  · rw [h1] at m1
    rw [h1] at HV
    clear h1
    go_enter Tryd.func88, Tryd.ntmps88
    go_wp2
    go_ret
    exact ⟨ret_bool (by rw [HV.out]; simp), rfl⟩
theorem hx_ext : ∀ n : Fin 16, (⟨#[48, 49, 50, 51, 52, 53, 54, 55, 56, 57, 97, 98, 99, 100, 101, 102]⟩ : ByteArray).extract n.val (n.val + 1) = ⟨#[hxK n.val]⟩ := by decide
set_option maxHeartbeats 1000000 in
theorem rdigit_ (n : Nat) (hn : n < 16) (w : World) : Calls Tryd.prog 89 #[.int .u8 (n : Int)] w fun e w' => e = .returned (.string ⟨#[hxK n]⟩) ∧ w' = w := by
  have HX := Lib.hid (hx_ext ⟨n, hn⟩)
  have i0 : (0 : Int) ≤ (n : Int) := by omega
  have i1 : (n : Int) ≤ (n : Int) + 1 := by omega
  have i2 : (n : Int) + 1 ≤ 16 := by omega
  go_enter Tryd.func89, Tryd.ntmps89
  go_wp2
  go_ret
  exact ⟨by rw [← HX.out]; rfl, rfl⟩
theorem ba2 (a b : List UInt8) : (⟨a.toArray⟩ : ByteArray) ++ ⟨b.toArray⟩ = ⟨(a ++ b).toArray⟩ := by
  apply ByteArray.ext
  apply Array.toList_inj.1
  rw [ByteArray.data_append, Array.toList_append]
theorem ba11 (a b : UInt8) : (⟨#[a]⟩ : ByteArray) ++ ⟨#[b]⟩ = ⟨[a, b].toArray⟩ := ba2 [a] [b]
theorem ba211 (a b c d : UInt8) : (⟨#[a, b]⟩ : ByteArray) ++ ⟨#[c]⟩ ++ ⟨#[d]⟩ = ⟨[a, b, c, d].toArray⟩ := by
  have h1 := ba2 [a, b] [c]
  have h2 := ba2 [a, b, c] [d]
  exact (congrArg (· ++ (⟨#[d]⟩ : ByteArray)) h1).trans h2
set_option maxRecDepth 100000 in
set_option maxHeartbeats 1000000 in
theorem rtextb_ (b : Nat) (hb : b < 256) (w : World) : Calls Tryd.prog 72 #[.int .u8 (b : Int)] w fun e w' => e = .returned (.string ⟨(txK (bK b)).toArray⟩) ∧ Below w.heap.size w w' := by
  have hpl : plK (bK b) = decide (33 ≤ b ∧ b ≤ 126) := by unfold plK; rw [bK_nat hb]
  have hcv := conv1 (w.alloc (.cells #[.int .u8 (b : Int)] 5 (0, 0))) w.heap.size (b : Int) b rfl hb (alloc1_new _ _)
  have hB : Below w.heap.size w (w.alloc (.cells #[.int .u8 (b : Int)] 5 (0, 0))) := (Below.refl _ _).alloc (Nat.le_refl _) _
  have HB := Lib.hid hB
  clear hB
  rcases hs : spK (bK b) with _ | _
  · have HS := Lib.hid (rspecial_ b hb false (Lib.hid hs) w)
    by_cases hp : 33 ≤ b ∧ b ≤ 126
    · have HT := Lib.hid (show txK (bK b) = [bK b] by unfold txK; rw [hs, hpl, decide_eq_true hp]; rfl)
      have i1 : (33 : Int) ≤ (b : Int) := by omega
      have i2 : (b : Int) ≤ 126 := by omega
      clear hpl hs
      go_enter Tryd.func72, Tryd.ntmps72
      go_wp2_with fail
      (with_reducible refine HS.out.mono ?_); rintro e w1 ⟨rfl, rfl⟩
      go_wp2
      go_ret
      exact ⟨by rw [HT.out]; rfl, HB.out⟩
    · have HT := Lib.hid (show txK (bK b) = [92, 120, hxK (b / 16), hxK (b % 16)] by unfold txK; rw [hs, hpl, decide_eq_false hp, bK_nat hb]; rfl)
      have HD1 := Lib.hid (show ∀ w, Calls Tryd.prog 89 #[.int .u8 ((b : Int) / 16)] w fun e w' => e = .returned (.string ⟨#[hxK (b / 16)]⟩) ∧ w' = w from fun w => rdigit_ (b / 16) (by omega) w)
      have HD2 := Lib.hid (show ∀ w, Calls Tryd.prog 89 #[.int .u8 ((b : Int) % 16)] w fun e w' => e = .returned (.string ⟨#[hxK (b % 16)]⟩) ∧ w' = w from fun w => rdigit_ (b % 16) (by omega) w)
      generalize hxK (b / 16) = x at *
      generalize hxK (b % 16) = y at *
      clear hpl hs hcv
      by_cases i1 : 33 ≤ b
      · have i2 : (33 : Int) ≤ (b : Int) := by omega
        have i3 : ¬ ((b : Int) ≤ 126) := by omega
        go_enter Tryd.func72, Tryd.ntmps72
        go_wp2_with fail
        (with_reducible refine HS.out.mono ?_); rintro e w1 ⟨rfl, rfl⟩
        go_wp2_with fail
        (with_reducible refine (HD1.out _).mono ?_); rintro e w2 ⟨rfl, rfl⟩
        go_wp2_with fail
        (with_reducible refine (HD2.out _).mono ?_); rintro e w3 ⟨rfl, rfl⟩
        go_wp2
        go_ret
        exact ⟨ret_str (by rw [HT.out]; exact ba211 _ _ _ _), Below.refl _ _⟩
      · have i2 : ¬ ((33 : Int) ≤ (b : Int)) := by omega
        go_enter Tryd.func72, Tryd.ntmps72
        go_wp2_with fail
        (with_reducible refine HS.out.mono ?_); rintro e w1 ⟨rfl, rfl⟩
        go_wp2_with fail
        (with_reducible refine (HD1.out _).mono ?_); rintro e w2 ⟨rfl, rfl⟩
        go_wp2_with fail
        (with_reducible refine (HD2.out _).mono ?_); rintro e w3 ⟨rfl, rfl⟩
        go_wp2
        go_ret
        exact ⟨ret_str (by rw [HT.out]; exact ba211 _ _ _ _), Below.refl _ _⟩
  · have HS := Lib.hid (rspecial_ b hb true (Lib.hid hs) w)
    have HT := Lib.hid (show txK (bK b) = [92, bK b] by unfold txK; rw [hs]; rfl)
    clear hpl hs
    go_enter Tryd.func72, Tryd.ntmps72
    go_wp2_with fail
    (with_reducible refine HS.out.mono ?_); rintro e w1 ⟨rfl, rfl⟩
    go_wp2
    go_ret
    exact ⟨ret_str (by rw [HT.out]; exact ba11 _ _), HB.out⟩
end Go.Proofs.YtfleamgncodkpaaDoor
namespace Go.Proofs.YtfleamgncodkpaaDoor
open Go.RowKit
theorem r2At {w : World} {B k : Nat} {A : Option Addr} {l : List (Nat × Nat)} (h : Reads w B 2 A l.length (rrs l)) (hk : k < l.length) :
    ∃ b off, A = some ⟨b, off, none⟩ ∧ b < B ∧ w.cell? ⟨b, off + k * 2, none⟩ = some (.int .u8 ((l[k].1 : Nat) : Int)) ∧ w.cell? ⟨b, off + k * 2 + 1, none⟩ = some (.int .u8 ((l[k].2 : Nat) : Int)) := by
  obtain ⟨b, off, e, hb, hc⟩ := h.2 (by omega)
  obtain ⟨f1, f2⟩ := flat2_at (f := rr0) (g := rr1) l k hk
  exact ⟨b, off, e, hb, hc (k * 2) _ f1, (congrArg (fun x => w.cell? ⟨b, x, none⟩) (Nat.add_assoc _ _ _)).trans (hc (k * 2 + 1) _ f2)⟩
theorem txK_len (b : UInt8) : (txK b).length ≤ 4 := by
  unfold txK
  split
  · simp
  · split <;> simp
set_option maxRecDepth 100000 in
set_option maxHeartbeats 4000000 in
theorem ritems_ (f : Nat → Bool) (w : World) : Calls Tryd.prog 51 #[stV f] w fun e w' => e = .returned (.string ⟨((rnK (mbK f)).flatMap itK).toArray⟩) ∧ Below w.heap.size w w' := by
  have HF0 := Lib.hid ((Fr.start w).newN (g := w.heap.size) rfl (stO f))
  have HR := Lib.hid (rruns_ f)
  have hok := (runs_in f).1
  have hln : (rnK (mbK f)).length ≤ 256 := Nat.le_trans (rnK_len _) (mbT_len f 256)
  generalize rnK (mbK f) = l at *
  go_enter Tryd.func51, Tryd.ntmps51
  go_upto_region 1 with fail
  generalize (w.alloc (stO f)) = W0 at *
  obtain ⟨⟨c0, c1, c2, c3⟩, _, _⟩ := bx4 (HF0.out.at (g := w.heap.size) (o := stO f) (by simp))
  go_wp2_with fail
  (with_reducible refine (HR.out _).mono ?_); rintro e w1 ⟨A, c, rfl, hb1, hr1⟩
  have HB1 := Lib.hid (HF0.out.go hb1).bel
  have HR1 := Lib.hid hr1
  clear hb1 hr1 HR HF0 c0 c1 c2 c3
  go_wp2
  go_loopw [3, 5] (fun s i wr => ∃ (k : Nat) (S : ByteArray), k ≤ l.length ∧ i = .int .i64 (k : Int) ∧ s = .string S ∧ Hid (S = ⟨((l.take k).flatMap itK).toArray⟩) ∧ Hid (Below w1.heap.size w1 wr)) (fun _ i _ => l.length - (intOf i).toNat)
  case atStart => exact ⟨0, ⟨#[]⟩, Nat.zero_le _, rfl, rfl, Lib.hid rfl, Lib.hid (Below.refl _ _)⟩
  case round =>
    obtain ⟨k, S, hk, rfl, rfl, hS, HB⟩ := hrel
    by_cases hlt : k < l.length
    case neg =>
      have i1 : ¬ ((k : Int) < (l.length : Int)) := by omega
      have hB := bt HB1.out HB.out
      go_wp2
      go_ret
      exact ⟨ret_str (by rw [hS.out, List.take_of_length_le (by omega)]), hB⟩
    have i1 : (k : Int) < (l.length : Int) := by omega
    have i0 : (0 : Int) ≤ (k : Int) := by omega
    obtain ⟨bk, off, rfl, hbk, c0, c1⟩ := r2At (HR1.out.below HB.out) hlt
    have hxy := hok l[k] (List.getElem_mem hlt)
    have hst : (l.take (k + 1)).flatMap itK = (l.take k).flatMap itK ++ itK l[k] := by
      rw [List.take_add_one, List.getElem?_eq_getElem hlt, List.flatMap_append]; simp
    have hbkw : bk < wr.heap.size := Nat.lt_of_lt_of_le hbk HB.out.size
    obtain ⟨x, y, hq⟩ : ∃ x y, l[k] = (x, y) := ⟨_, _, rfl⟩
    rw [hq] at c0 c1 hxy hst
    simp only at c0 c1 hxy
    have hsz : S.size ≤ 3000 := by
      rw [hS.out]
      show (((l.take k).flatMap itK).toArray).size ≤ 3000
      rw [List.size_toArray]
      have h1 := its_len (l.take k)
      have h2 : (l.take k).length ≤ 256 := by rw [List.length_take]; omega
      omega
    obtain ⟨X, hX⟩ : ∃ X : ByteArray, X = ⟨(txK (bK x)).toArray⟩ := ⟨_, rfl⟩
    obtain ⟨Y, hY⟩ : ∃ X : ByteArray, X = ⟨(txK (bK y)).toArray⟩ := ⟨_, rfl⟩
    have hXs : X.size ≤ 4 := by rw [hX]; show ((txK (bK x)).toArray).size ≤ 4; rw [List.size_toArray]; exact txK_len _
    have hYs : Y.size ≤ 4 := by rw [hY]; show ((txK (bK y)).toArray).size ≤ 4; rw [List.size_toArray]; exact txK_len _
    have tX := rtextb_ x (by omega)
    have tY := rtextb_ y hxy.2
    rw [← hX] at tX
    rw [← hY] at tY
    have HX := Lib.hid tX
    have HY := Lib.hid tY
    have Hst := Lib.hid hst
    have HXe := Lib.hid hX
    have HYe := Lib.hid hY
    clear hst hq hok tX tY hX hY
    go_wp2_with fail
    (with_reducible refine (HX.out _).mono ?_); rintro e w2 ⟨rfl, hb2⟩
    have d0 := (hb2.cell (p := ⟨bk, off + k * 2, none⟩) hbkw).trans c0
    have d1 := (hb2.cell (p := ⟨bk, off + k * 2 + 1, none⟩) hbkw).trans c1
    have HB2 := Lib.hid (bt HB.out hb2)
    have hbk2 : bk < w2.heap.size := Nat.lt_of_lt_of_le hbkw hb2.size
    have g4 : IntKind.u8.wrap ((y : Int) - (x : Int)) = (y : Int) - (x : Int) := by simp [IntKind.wrap, IntKind.bits, IntKind.signed]; omega
    clear c0 c1 hb2 HB hbkw HX
    have zf : ∀ u : List UInt8, itK (x, y) = u → ∀ V : ByteArray, V.data.toList = u → S ++ V = ⟨((l.take (k + 1)).flatMap itK).toArray⟩ := fun u hu V hV => by
      apply ByteArray.ext
      apply Array.toList_inj.1
      rw [ByteArray.data_append, Array.toList_append, hS.out, Hst.out, hu, hV]
    have ZF := Lib.hid zf
    have hXd : X.data.toList = txK (bK x) := by rw [HXe.out]
    have hYd : Y.data.toList = txK (bK y) := by rw [HYe.out]
    have HXd := Lib.hid hXd
    have HYd := Lib.hid hYd
    clear zf hXd hYd
    by_cases hxy2 : 2 ≤ y - x
    · have j1 : (2 : Int) ≤ (y : Int) - (x : Int) := by omega
      have j2 : (x : Int) < (y : Int) := by omega
      have HZ := Lib.hid (show itK (x, y) = txK (bK x) ++ ([45] ++ txK (bK y)) by unfold itK; rw [if_pos hxy2, if_pos (show x < y by omega)])
      have m1 : decide ((2 : Int) ≤ (y : Int) - (x : Int)) = true := decide_eq_true j1
      have m2 : decide ((x : Int) < (y : Int)) = true := decide_eq_true j2
      go_upto_region 7 with fail
      go_quiet (fail)
      go_upto_region 9 with fail
      go_quiet (fail)
      go_wp2_with fail
      (with_reducible refine (HY.out _).mono ?_); rintro e w3 ⟨rfl, hb3⟩
      have HB3 := Lib.hid (bt (Go.RowKit.Below.trans HB2.out (drewN_below _ _)) hb3)
      clear hb3
      go_wp2
      go_roundw
      case rel => exact ⟨k + 1, _, by omega, by go_num, rfl, Lib.hid (by
        rw [ByteArray.append_assoc, ByteArray.append_assoc]
        refine ZF.out _ HZ.out _ ?_
        rw [ByteArray.data_append, Array.toList_append, ByteArray.data_append, Array.toList_append, HXd.out, HYd.out]), HB3⟩
      case measure => (simp [intOf]) <;> omega
    · have j1 : ¬ ((2 : Int) ≤ (y : Int) - (x : Int)) := by omega
      have m1 : decide ((2 : Int) ≤ (y : Int) - (x : Int)) = false := decide_eq_false j1
      by_cases hxy3 : x < y
      · have j2 : (x : Int) < (y : Int) := by omega
        have m2 : decide ((x : Int) < (y : Int)) = true := decide_eq_true j2
        have HZ := Lib.hid (show itK (x, y) = txK (bK x) ++ txK (bK y) by unfold itK; rw [if_neg hxy2, if_pos hxy3]; rfl)
        go_upto_region 7 with fail
        go_quiet (fail)
        go_upto_region 9 with fail
        go_quiet (fail)
        go_wp2_with fail
        (with_reducible refine (HY.out _).mono ?_); rintro e w3 ⟨rfl, hb3⟩
        have HB3 := Lib.hid (bt (Go.RowKit.Below.trans HB2.out (drewN_below _ _)) hb3)
        clear hb3
        go_wp2
        go_roundw
        case rel => exact ⟨k + 1, _, by omega, by go_num, rfl, Lib.hid (by
          rw [ByteArray.append_assoc]
          refine ZF.out _ HZ.out _ ?_
          rw [ByteArray.data_append, Array.toList_append, HXd.out, HYd.out]), HB3⟩
        case measure => (simp [intOf]) <;> omega
      · have j2 : ¬ ((x : Int) < (y : Int)) := by omega
        have m2 : decide ((x : Int) < (y : Int)) = false := decide_eq_false j2
        have HZ := Lib.hid (show itK (x, y) = txK (bK x) by unfold itK; rw [if_neg hxy2, if_neg hxy3]; simp)
        go_upto_region 7 with fail
        go_quiet (fail)
        go_upto_region 9 with fail
        go_quiet (fail)
        go_wp2
        go_roundw
        case rel => exact ⟨k + 1, _, by omega, by go_num, rfl, Lib.hid (ZF.out _ HZ.out _ HXd.out), Lib.hid (Go.RowKit.Below.trans HB2.out (drewN_below _ _))⟩
        case measure => (simp [intOf]) <;> omega
end Go.Proofs.YtfleamgncodkpaaDoor
