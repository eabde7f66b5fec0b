/- Sets of bytes: Prefix of the program. No condition. -/
import Derived.Test.YtcopnpllaoahaaaGreatDoorG8
import Derived.Deep.DeepCutAuto
namespace Go.Proofs.YtcopnpllaoahaaaGreatDoor
open Go.RowKit
theorem range_noI (lo hi : UInt8) (h : hi.toNat < lo.toNat) (w : World) : Calls Tryz.prog 81 #[.int .i64 (lo.toNat : Int), .int .i64 (hi.toNat : Int)] w fun e w' => e = .returned (.tuple #[.agg #[.int .u64 0, .int .u64 0, .int .u64 0, .int .u64 0], .int .i64 7]) ∧ Below w.heap.size w w' :=
  range_no lo.toNat hi.toNat lo.toNat_lt hi.toNat_lt h w
theorem range_I (lo hi : UInt8) (h : ¬ hi.toNat < lo.toNat) (w : World) : Calls Tryz.prog 81 #[.int .i64 (lo.toNat : Int), .int .i64 (hi.toNat : Int)] w fun e w' => e = .returned (.tuple #[stV (rgK lo.toNat (hi.toNat + 1)), .int .i64 0]) ∧ Below w.heap.size w w' :=
  range_ lo.toNat hi.toNat lo.toNat_lt hi.toNat_lt (by omega) w
theorem read_no1 (s : ByteArray) (a q k : Nat) (ha : a + 1 ≤ s.size) (hs : s.size ≤ 1000000) (h : Hid (onK (s.data.toList.drop (a + 1)) = (none, k))) (hq : Hid (q = a + 1 + k)) (w : World) :
    Calls Tryz.prog 80 #[.string s, .int .i64 ((a : Int) + 1)] w fun e w' => e = .returned (.tuple #[.int .u8 0, .int .i64 (q : Int), .bool false]) ∧ w = w' :=
  read_no s (a + 1) q k ha hs h hq w
theorem read_yes1 (s : ByteArray) (a q k : Nat) (b : UInt8) (ha : a + 1 ≤ s.size) (hs : s.size ≤ 1000000) (h : Hid (onK (s.data.toList.drop (a + 1)) = (some b, k))) (hq : Hid (q = a + 1 + k)) (w : World) :
    Calls Tryz.prog 80 #[.string s, .int .i64 ((a : Int) + 1)] w fun e w' => e = .returned (.tuple #[.int .u8 (b.toNat : Int), .int .i64 (q : Int), .bool true]) ∧ w = w' :=
  read_yes s (a + 1) q k b ha hs h hq w
theorem st_put {w W : World} {acc h : Nat → Bool} (hF : Fr w [(w.heap.size, stO acc)] W) : Fr w [(w.heap.size, stO h)] ((((W.setCell ⟨w.heap.size, 0, none⟩ (.int .u64 ((wK h 0 : Nat) : Int))).setCell ⟨w.heap.size, 1, none⟩ (.int .u64 ((wK h 1 : Nat) : Int))).setCell ⟨w.heap.size, 2, none⟩ (.int .u64 ((wK h 2 : Nat) : Int))).setCell ⟨w.heap.size, 3, none⟩ (.int .u64 ((wK h 3 : Nat) : Int))) :=
  Fr.stPut hF (Nat.le_refl _) (by simp)
theorem pf_no {r R : (Nat → Bool) × Nat × Int} {nt : Bool} {n : Nat} (h : Hid (r = if nt = true then (if R.2.2 = 0 then ((fun i => !R.1 i), R.2) else R) else R)) (hR : R = (fun _ => false, n, 6)) : r = (fun _ => false, n, 6) := by
  rw [h.out, hR]
  cases nt
  · rfl
  · rfl
theorem pf_yes {r R : (Nat → Bool) × Nat × Int} {nt : Bool} {n : Nat} {acc : Nat → Bool} (h : Hid (r = if nt = true then (if R.2.2 = 0 then ((fun i => !R.1 i), R.2) else R) else R)) (hR : R = (acc, n, 0)) : r = (if nt = true then (fun i => !acc i) else acc, n, 0) := by
  rw [h.out, hR]
  cases nt
  · rfl
  · rfl
set_option maxRecDepth 100000 in
set_option maxHeartbeats 8000000 in
theorem prefix_ (s : ByteArray) (hs : s.size ≤ 1000000) (r : (Nat → Bool) × Nat × Int) (hr : Hid (pfK s.data.toList = r)) (w : World) :
    Calls Tryz.prog 63 #[.string s] w (RetPf w r) := by
  have hr0 := hr.out
  have hF0 := (Fr.start w).newN (g := w.heap.size) rfl st0O
  have hcut0 := fun W => Tryz.strings_CutPrefix s ⟨#[91]⟩ W
  rw [show (⟨#[91]⟩ : ByteArray).data.toList = [91] from rfl] at hcut0
  by_cases hh : s.data.toList.head? = some 91
  case neg =>
    have HN := Lib.hid (show r = (fun _ => false, 0, 6) by rw [← hr0]; exact pfK_not hh)
    rw [hasP1, decide_eq_false hh] at hcut0
    generalize Lib.trimPrefix s.data.toList [91] = u at *
    have HC := Lib.hid hcut0
    have HF0 := Lib.hid hF0
    obtain ⟨⟨c0, c1, c2, c3⟩, ⟨f0, f1, f2, f3⟩, hl0⟩ := bx4 (hF0.at (g := w.heap.size) (o := st0O) (by simp))
    have hB := hF0.bel
    clear hcut0 hr0 hh hF0 hr
    go_enter Tryz.func63, Tryz.ntmps63
    go_upto_region 1 with fail
    generalize w.alloc st0O = W0 at *
    go_wp2_with fail
    (with_reducible refine (HC.out _).mono ?_); rintro e w1 ⟨rfl, hw1⟩; subst w1
    go_wp2
    refine bodyPost_ret (v := .tuple #[.agg #[.int .u64 0, .int .u64 0, .int .u64 0, .int .u64 0], .int .i64 0, .int .i64 6]) (by simp [results, go_sem, c0, c1, c2, c3]) rfl (RetPf.no HN.out (by rfl) ?_)
    repeat' (first | with_reducible exact hB | with_reducible refine bs ?_ ?_ | (simp only; done) | (simp only; omega))
  obtain ⟨t, hL⟩ : ∃ t, s.data.toList = 91 :: t := by
    cases hq : s.data.toList with
    | nil => rw [hq] at hh; cases hh
    | cons c u => rw [hq] at hh; exact ⟨u, by simpa using hh⟩
  rw [hL] at hcut0 hr0
  rw [hasP1, trimP1] at hcut0
  have hcut : ∀ W, Calls Tryz.prog 78 #[.string s, .string ⟨#[91]⟩] W fun e w' => e = .returned (.tuple #[.string ⟨t.toArray⟩, .bool true]) ∧ W = w' := fun W => (hcut0 W).mono fun e w' h => ⟨by rw [h.1]; simp, h.2.symm⟩
  have hpre0 := fun W => Tryz.strings_HasPrefix ⟨t.toArray⟩ ⟨#[94]⟩ W
  rw [show (⟨#[94]⟩ : ByteArray).data.toList = [94] from rfl, show (⟨t.toArray⟩ : ByteArray).data.toList = t from by simp, hasP1] at hpre0
  obtain ⟨nt, hnt⟩ : ∃ nt : Bool, nt = decide (t.head? = some 94) := ⟨_, rfl⟩
  rw [← hnt] at hpre0
  have hpre : ∀ W, Calls Tryz.prog 79 #[.string ⟨t.toArray⟩, .string ⟨#[94]⟩] W fun e w' => e = .returned (.bool nt) ∧ W = w' := fun W => (hpre0 W).mono fun e w' h => ⟨h.1, h.2.symm⟩
  obtain ⟨p0, hp0⟩ : ∃ p0 : Nat, p0 = if nt = true then 2 else 1 := ⟨_, rfl⟩
  obtain ⟨R, hR⟩ : ∃ R, R = pxK ((s.data.toList.drop p0).length + 1) (s.data.toList.drop p0) p0 (fun _ => false) := ⟨_, rfl⟩
  have hPf : r = if nt = true then (if R.2.2 = 0 then ((fun i => !R.1 i), R.2) else R) else R := by
    rw [← hr0, hR, hp0, hL]
    by_cases h94 : t.head? = some 94
    · rw [hnt, decide_eq_true h94, if_pos rfl, if_pos rfl]
      cases t with
      | nil => cases h94
      | cons d u =>
        have : d = 94 := by simpa using h94
        subst this
        rw [pfK_hat]
        rfl
    · rw [hnt, decide_eq_false h94, if_neg (by decide), if_neg (by decide), pfK_open h94]
      rfl
  have hp02 : p0 = 1 ∨ p0 = 2 := by rw [hp0]; split <;> simp
  have hp0s : p0 ≤ s.size := by
    have hz : s.size = t.length + 1 := by have : s.data.toList.length = s.size := by simp
                                          rw [← this, hL]; rfl
    rw [hp0]
    split
    · rename_i h
      rw [hnt] at h
      have := of_decide_eq_true h
      cases t with
      | nil => cases this
      | cons d u => rw [hz]; simp
    · omega
  have HX0 : Hid (PxR s.data.toList R p0 (fun _ => false)) := Lib.hid ⟨_, Nat.lt_succ_self _, hR.symm⟩
  have HPf := Lib.hid hPf
  have Hcut := Lib.hid hcut
  have Hpre := Lib.hid hpre
  have HF0 := Lib.hid hF0
  have Hp0 := Lib.hid hp0
  clear hr0 hcut hpre hcut0 hpre0 hPf hR hF0 hL hnt hr hp0 hh
  go_enter Tryz.func63, Tryz.ntmps63
  go_wp2_with fail
  (with_reducible refine (Hcut.out _).mono ?_); rintro e w1 ⟨rfl, hw1⟩; subst w1
  go_wp2_with fail
  (with_reducible refine (Hpre.out _).mono ?_); rintro e w1 ⟨rfl, hw1⟩; subst w1
  go_upto_if 26 with (fail)
  go_cut [7] (fun a7 wx => a7 = .int .i64 (p0 : Int) ∧ Fr w [(w.heap.size, stO fun _ => false)] wx)
  case first =>
    have hp := Hp0.out
    rcases nt with _ | _
    · rw [if_neg (by decide)] at hp
      subst hp
      go_wp2
      go_meet
      exact ⟨rfl, by rw [← st0_eq]; exact HF0.out⟩
    · rw [if_pos rfl] at hp
      subst hp
      go_wp2
      go_meet
      exact ⟨rfl, by rw [← st0_eq]; exact HF0.out⟩
  case rest =>
  obtain ⟨rfl, hFc⟩ := hcut
  have HFc := Lib.hid hFc
  clear Hcut Hpre HF0 Hp0 hFc
  go_wp2
  go_loopw [7] (fun a7 wr => ∃ (p : Nat) (acc : Nat → Bool), p ≤ s.size ∧ a7 = .int .i64 (p : Int) ∧ Fr w [(w.heap.size, stO acc)] wr ∧ Hid (PxR s.data.toList R p acc)) (fun a7 _ => s.size - (intOf a7).toNat)
  case atStart => exact ⟨p0, _, hp0s, rfl, HFc.out, HX0⟩
  case round =>
    obtain ⟨p, acc, hp, rfl, hF, hX⟩ := hrel
    clear HFc HX0 hp02 hp0s
    have HF := Lib.hid hF
    clear hF
    have hsl : s.data.toList.length = s.size := by simp
    by_cases hlt : p < s.size
    case neg =>
      have i1 : ¬ ((p : Int) < (s.size : Int)) := by omega
      have i2 : (s.size : Int) ≤ (p : Int) := by omega
      have HN := Lib.hid (pf_no HPf (hX.out.over (by omega)))
      have He := Lib.hid (show p = s.size by omega)
      clear hX hsl HPf hlt
      obtain ⟨⟨c0, c1, c2, c3⟩, ⟨f0, f1, f2, f3⟩, hl0⟩ := bx4 (HF.out.at (g := w.heap.size) (o := stO acc) (by simp))
      have hB := HF.out.bel
      go_wp2
      refine bodyPost_ret (v := .tuple #[.agg #[.int .u64 0, .int .u64 0, .int .u64 0, .int .u64 0], .int .i64 ((s.size : Nat) : Int), .int .i64 6]) (by simp [results, go_sem, c0, c1, c2, c3]) rfl (RetPf.no HN.out (by have := He.out; omega) ?_)
      repeat' (first | with_reducible exact hB | with_reducible refine bs ?_ ?_ | with_reducible refine ba ?_ _ | (simp only; done) | (simp only; omega))
    have i1 : (p : Int) < (s.size : Int) := by omega
    have i2 : ¬ ((s.size : Int) ≤ (p : Int)) := by omega
    have hd := dropB s p hlt
    by_cases h93 : s[p] = 93
    case pos =>
      have m1 : ((s[p].toNat : Int) != 93) = false := by rw [h93]; rfl
      rw [h93] at hd
      have HN := Lib.hid (pf_yes HPf (hX.out.close hd))
      clear hX hsl HPf hd h93
      have hF := HF.out
      obtain ⟨⟨c0, c1, c2, c3⟩, ⟨f0, f1, f2, f3⟩, hl0⟩ := bx4 (hF.at (g := w.heap.size) (o := stO acc) (by simp))
      have hB := hF.bel
      rcases nt with _ | _
      · have HN2 := Lib.hid (show r = (acc, p + 1, 0) from HN.out)
        clear HN hF
        go_wp2
        refine bodyPost_ret (v := .tuple #[stV acc, .int .i64 ((p : Int) + 1), .int .i64 0]) (by simp [results, go_sem, c0, c1, c2, c3]) rfl (RetPf.yes HN2.out (by omega) ?_)
        repeat' (first | with_reducible exact hB | with_reducible refine bs ?_ ?_ | with_reducible refine ba ?_ _ | (simp only; done) | (simp only; omega))
      · have HN2 := Lib.hid (show r = (fun i => !acc i, p + 1, 0) from HN.out)
        have HU := Lib.hid (not_ acc)
        generalize (fun i => !acc i) = acc2 at *
        clear HN hF
        go_wp2_with fail
        (with_reducible refine (HU.out _).mono ?_); rintro e w3 ⟨rfl, hb3⟩
        have hF3 := HF.out.go hb3
        clear c0 c1 c2 c3 f0 f1 f2 f3 hl0 hB
        obtain ⟨⟨c0, c1, c2, c3⟩, ⟨f0, f1, f2, f3⟩, hl0⟩ := bx4 (hF3.at (g := w.heap.size) (o := stO acc) (by simp))
        have HF4 := Lib.hid (st_put (h := acc2) hF3)
        clear hF3 hb3 HF
        go_upto_region 25 with fail
        generalize (((w3.setCell ⟨w.heap.size, 0, none⟩ (.int .u64 ((wK acc2 0 : Nat) : Int))).setCell ⟨w.heap.size, 1, none⟩ (.int .u64 ((wK acc2 1 : Nat) : Int))).setCell ⟨w.heap.size, 2, none⟩ (.int .u64 ((wK acc2 2 : Nat) : Int))).setCell ⟨w.heap.size, 3, none⟩ (.int .u64 ((wK acc2 3 : Nat) : Int)) = W4 at *
        clear c0 c1 c2 c3 f0 f1 f2 f3 hl0
        obtain ⟨⟨c0, c1, c2, c3⟩, ⟨f0, f1, f2, f3⟩, hl0⟩ := bx4 (HF4.out.at (g := w.heap.size) (o := stO acc2) (by simp))
        have hB := HF4.out.bel
        go_wp2
        refine bodyPost_ret (v := .tuple #[stV acc2, .int .i64 ((p : Int) + 1), .int .i64 0]) (by simp [results, go_sem, c0, c1, c2, c3]) rfl (RetPf.yes HN2.out (by omega) ?_)
        repeat' (first | with_reducible exact hB | with_reducible refine bs ?_ ?_ | with_reducible refine ba ?_ _ | (simp only; done) | (simp only; omega))
    case neg =>
    have m1 : ((s[p].toNat : Int) != 93) = true := by
      rw [bne_iff_ne]; intro e; exact h93 (UInt8.toNat_inj.1 (by have : s[p].toNat = 93 := by omega
                                                                 rw [this]; rfl))
    rcases ho : onK (s.data.toList.drop p) with ⟨_ | lo, k⟩
    · have HN := Lib.hid (pf_no HPf (hX.out.none hd h93 ho))
      have Ho := Lib.hid ho
      obtain ⟨q, hq⟩ : ∃ q, q = p + k := ⟨_, rfl⟩
      have Hq := Lib.hid hq
      clear hX hsl HPf hd h93 ho hq
      go_wp2_with fail
      (with_reducible refine (read_no s p q k hp hs Ho Hq _).mono ?_); rintro e w2 ⟨rfl, hw2⟩; subst w2
      obtain ⟨⟨c0, c1, c2, c3⟩, ⟨f0, f1, f2, f3⟩, hl0⟩ := bx4 (HF.out.at (g := w.heap.size) (o := stO acc) (by simp))
      have hB := HF.out.bel
      go_wp2
      refine bodyPost_ret (v := .tuple #[.agg #[.int .u64 0, .int .u64 0, .int .u64 0, .int .u64 0], .int .i64 (q : Int), .int .i64 6]) (by simp [results, go_sem, c0, c1, c2, c3]) rfl (RetPf.no HN.out (by have := Hq.out; omega) ?_)
      repeat' (first | with_reducible exact hB | with_reducible refine bs ?_ ?_ | with_reducible refine ba ?_ _ | (simp only; done) | (simp only; omega))
    obtain ⟨hk0, hk1, _⟩ := onK_loc ho
    rw [List.length_drop, hsl] at hk1
    have hlo8 : lo.toNat < 256 := lo.toNat_lt
    have Ho := Lib.hid ho
    obtain ⟨q, hq⟩ : ∃ q, q = p + k := ⟨_, rfl⟩
    have Hq := Lib.hid hq
    have hqs : q ≤ s.size := by omega
    have hpq : p < q := by omega
    have Hlt := Lib.hid hlt
    have Hd := Lib.hid hd
    have H93 := Lib.hid h93
    clear hd ho h93 hq hk0 hk1
    by_cases hq1 : q < s.size
    case neg =>
      have i3 : ¬ ((q : Int) < (s.size : Int)) := by omega
      have hm : (s.data.toList.drop q).head? ≠ some 45 := by rw [List.drop_of_length_le (by omega)]; simp
      have HX1 := Lib.hid (hX.out.single Hd.out H93.out Ho.out (by rw [← Hq.out]; exact hm) (by have := Hq.out; omega))
      rw [← Hq.out] at HX1
      clear hm hX
      go_wp2_with fail
      (with_reducible refine (read_yes s p q k lo hp hs Ho Hq _).mono ?_); rintro e w1 ⟨rfl, hw1⟩; subst w1
      go_wp2_with fail
      (with_reducible refine (range_I lo lo (by omega) _).mono ?_); rintro e w2 ⟨rfl, hb2⟩
      have hF2 := ((HF.out.go hb2).al (stO (rgK lo.toNat (lo.toNat + 1)))).cons (alloc1_new w2 (stO (rgK lo.toNat (lo.toNat + 1))))
      have HX2 := Lib.hid HX1.out
      have HU := Lib.hid (union_ acc (rgK lo.toNat (lo.toNat + 1)))
      have hgne : w2.heap.size ≠ w.heap.size := by have := hF2.lt (g := w.heap.size) (o := stO acc) (by simp); have h3 := (HF.out.go hb2).lt (g := w.heap.size) (o := stO acc) (by simp); omega
      generalize (fun i => acc i || rgK lo.toNat (lo.toNat + 1) i) = acc2 at *
      generalize rgK lo.toNat (lo.toNat + 1) = rg at *
      obtain ⟨⟨c0, c1, c2, c3⟩, ⟨f0, f1, f2, f3⟩, hl0⟩ := bx4 (hF2.at (g := w.heap.size) (o := stO acc) (by simp))
      obtain ⟨⟨d0, d1, d2, d3⟩, ⟨e0, e1, e2, e3⟩, hl2⟩ := bx4 (hF2.at (g := w2.heap.size) (o := stO rg) (by simp))
      have HF2 := Lib.hid (hF2.sub (M := [(w.heap.size, stO acc)]) (by simp))
      clear hF2 hb2 HF
      go_upto_region 18 with fail
      generalize w2.alloc (stO rg) = W2 at *
      go_wp2_with fail
      (with_reducible refine (HU.out _).mono ?_); rintro e w3 ⟨rfl, hb3⟩
      have hF3 := HF2.out.go hb3
      clear c0 c1 c2 c3 f0 f1 f2 f3 hl0 d0 d1 d2 d3 e0 e1 e2 e3 hl2 hgne
      obtain ⟨⟨c0, c1, c2, c3⟩, ⟨f0, f1, f2, f3⟩, hl0⟩ := bx4 (hF3.at (g := w.heap.size) (o := stO acc) (by simp))
      have HF4 := Lib.hid (st_put (h := acc2) hF3)
      clear hF3 hb3 HF2
      go_wp2
      go_roundw
      case rel => exact ⟨q, acc2, by omega, rfl, HF4.out, HX2⟩
      case measure => (simp [intOf]) <;> omega
    have i3 : (q : Int) < (s.size : Int) := by omega
    have hdq := dropB s q hq1
    by_cases h45 : s[q] = 45
    case neg =>
      have m2 : ((s[q].toNat : Int) == 45) = false := by
        rw [beq_eq_false_iff_ne]; intro e; exact h45 (UInt8.toNat_inj.1 (by have : s[q].toNat = 45 := by omega
                                                                            rw [this]; rfl))
      have hm : (s.data.toList.drop q).head? ≠ some 45 := by rw [hdq]; simpa using h45
      have HX1 := Lib.hid (hX.out.single Hd.out H93.out Ho.out (by rw [← Hq.out]; exact hm) (by have := Hq.out; omega))
      rw [← Hq.out] at HX1
      clear hm hX hdq h45
      go_wp2_with fail
      (with_reducible refine (read_yes s p q k lo hp hs Ho Hq _).mono ?_); rintro e w1 ⟨rfl, hw1⟩; subst w1
      go_wp2_with fail
      (with_reducible refine (range_I lo lo (by omega) _).mono ?_); rintro e w2 ⟨rfl, hb2⟩
      have hF2 := ((HF.out.go hb2).al (stO (rgK lo.toNat (lo.toNat + 1)))).cons (alloc1_new w2 (stO (rgK lo.toNat (lo.toNat + 1))))
      have HX2 := Lib.hid HX1.out
      have HU := Lib.hid (union_ acc (rgK lo.toNat (lo.toNat + 1)))
      have hgne : w2.heap.size ≠ w.heap.size := by have := hF2.lt (g := w.heap.size) (o := stO acc) (by simp); have h3 := (HF.out.go hb2).lt (g := w.heap.size) (o := stO acc) (by simp); omega
      generalize (fun i => acc i || rgK lo.toNat (lo.toNat + 1) i) = acc2 at *
      generalize rgK lo.toNat (lo.toNat + 1) = rg at *
      obtain ⟨⟨c0, c1, c2, c3⟩, ⟨f0, f1, f2, f3⟩, hl0⟩ := bx4 (hF2.at (g := w.heap.size) (o := stO acc) (by simp))
      obtain ⟨⟨d0, d1, d2, d3⟩, ⟨e0, e1, e2, e3⟩, hl2⟩ := bx4 (hF2.at (g := w2.heap.size) (o := stO rg) (by simp))
      have HF2 := Lib.hid (hF2.sub (M := [(w.heap.size, stO acc)]) (by simp))
      clear hF2 hb2 HF
      go_upto_region 18 with fail
      generalize w2.alloc (stO rg) = W2 at *
      go_wp2_with fail
      (with_reducible refine (HU.out _).mono ?_); rintro e w3 ⟨rfl, hb3⟩
      have hF3 := HF2.out.go hb3
      clear c0 c1 c2 c3 f0 f1 f2 f3 hl0 d0 d1 d2 d3 e0 e1 e2 e3 hl2 hgne
      obtain ⟨⟨c0, c1, c2, c3⟩, ⟨f0, f1, f2, f3⟩, hl0⟩ := bx4 (hF3.at (g := w.heap.size) (o := stO acc) (by simp))
      have HF4 := Lib.hid (st_put (h := acc2) hF3)
      clear hF3 hb3 HF2
      go_wp2
      go_roundw
      case rel => exact ⟨q, acc2, by omega, rfl, HF4.out, HX2⟩
      case measure => (simp [intOf]) <;> omega
    have m2 : ((s[q].toNat : Int) == 45) = true := by rw [h45]; rfl
    have hm : (s.data.toList.drop q).head? = some 45 := by rw [hdq, h45]; rfl
    rw [Hq.out] at hm
    rcases ho2 : onK (s.data.toList.drop (q + 1)) with ⟨_ | hi, k2⟩
    · have HN := Lib.hid (pf_no HPf (hX.out.none2 Hd.out H93.out Ho.out hm (by rw [← Hq.out]; exact ho2)))
      have Ho2 := Lib.hid ho2
      obtain ⟨q2, hq2⟩ : ∃ q2, q2 = q + 1 + k2 := ⟨_, rfl⟩
      have Hq2 := Lib.hid hq2
      have hqs1 : q + 1 ≤ s.size := by omega
      clear hX HPf hm ho2 hq2 hdq h45
      go_wp2_with fail
      (with_reducible refine (read_yes s p q k lo hp hs Ho Hq _).mono ?_); rintro e w1 ⟨rfl, hw1⟩; subst w1
      go_wp2_with fail
      (with_reducible refine (read_no1 s q q2 k2 hqs1 hs Ho2 Hq2 _).mono ?_); rintro e w2 ⟨rfl, hw2⟩; subst w2
      obtain ⟨⟨c0, c1, c2, c3⟩, ⟨f0, f1, f2, f3⟩, hl0⟩ := bx4 (HF.out.at (g := w.heap.size) (o := stO acc) (by simp))
      have hB := HF.out.bel
      go_wp2
      refine bodyPost_ret (v := .tuple #[.agg #[.int .u64 0, .int .u64 0, .int .u64 0, .int .u64 0], .int .i64 (q2 : Int), .int .i64 6]) (by simp [results, go_sem, c0, c1, c2, c3]) rfl (RetPf.no HN.out (by have := Hq2.out; have := Hq.out; omega) ?_)
      repeat' (first | with_reducible exact hB | with_reducible refine bs ?_ ?_ | with_reducible refine ba ?_ _ | (simp only; done) | (simp only; omega))
    obtain ⟨hk0, hk1, _⟩ := onK_loc ho2
    rw [List.length_drop, hsl] at hk1
    have hhi8 : hi.toNat < 256 := hi.toNat_lt
    have Ho2 := Lib.hid ho2
    obtain ⟨q2, hq2⟩ : ∃ q2, q2 = q + 1 + k2 := ⟨_, rfl⟩
    have Hq2 := Lib.hid hq2
    have hqs1 : q + 1 ≤ s.size := by omega
    have hq2s : q2 ≤ s.size := by omega
    have hqq2 : q < q2 := by omega
    by_cases hlo : hi.toNat < lo.toNat
    · have HN := Lib.hid (pf_no HPf (hX.out.bad Hd.out H93.out Ho.out hm (by rw [← Hq.out]; exact ho2) hlo))
      clear hX HPf hm ho2 hq2 hdq h45 hk0 hk1
      go_wp2_with fail
      (with_reducible refine (read_yes s p q k lo hp hs Ho Hq _).mono ?_); rintro e w1 ⟨rfl, hw1⟩; subst w1
      go_wp2_with fail
      (with_reducible refine (read_yes1 s q q2 k2 hi hqs1 hs Ho2 Hq2 _).mono ?_); rintro e w2 ⟨rfl, hw2⟩; subst w2
      go_wp2_with fail
      (with_reducible refine (range_noI lo hi hlo _).mono ?_); rintro e w3 ⟨rfl, hb3⟩
      have HF3 := Lib.hid ((HF.out.go hb3).al st0O)
      clear hb3 HF
      go_upto_region 18 with fail
      generalize w3.alloc st0O = W4 at *
      obtain ⟨⟨c0, c1, c2, c3⟩, ⟨f0, f1, f2, f3⟩, hl0⟩ := bx4 (HF3.out.at (g := w.heap.size) (o := stO acc) (by simp))
      have hB := HF3.out.bel
      go_wp2
      refine bodyPost_ret (v := .tuple #[.agg #[.int .u64 0, .int .u64 0, .int .u64 0, .int .u64 0], .int .i64 ((q : Int) + 1), .int .i64 6]) (by simp [results, go_sem, c0, c1, c2, c3]) rfl (RetPf.no HN.out (by have := Hq.out; omega) ?_)
      repeat' (first | with_reducible exact hB | with_reducible refine bs ?_ ?_ | with_reducible refine ba ?_ _ | (simp only; done) | (simp only; omega))
    · have HX1 := Lib.hid (hX.out.pair Hd.out H93.out Ho.out hm (by rw [← Hq.out]; exact ho2) hlo)
      rw [← Hq.out, ← Hq2.out] at HX1
      clear hX hm ho2 hq2 hdq h45 hk0 hk1
      go_wp2_with fail
      (with_reducible refine (read_yes s p q k lo hp hs Ho Hq _).mono ?_); rintro e w1 ⟨rfl, hw1⟩; subst w1
      go_wp2_with fail
      (with_reducible refine (read_yes1 s q q2 k2 hi hqs1 hs Ho2 Hq2 _).mono ?_); rintro e w2 ⟨rfl, hw2⟩; subst w2
      go_wp2_with fail
      (with_reducible refine (range_I lo hi hlo _).mono ?_); rintro e w2 ⟨rfl, hb2⟩
      have hF2 := ((HF.out.go hb2).al (stO (rgK lo.toNat (hi.toNat + 1)))).cons (alloc1_new w2 (stO (rgK lo.toNat (hi.toNat + 1))))
      have HX2 := Lib.hid HX1.out
      have HU := Lib.hid (union_ acc (rgK lo.toNat (hi.toNat + 1)))
      have hgne : w2.heap.size ≠ w.heap.size := by have := hF2.lt (g := w.heap.size) (o := stO acc) (by simp); have h3 := (HF.out.go hb2).lt (g := w.heap.size) (o := stO acc) (by simp); omega
      generalize (fun i => acc i || rgK lo.toNat (hi.toNat + 1) i) = acc2 at *
      generalize rgK lo.toNat (hi.toNat + 1) = rg at *
      obtain ⟨⟨c0, c1, c2, c3⟩, ⟨f0, f1, f2, f3⟩, hl0⟩ := bx4 (hF2.at (g := w.heap.size) (o := stO acc) (by simp))
      obtain ⟨⟨d0, d1, d2, d3⟩, ⟨e0, e1, e2, e3⟩, hl2⟩ := bx4 (hF2.at (g := w2.heap.size) (o := stO rg) (by simp))
      have HF2 := Lib.hid (hF2.sub (M := [(w.heap.size, stO acc)]) (by simp))
      clear hF2 hb2 HF
      go_upto_region 18 with fail
      generalize w2.alloc (stO rg) = W2 at *
      go_wp2_with fail
      (with_reducible refine (HU.out _).mono ?_); rintro e w3 ⟨rfl, hb3⟩
      have hF3 := HF2.out.go hb3
      clear c0 c1 c2 c3 f0 f1 f2 f3 hl0 d0 d1 d2 d3 e0 e1 e2 e3 hl2 hgne
      obtain ⟨⟨c0, c1, c2, c3⟩, ⟨f0, f1, f2, f3⟩, hl0⟩ := bx4 (hF3.at (g := w.heap.size) (o := stO acc) (by simp))
      have HF4 := Lib.hid (st_put (h := acc2) hF3)
      clear hF3 hb3 HF2
      go_wp2
      go_roundw
      case rel => exact ⟨q2, acc2, by omega, rfl, HF4.out, HX2⟩
      case measure => (simp [intOf]) <;> omega
end Go.Proofs.YtcopnpllaoahaaaGreatDoor
