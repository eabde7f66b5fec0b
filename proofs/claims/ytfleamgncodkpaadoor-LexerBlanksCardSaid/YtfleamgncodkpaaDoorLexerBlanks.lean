/- LexerBlanks. -/
import Derived.Test.YtfleamgncodkpaaDoorLexerPlaces
import Derived.BigQuiet
namespace Go.Proofs.YtfleamgncodkpaaDoor
open Go.RowKit
theorem lnK_most {β : Type} {tk : Tk β} {most : Nat} : ∀ (n : Nat) (t : List UInt8) (at_ : Nat) (acc l : List (β × Nat × Nat)) (p : Nat) (e : Int), acc.length ≤ most → lnK tk most n t at_ acc = (l, p, e) → l.length ≤ most
  | 0, _, _, _, _, _, _, _, h => by simp only [lnK, Prod.mk.injEq] at h; rw [← h.1]; simp
  | n + 1, [], _, _, _, _, _, ha, h => by simp only [lnK, Prod.mk.injEq] at h; rw [← h.1]; exact ha
  | n + 1, c :: r, at_, acc, l, p, e, ha, h => by
    rw [lnK] at h
    by_cases hc : c = 32
    · rw [if_pos hc] at h; exact lnK_most n _ _ _ _ _ _ ha h
    rw [if_neg hc] at h
    by_cases hm : acc.length = most
    · rw [if_pos hm] at h
      simp only [Prod.mk.injEq] at h
      rw [← h.1]; simp
    rw [if_neg hm] at h
    rcases ht : tk (c :: r) with ⟨b, m⟩ | k
    · rw [ht] at h
      simp only at h
      by_cases hd : ((c :: r).drop m).head? = none ∨ ((c :: r).drop m).head? = some 32
      · rw [if_pos hd] at h; exact lnK_most n _ _ _ _ _ _ (by rw [List.length_append]; simp; omega) h
      · rw [if_neg hd] at h
        simp only [Prod.mk.injEq] at h
        rw [← h.1]; simp
    · rw [ht] at h
      simp only [Prod.mk.injEq] at h
      rw [← h.1]; simp
theorem line_most {L : List UInt8} {l : List Tok} {q : Nat} (h : lineK L = (l, q, 0)) : l.length ≤ 80 := lnK_most _ _ _ _ _ _ _ (by simp) (line_ok h).2.2
theorem bl_data : ∀ d : Fin 6, ((⟨#[32, 32, 32, 32, 32]⟩ : ByteArray).extract 0 d.val).data.toList = List.replicate d.val 32 ∧ ((⟨#[32, 32, 32, 32, 32]⟩ : ByteArray).extract 0 d.val).size = d.val := by decide
theorem atQ_at {l : List Tok} {k : Nat} (h : k < l.length) : atQ l (k + 1) = l[k].2.2 := by rw [atQ, List.getElem?_eq_getElem h]
set_option maxRecDepth 100000 in
set_option maxHeartbeats 8000000 in
theorem lexerBlanks_walk (w : World) (s : ByteArray) (hsz : s.size ≤ 140737488351232) (many : Nat) (hmany : many < 256) (wh : Nat) (hwh : wh < 256) (hW : LxW w) (hM : ML w) :
    Calls Tryd.prog 6 #[.string s, .int .u8 (many : Int), .int .u8 (wh : Int)] w fun e w' => e = .returned (.bool true) ∧ Below w.heap.size w w' := by
  have HF0 := Lib.hid (Fr.start w)
  have HW := Lib.hid hW
  have HM := Lib.hid hM
  have hsl : s.data.toList.length = s.size := by simp
  clear hW hM
  by_cases h300 : 300 < s.size
  · have i1 : (300 : Int) < (s.size : Int) := by omega
    clear hsl
    go_enter Tryd.func6, Tryd.ntmps6
    go_wp2_with fail
    (with_reducible refine (shown_ _ HW.out HM.out).mono ?_); rintro e w6 ⟨rfl, hb⟩
    go_wp2
    go_ret
    exact ⟨rfl, hb⟩
  have i1 : ¬ ((300 : Int) < (s.size : Int)) := by omega
  have hs1 : s.size ≤ 100000 := by omega
  obtain ⟨l, q, er, hp⟩ : ∃ l q er, lineK s.data.toList = (l, q, er) := ⟨_, _, _, rfl⟩
  have HL : Hid (∃ q' : Nat, lineK s.data.toList = (l, q', er) ∧ (q : Int) = (q' : Int)) := Lib.hid ⟨q, hp, rfl⟩
  by_cases her : er = 0
  case neg =>
    have e1 : (er != 0) = true := by rw [bne_iff_ne]; exact her
    clear hp hsl her
    go_enter Tryd.func6, Tryd.ntmps6
    go_wp2_with fail
    (with_reducible refine (ln_full s hs1 s.data.toList rfl l l.length rfl q er HL _ HW.out.esc HM.out).mono ?_); rintro e w2 ⟨A2, c2, rfl, hb, hr, hc⟩
    have HF2 := Lib.hid (HF0.out.go hb)
    clear hb hr
    go_wp2_with fail
    (with_reducible refine (shown_ _ (HW.out.below HF2.out.bel) (HM.out.below HF2.out.bel)).mono ?_); rintro e w6 ⟨rfl, hb⟩
    have HB := Lib.hid (bt HF2.out.bel hb)
    clear hb HF2
    go_wp2
    go_ret
    exact ⟨rfl, HB.out⟩
  subst her
  obtain ⟨rfl, _⟩ := line_ok hp
  have hl80 := line_most hp
  have HP := Lib.hid hp
  have HL0 : Hid (∃ q' : Nat, lineK s.data.toList = (l, q', 0) ∧ (0 : Int) = (q' : Int)) := Lib.hid ⟨0, hp, rfl⟩
  obtain ⟨k, hk⟩ : ∃ k, k = wh % (l.length + 1) := ⟨_, rfl⟩
  have hkl : k ≤ l.length := by have := Nat.mod_lt wh (show l.length + 1 > 0 by omega); omega
  obtain ⟨d, hd⟩ : ∃ d, d = many % 5 := ⟨_, rfl⟩
  have hd5 : d < 5 := by omega
  obtain ⟨hP, m, hm1, hm2, hm3, hm4⟩ := blanks_law hp (by omega) d (by omega) k hkl
  obtain ⟨P, hPe⟩ : ∃ P, P = atQ l k := ⟨_, rfl⟩
  obtain ⟨bd, bz⟩ := bl_data ⟨d, by omega⟩
  simp only at bd bz
  obtain ⟨Bk, hBk⟩ : ∃ Bk, (⟨#[32, 32, 32, 32, 32]⟩ : ByteArray).extract 0 (many % 5) = Bk := ⟨_, rfl⟩
  rw [hd, hBk, ← hd] at bd bz
  rw [← hPe] at hm1 hP
  have hx : (s.extract 0 P ++ Bk ++ s.extract P s.size ++ Bk).data.toList = s.data.toList.take P ++ List.replicate d 32 ++ s.data.toList.drop P ++ List.replicate d 32 := by
    simp only [ByteArray.data_append, Array.toList_append, bd, ext_drop]
    rw [ext_cut, List.drop_zero, Nat.sub_zero]
  have HBk := Lib.hid hBk
  have HkI := Lib.hid (show (wh : Int) % ((l.length : Int) + 1) = (k : Int) by rw [hk]; push_cast; rfl)
  have HX := Lib.hid hx
  have HM1 : Hid (∃ q : Nat, lineK (s.data.toList.take P ++ List.replicate d 32 ++ s.data.toList.drop P ++ List.replicate d 32) = (m, q, 0) ∧ (0 : Int) = (q : Int)) := Lib.hid ⟨0, hm1, rfl⟩
  have HM3 := Lib.hid hm3
  have HM4 := Lib.hid hm4
  have HPe := Lib.hid hPe
  have z1 : (s.extract 0 P).size = P := by rw [ByteArray.size_extract]; omega
  have z2 : (s.extract P s.size).size = s.size - P := by rw [ByteArray.size_extract]; omega
  have hxs : (s.extract 0 P ++ Bk ++ s.extract P s.size ++ Bk).size ≤ 100000 := by
    simp only [ByteArray.size_append, z1, z2, bz]; omega
  have hPs : P ≤ s.size := by omega
  clear hm1 hm3 hm4 hPe hx hBk hk hd bd hp HL hsl
  go_enter Tryd.func6, Tryd.ntmps6
  go_wp2_with fail
  (with_reducible refine (ln_full s hs1 s.data.toList rfl l l.length rfl 0 0 HL0 _ HW.out.esc HM.out).mono ?_); rintro e w1 ⟨A, c, rfl, hb, hr, hc, hcm⟩
  have HF1 := Lib.hid (HF0.out.go hb)
  have HR := Lib.hid (show Reads w1 w1.heap.size 9 A (l.map t9).length (tks (l.map t9)) by rw [List.length_map]; exact hr)
  have HR0 := Lib.hid hr
  clear hb hr hc hcm HF0 HL0
  go_upto_region 9 with fail
  rw [HBk.out, HkI.out]
  clear HBk HkI
  go_upto_if 41 with (fail)
  go_cut [11] (fun x wx => x = .int .i64 (P : Int) ∧ wx = w1)
  case first =>
    rcases k with _ | j
    · have hp0 : P = 0 := by rw [HPe.out]; rfl
      subst hp0
      go_wp2
      go_meet
      exact ⟨rfl, rfl⟩
    · have hjl : j < l.length := by omega
      have hj9 : j < (l.map t9).length := by rw [List.length_map]; exact hjl
      obtain ⟨bk, off, rfl, hbk, _, _, c2, _⟩ := HR.out.at9 hj9
      have hpj : P = l[j].2.2 := by rw [HPe.out, atQ_at hjl]
      rw [List.getElem_map] at c2
      simp only [t9] at c2
      rw [← hpj] at c2
      have e0 : (0 : Int) < ((j + 1 : Nat) : Int) := by omega
      have e1 : (((j + 1 : Nat) : Int) - 1) = (j : Int) := by omega
      have e2 : (j : Int) < (l.length : Int) := by omega
      have e3 : (0 : Int) ≤ (j : Int) := by omega
      go_wp2
      go_meet
      exact ⟨by rw [hpj], rfl⟩
  case rest =>
  obtain ⟨rfl, rfl⟩ := hcut
  have j1 : ¬ ((P : Int) < 0) := by omega
  have j2 : ¬ ((s.size : Int) < (P : Int)) := by omega
  have j3 : (0 : Int) ≤ (P : Int) := by omega
  have j4 : (P : Int) ≤ (s.size : Int) := by omega
  obtain ⟨X1, hX1⟩ : ∃ X, s.extract 0 P = X := ⟨_, rfl⟩
  obtain ⟨X2, hX2⟩ : ∃ X, s.extract P s.size = X := ⟨_, rfl⟩
  rw [hX1, hX2] at HX hxs
  rw [hX1] at z1
  rw [hX2] at z2
  have HS : Hid (∀ W, Below wc.heap.size wc W → Calls Tryd.prog 14 #[.string (X1 ++ Bk ++ X2 ++ Bk)] W fun e w' => ∃ A c, e = .returned (.tuple #[.slice A l.length c, .int .i64 0, .int .i64 0]) ∧ Below W.heap.size W w' ∧ Reads w' w'.heap.size 9 A l.length (tks (m.map t9)) ∧ l.length ≤ c ∧ c ≤ 9223372036854775807) := Lib.hid fun W hb =>
    ln_full _ hxs _ HX.out m l.length hm2 0 0 HM1 W (HW.out.below (HF1.out.go hb).bel).esc (HM.out.below (HF1.out.go hb).bel)
  have y1 : ¬ (9223372036854775807 < X1.size + Bk.size) := by omega
  have y2 : ¬ (9223372036854775807 < X1.size + Bk.size + X2.size) := by omega
  have y3 : ¬ (9223372036854775807 < X1.size + Bk.size + X2.size + Bk.size) := by omega
  have hT : Below wc.heap.size wc wc := Below.refl _ _
  have Hbz := Lib.hid bz
  clear z1 z2 bz hxs HX HM1
  go_upto_region 13 with fail
  go_region_held3 (fun w' => Below wc.heap.size wc w')
    (with_reducible (first | exact Below.drew hT | exact bt (by assumption) hb5 | assumption))
    ((go_at_call 14; (with_reducible refine (HS.out _ (by assumption)).mono ?_); rintro e w5 ⟨A5, c5, rfl, hb5, hr5, hc5, hcm5⟩))
  have hB5 : Below wc.heap.size wc w5 := by assumption
  have HB5 := Lib.hid hB5
  have HR5 := Lib.hid hr5
  have HR6 := Lib.hid (show Reads w5 w5.heap.size 9 A5 (m.map t9).length (tks (m.map t9)) by rw [List.length_map, hm2]; exact hr5)
  have HSm := Lib.hid (sm_at false (m.map t9) (l.map t9) l.length l.length (by rw [List.length_map, hm2]) (List.length_map _) w5 A5 A c5 c hr5 (HR0.out.go hB5) (by omega) (by omega) true HM3)
  clear hT HS y1 y2 y3 hB5 hb5 hr5 hc5 hcm5 j1 j2 j3 j4 hX1 hX2
  go_wp2_with fail
  (with_reducible refine HSm.out.mono ?_); rintro e w6 ⟨rfl, hb⟩
  have HF6 := Lib.hid ((HF1.out.go HB5.out).go hb)
  have HL6 := Lib.hid (HR.out.go (bt HB5.out hb))
  have HM6 := Lib.hid (HR6.out.go hb)
  clear hb HSm
  go_wp2
  go_loopw [16] (fun i wr => ∃ j : Nat, j ≤ l.length ∧ i = .int .i64 (j : Int) ∧ Hid (Below w6.heap.size w6 wr)) (fun i _ => l.length - (intOf i).toNat)
  case atStart => exact ⟨0, Nat.zero_le _, rfl, Lib.hid (Below.refl _ _)⟩
  case round =>
    obtain ⟨j, hj, rfl, HB⟩ := hrel
    by_cases hlt : j < l.length
    case neg =>
      have i2 : ¬ ((j : Int) < (l.length : Int)) := by omega
      have HF7 := Lib.hid (HF6.out.go HB.out)
      go_wp2_with fail
      (with_reducible refine (shown_ _ (HW.out.below HF7.out.bel) (HM.out.below HF7.out.bel)).mono ?_); rintro e w7 ⟨rfl, hb⟩
      have HBz := Lib.hid (bt HF7.out.bel hb)
      clear hb HF7
      go_wp2
      go_ret
      exact ⟨rfl, HBz.out⟩
    have i2 : (j : Int) < (l.length : Int) := by omega
    have i0 : (0 : Int) ≤ (j : Int) := by omega
    have hl9 : j < (l.map t9).length := by rw [List.length_map]; exact hlt
    have hjm : j < m.length := by omega
    have hm9 : j < (m.map t9).length := by rw [List.length_map]; exact hjm
    obtain ⟨q1, q2, q3, _⟩ := places_at HP.out j hlt
    obtain ⟨r1, r2⟩ := HM4.out j hjm hlt
    obtain ⟨bk, off, rfl, hbk, _, c1, c2, _⟩ := (HL6.out.below HB.out).at9 hl9
    obtain ⟨bm, om, rfl, hbm, _, d1, d2, _⟩ := (HM6.out.below HB.out).at9 hm9
    rw [List.getElem_map] at c1 c2 d1 d2
    simp only [t9] at c1 c2 d1 d2
    obtain ⟨a1, ha1⟩ : ∃ a, a = l[j].2.1 := ⟨_, rfl⟩
    obtain ⟨a2, ha2⟩ : ∃ a, a = l[j].2.2 := ⟨_, rfl⟩
    obtain ⟨b1, hb1⟩ : ∃ a, a = m[j].2.1 := ⟨_, rfl⟩
    obtain ⟨b2, hb2⟩ : ∃ a, a = m[j].2.2 := ⟨_, rfl⟩
    rw [← ha1, ← ha2] at q2
    rw [← ha2] at q3
    rw [← ha1] at c1
    rw [← ha2] at c2
    rw [← hb1] at d1
    rw [← hb2] at d2
    rw [← hb1, ← ha1] at r1
    rw [← hb2, ← ha2] at r2
    obtain ⟨B, hB⟩ : ∃ B, B = if k ≤ j then d else 0 := ⟨_, rfl⟩
    rw [← hB] at r1 r2
    have hBd : B ≤ 5 := by rw [hB]; split <;> omega
    have Hr1 := Lib.hid (show ((b1 : Int) != (a1 : Int) + (B : Int)) = false by rw [bne_eq_false_iff_eq]; omega)
    have Hr2 := Lib.hid (show ((b2 : Int) != (a2 : Int) + (B : Int)) = false by rw [bne_eq_false_iff_eq]; omega)
    have Hw1 := Lib.hid (show IntKind.i64.wrap ((a1 : Int) + (B : Int)) = (a1 : Int) + (B : Int) from IntWalk.i64_in _ (by omega))
    have Hw2 := Lib.hid (show IntKind.i64.wrap ((a2 : Int) + (B : Int)) = (a2 : Int) + (B : Int) from IntWalk.i64_in _ (by omega))
    have HBe := Lib.hid hB
    clear q1 q2 q3 r1 r2 ha1 ha2 hb1 hb2 hB
    go_upto_if 88 with (fail)
    go_cut [17] (fun x wx => x = .int .i64 (B : Int) ∧ wx = wr)
    case first =>
      by_cases hkj : k ≤ j
      · have i3 : (k : Int) ≤ (j : Int) := by omega
        have hz := Hbz.out
        have hBd2 : B = d := by rw [HBe.out, if_pos hkj]
        go_wp2
        go_meet
        exact ⟨by rw [hBd2], rfl⟩
      · have i3 : ¬ ((k : Int) ≤ (j : Int)) := by omega
        have hBd2 : B = 0 := by rw [HBe.out, if_neg hkj]
        go_wp2
        go_meet
        exact ⟨by rw [hBd2]; rfl, rfl⟩
    case rest =>
    obtain ⟨rfl, rfl⟩ := hcut
    have e1 := Hr1.out
    have e2 := Hr2.out
    have e3 := Hw1.out
    have e4 := Hw2.out
    clear Hr1 Hr2 Hw1 Hw2 HBe
    go_upto_region 22 with fail
    go_quiet (fail)
    go_wp2
    go_roundw
    case rel => exact ⟨j + 1, by omega, by go_num, Lib.hid (Go.RowKit.Below.trans HB.out (drewN_below _ _))⟩
    case measure => (simp [intOf]) <;> omega
end Go.Proofs.YtfleamgncodkpaaDoor
