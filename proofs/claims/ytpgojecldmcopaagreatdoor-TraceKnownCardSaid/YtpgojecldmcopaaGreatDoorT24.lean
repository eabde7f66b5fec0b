/- Traces' texts: Parse of the reference. No condition. -/
import Derived.Test.YtpgojecldmcopaaGreatDoorT23
import Derived.Test.YtpgojecldmcopaaGreatDoorN13
namespace Go.Proofs.YtpgojecldmcopaaGreatDoor
open Go.RowKit
theorem rTInt (x : ByteArray) (n e0 : Int) (w : World) (hs : x.size ≤ 1000000) (h : Hid (intR x.data.toList 0 1000000000 = (n, e0))) :
    Calls Tryz.prog 36 #[.string x, .int .i64 0, .int .i64 1000000000] w fun e w' => e = .returned (.tuple #[.int .i64 n, .int .i64 e0]) ∧ Below w.heap.size w w' := by
  have := rint_ x 0 1000000000 w (by omega)
  rw [h.out] at this
  exact this
theorem sEq {x : ByteArray} {l : List UInt8} (h : x.data.toList = l) : (x.toList == l) = true := by rw [ByteArray.toList_eq, h]; simp
theorem sNe {x : ByteArray} {l : List UInt8} (h : x.data.toList ≠ l) : (x.toList == l) = false := by rw [ByteArray.toList_eq]; simpa using h
theorem lastB {s : ByteArray} (h : s.size ≠ 0) : (s.data.toList.getLast? = some 10) ↔ s[s.size - 1]'(by omega) = 10 := by
  have hl : s.data.toList.length = s.size := by simp
  rw [List.getLast?_eq_getElem?, hl, List.getElem?_eq_getElem (by omega)]
  constructor
  · intro h; exact Option.some.inj h
  · intro h; exact congrArg some h
theorem kind_load {a : List UInt8} (h : a = wLoad) : kindL a = 1 := by subst h; decide
theorem kind_store {a : List UInt8} (h : a = wStore) : kindL a = 2 := by subst h; decide
theorem kind_no {a : List UInt8} (h : a ≠ wLoad) (h2 : a ≠ wStore) : kindL a = 0 := by unfold kindL; rw [if_neg h, if_neg h2]
theorem last_get {acc : List Ev} (h : 0 < acc.length) : acc.getLast? = some (acc[acc.length - 1]'(by omega)) := by
  rw [List.getLast?_eq_getElem?, List.getElem?_eq_getElem (by omega)]
/-- the error of a line, its parts known -/
theorem TrRel.bad {L : List ByteArray} {k : Nat} {acc : List Ev} {x : ByteArray} {er : Int} (h : TrRel L k acc) (hd : L.drop k = x :: L.drop (k + 1)) (hx : rnL x.data.toList = (Rn0, er)) (he : er ≠ 0) : trF L [] 0 = ([], k + 1, er) := h.err hd hx he
set_option maxRecDepth 100000 in
set_option maxHeartbeats 4000000 in
theorem rtail06 (s : ByteArray) (w : World) (hs : s.size ≤ 1000000) (L : List ByteArray) (hL : Hid (∃ U, ptsB 10 s = L ++ [U])) (Hq : Hid ((5000 < L.length → psT s = ([], 0, 3)) ∧ (L.length ≤ 5000 → psT s = trF L [] 0))) (Hlz : Hid (∀ x ∈ L, x.size ≤ 1000000))
    (hcase : s.size = 0 ∨ (∃ h : s.size ≠ 0, s[s.size - 1]'(by omega) = 10)) :
    Calls Tryz.prog 11 #[.string s] w (RetTr w (psT s)) := by
  have i1 : ¬ ((1048576 : Int) < (s.size : Int)) := by omega
  have Hc := Lib.hid hcase
  clear hcase
  go_enter Tryz.func11, Tryz.ntmps11
  go_upto_region 3 with fail
  go_cut [27] (fun s27 wx => s27 = .bool false ∧ wx = w)
  case first =>
    rcases Hc.out with hz | ⟨hz, hc⟩
    · have hz2 : s.toList.isEmpty = true := List.isEmpty_iff.2 (by rw [ByteArray.toList_eq]; exact List.eq_nil_of_length_eq_zero hz)
      clear hz Hc
      go_wp2
      go_meet
      exact ⟨rfl, rfl⟩
    · have hz2 : s.toList.isEmpty = false := by rw [List.isEmpty_eq_false_iff, ByteArray.toList_eq]; intro e; exact hz (by rw [show s.size = s.data.toList.length from rfl, e]; rfl)
      have m1 : (((s[s.size - 1]'(by omega)).toNat : Int) != 10) = false := by rw [hc]; rfl
      have hi1 : ((s.size : Int) - 1) < (s.size : Int) := by omega
      have hi0 : (0 : Int) ≤ ((s.size : Int) - 1) := by omega
      have hi2 : ((s.size : Int) - 1).toNat = s.size - 1 := by omega
      clear hc Hc
      go_wp2
      go_meet
      exact ⟨rfl, rfl⟩
  case rest =>
  obtain ⟨rfl, rfl⟩ := hcut
  clear Hc
  go_wp2_with fail
  (with_reducible refine (rsplit06 s _ hs hL).mono ?_); rintro e w1 ⟨⟨A0, c0, rfl, hr0, hc0⟩, hb0⟩
  clear hL hc0
  by_cases h5 : 5000 < L.length
  · have Hq2 := Lib.hid (Hq.out.1 h5)
    have i2 : (5000 : Int) < (L.length : Int) := by omega
    clear Hq h5
    go_wp2
    exact bodyPost_ret (v := .tuple #[.slice none 0 0, .int .i64 0, .int .i64 3]) (by simp [results, go_sem]) rfl (RetTr.no (k := 0) rfl Hq2.out hb0)
  have Hq1 := Lib.hid (Hq.out.2 (Nat.le_of_not_lt h5))
  have i2 : ¬ ((5000 : Int) < (L.length : Int)) := by omega
  have HR0 := Lib.hid hr0
  have HB0 := Lib.hid hb0
  clear Hq hr0 hb0
  go_wp2
  go_loopw [6, 7] (fun v i wr => ∃ (k : Nat) (acc : List Ev), k ≤ L.length ∧ i = .int .i64 k ∧ Below w1.heap.size w1 wr ∧ wr.ownsRow w1.heap.size 39 2 v acc.length (evs acc) ∧ acc.length ≤ 8388608 ∧ Hid (TrRel L k acc)) (fun _ i _ => L.length - (intOf i).toNat)
  case atStart => exact ⟨0, [], Nat.zero_le _, rfl, Below.refl _ _, World.ownsRow_nil _ _ _ _, Nat.zero_le _, Lib.hid (TrRel.start L)⟩
  case round =>
    obtain ⟨k, acc, hk, rfl, hbl, hown, hac, hr⟩ := hrel
    have HB := Lib.hid (HB0.out.trans (hbl.mono HB0.out.size))
    by_cases hlt : k < L.length
    case neg =>
      have j1 : ¬ ((k : Int) < (L.length : Int)) := by omega
      have Hq2 := Lib.hid (Hq1.out.trans (hr.out.done (by omega)))
      have hB := HB.out
      clear hr hbl HR0 HB0 Hq1 HB
      go_wp2
      exact bodyPost_ret (v := .tuple #[_, .int .i64 0, .int .i64 0]) (by simp [results, go_sem]) rfl (RetTr.yes Hq2.out hB hown)
    case pos =>
    have j1 : (k : Int) < (L.length : Int) := by omega
    have j0 : (0 : Int) ≤ (k : Int) := by omega
    have hd : L.drop k = L[k] :: L.drop (k + 1) := List.drop_eq_getElem_cons hlt
    have hxz := Hlz.out L[k] (List.getElem_mem hlt)
    obtain ⟨b0, off, rfl, hb0, hc0⟩ := sbAt HR0.out rfl hlt
    have hcx := (hbl.cell (p := ⟨b0, off + k, none⟩) hb0).trans hc0
    clear hc0
    generalize L[k] = x at *
    have hb9 := line_ok x
    obtain ⟨P, hP⟩ : ∃ P, ptsB 32 x = P := ⟨_, rfl⟩
    have hq := rnL_of_pts hP
    have HP := Lib.hid hP
    have hPz : ∀ y ∈ P, y.size ≤ 1000000 := by rw [← hP]; intro y hy; have := ptsB_sz hy; omega
    have w1k : IntKind.i64.wrap ((k : Int) + 1) = (k : Int) + 1 := IntWalk.i64_in _ (by omega)
    have Hd := Lib.hid hd
    have Hown := Lib.hid hown
    have HPz := Lib.hid hPz
    have HR1 := Lib.hid HR0.out
    clear hd hP hown hPz HR0
    go_wp2_with fail
    (with_reducible refine (rparts06 x _ hxz HP).mono ?_); rintro e w2 ⟨⟨A1, c1, rfl, hr1, hc1⟩, hb2⟩
    have HB2 := Lib.hid (bt HB.out hb2)
    have HO2 := Lib.hid (own_below Hown.out hb2)
    have HB12 := Lib.hid (hbl.trans (hb2.mono hbl.size))
    clear hcx hxz Hown hbl hb2 HP hc1 HB
    by_cases h3 : P.length = 3
    case neg =>
      have Hq2 := Lib.hid (Hq1.out.trans (hr.out.bad Hd.out (hq.trans (rnP_len (by rw [List.length_map]; exact h3))) (by decide)))
      have e3 : ((P.length : Int) != 3) = true := by rw [bne_iff_ne]; omega
      have hB := HB2.out
      clear hr hq h3 hr1 Hq1 HB2 HO2
      go_wp2
      exact bodyPost_ret (v := .tuple #[.slice none 0 0, .int .i64 ((k : Int) + 1), .int .i64 6]) (by simp [results, go_sem]) rfl (RetTr.no (k := k + 1) (by simp) Hq2.out hB)
    case pos =>
    obtain ⟨a, b, c, rfl⟩ := three_of h3
    have hzb := HPz.out b (by simp)
    have hzc := HPz.out c (by simp)
    rw [List.map_cons, List.map_cons, List.map_cons, List.map_nil, rnP_three] at hq
    obtain ⟨bk, of2, rfl, hbk, d0, d1, d2⟩ := three_cells hr1
    clear h3 hr1
    by_cases hkk : kindL a.data.toList = 0
    case pos =>
      have ha1 : a.data.toList ≠ wLoad := fun h => by rw [kind_load h] at hkk; cases hkk
      have ha2 : a.data.toList ≠ wStore := fun h => by rw [kind_store h] at hkk; cases hkk
      have Hq2 := Lib.hid (Hq1.out.trans (hr.out.bad Hd.out (hq.trans (if_pos hkk)) (by decide)))
      have s1 := sNe (l := [108, 111, 97, 100]) ha1
      have s2 := sNe (l := [115, 116, 111, 114, 101]) ha2
      have hB := HB2.out
      clear hr hq hkk Hq1 HB2 HO2 ha1 ha2
      go_wp2
      exact bodyPost_ret (v := .tuple #[.slice none 0 0, .int .i64 ((k : Int) + 1), .int .i64 6]) (by simp [results, go_sem]) rfl (RetTr.no (k := k + 1) (by simp) Hq2.out hB)
    case neg =>
    obtain ⟨_, hK⟩ := kindL_some hkk
    have hq3 := hq.trans (if_neg hkk)
    have hdisj : (a.data.toList = wLoad ∧ kindL a.data.toList = 1) ∨ (a.data.toList = wStore ∧ kindL a.data.toList = 2) := by
      by_cases h1 : a.data.toList = wLoad
      · exact .inl ⟨h1, kind_load h1⟩
      · by_cases h2 : a.data.toList = wStore
        · exact .inr ⟨h2, kind_store h2⟩
        · exact absurd (kind_no h1 h2) hkk
    generalize kindL a.data.toList = K at *
    have Hdisj := Lib.hid hdisj
    rcases hnb : intR b.data.toList 0 1000000000 with ⟨n, e0⟩
    rcases hnc : intR c.data.toList 0 1000000000 with ⟨m, e1⟩
    have Hnb := Lib.hid hnb
    have Hnc := Lib.hid hnc
    have Hq3 := Lib.hid hq3
    clear hnb hnc hq hq3 hkk hdisj
    go_upto_region 13 with fail
    go_cut [58] (fun s wx => s = .bool false ∧ wx = w2)
    case first =>
      rcases Hdisj.out with ⟨h1, _⟩ | ⟨h1, _⟩
      · have s1 := sEq (l := [108, 111, 97, 100]) h1
        clear h1 Hdisj
        go_wp2
        go_meet
        exact ⟨rfl, rfl⟩
      · have s1 := sNe (l := [108, 111, 97, 100]) (show a.data.toList ≠ _ by rw [h1]; decide)
        have s2 := sEq (l := [115, 116, 111, 114, 101]) h1
        clear h1 Hdisj
        go_wp2
        go_meet
        exact ⟨rfl, rfl⟩
    case rest =>
    obtain ⟨rfl, rfl⟩ := hcut
    go_wp2_with fail
    (with_reducible refine (rTInt b n e0 _ hzb Hnb).mono ?_); rintro e w3 ⟨rfl, hb3⟩
    have d0' := (hb3.cell (p := ⟨bk, of2, none⟩) hbk).trans d0
    have d2' := (hb3.cell (p := ⟨bk, of2 + 2, none⟩) hbk).trans d2
    have hbk3 : bk < w3.heap.size := Nat.lt_of_lt_of_le hbk hb3.size
    have HB3 := Lib.hid (bt HB2.out hb3)
    have HO3 := Lib.hid (own_below HO2.out hb3)
    have HB13 := Lib.hid (bt HB12.out hb3)
    clear hb3 d0 d1 d2 HB2 HO2 HB12 hbk
    go_wp2_with fail
    (with_reducible refine (rTInt c m e1 _ hzc Hnc).mono ?_); rintro e w4 ⟨rfl, hb4⟩
    have q0 := (hb4.cell (p := ⟨bk, of2, none⟩) hbk3).trans d0'
    have HB4 := Lib.hid (bt HB3.out hb4)
    have HO4 := Lib.hid (own_below HO3.out hb4)
    have HB14 := Lib.hid (bt HB13.out hb4)
    clear hb4 d0' d2' HB3 HO3 HB13 hbk3
    by_cases he0 : e0 = 0
    case neg =>
      have Hq2 := Lib.hid (Hq1.out.trans (hr.out.bad Hd.out (Hq3.out.trans (runP_form Hnb.out Hnc.out (.inl he0))) (by decide)))
      have x0 : (e0 != 0) = true := by simpa using he0
      have hB := HB4.out
      clear hr Hq3 he0 Hq1 HB4 HO4
      go_wp2
      exact bodyPost_ret (v := .tuple #[.slice none 0 0, .int .i64 ((k : Int) + 1), .int .i64 6]) (by simp [results, go_sem]) rfl (RetTr.no (k := k + 1) (by simp) Hq2.out hB)
    case pos =>
    subst he0
    by_cases he1 : e1 = 0
    case neg =>
      have Hq2 := Lib.hid (Hq1.out.trans (hr.out.bad Hd.out (Hq3.out.trans (runP_form Hnb.out Hnc.out (.inr he1))) (by decide)))
      have x0 : (e1 != 0) = true := by simpa using he1
      have hB := HB4.out
      clear hr Hq3 he1 Hq1 HB4 HO4
      go_wp2
      exact bodyPost_ret (v := .tuple #[.slice none 0 0, .int .i64 ((k : Int) + 1), .int .i64 6]) (by simp [results, go_sem]) rfl (RetTr.no (k := k + 1) (by simp) Hq2.out hB)
    case pos =>
    subst he1
    obtain ⟨_, _, n0, n1⟩ := intR_zero Hnb.out
    obtain ⟨_, _, m0, m1⟩ := intR_zero Hnc.out
    have wnm : IntKind.i64.wrap (n + m) = n + m := IntWalk.i64_in _ (by omega)
    by_cases hm1 : m < 1
    case pos =>
      have Hq2 := Lib.hid (Hq1.out.trans (hr.out.bad Hd.out (Hq3.out.trans (runP_range Hnb.out Hnc.out (.inl hm1))) (by decide)))
      have hB := HB4.out
      clear hr Hq3 Hq1 HB4 HO4
      go_wp2
      exact bodyPost_ret (v := .tuple #[.slice none 0 0, .int .i64 ((k : Int) + 1), .int .i64 7]) (by simp [results, go_sem]) rfl (RetTr.no (k := k + 1) (by simp) Hq2.out hB)
    case neg =>
    by_cases hm2 : 65536 < n + m
    case pos =>
      have Hq2 := Lib.hid (Hq1.out.trans (hr.out.bad Hd.out (Hq3.out.trans (runP_range Hnb.out Hnc.out (.inr hm2))) (by decide)))
      have hB := HB4.out
      clear hr Hq3 Hq1 HB4 HO4
      go_wp2
      exact bodyPost_ret (v := .tuple #[.slice none 0 0, .int .i64 ((k : Int) + 1), .int .i64 7]) (by simp [results, go_sem]) rfl (RetTr.no (k := k + 1) (by simp) Hq2.out hB)
    case neg =>
    have hrn := Hq3.out.trans (runP_ok Hnb.out Hnc.out (by omega))
    have hrn2 := Lib.hid hrn
    clear Hq3 hrn Hnb Hnc
    have wb : IntKind.i64.wrap (8388608 - (acc.length : Int)) = 8388608 - (acc.length : Int) := IntWalk.i64_in _ (by omega)
    by_cases hbig : 8388608 < acc.length + m.toNat
    case pos =>
      have Hq2 := Lib.hid (Hq1.out.trans (hr.out.big Hd.out hrn2.out hbig))
      have e1 : (8388608 - (acc.length : Int)) < m := by omega
      have hB := HB4.out
      obtain ⟨A9, c9, rfl, _⟩ := own_sl HO4.out
      clear hr Hq1 HB4 HO4
      go_wp2
      exact bodyPost_ret (v := .tuple #[.slice none 0 0, .int .i64 ((k : Int) + 1), .int .i64 3]) (by simp [results, go_sem]) rfl (RetTr.no (k := k + 1) (by simp) Hq2.out hB)
    case neg =>
    have e1 : ¬ ((8388608 - (acc.length : Int)) < m) := by omega
    obtain ⟨A9, c9, rfl, hra, hca, _⟩ := own_sl HO4.out
    have Hra := Lib.hid hra
    clear hra
    go_upto_if 103 with (fail)
    go_cut [13] (fun s wx => s = .int .i32 K ∧ wx = w4)
    case first =>
      rcases Hdisj.out with ⟨h1, rfl⟩ | ⟨h1, rfl⟩
      · have s1 := sNe (l := [115, 116, 111, 114, 101]) (show a.data.toList ≠ _ by rw [h1]; decide)
        have s3 : ¬ (a.toList = [115, 116, 111, 114, 101]) := by rw [ByteArray.toList_eq, h1]; decide
        clear h1 Hdisj
        go_wp2
        all_goals first
          | (go_meet; exact ⟨rfl, rfl⟩)
          | (rename_i h; exact absurd (by simpa using h) s3)
          | (rename_i h; exact absurd s3 (by simpa using h))
      · have s1 := sEq (l := [115, 116, 111, 114, 101]) h1
        have s3 : a.toList = [115, 116, 111, 114, 101] := by rw [ByteArray.toList_eq, h1]; rfl
        clear h1 Hdisj
        go_wp2
        all_goals first
          | (go_meet; exact ⟨rfl, rfl⟩)
          | (rename_i h; exact absurd (by simpa using h) s3)
          | (rename_i h; exact absurd s3 (by simpa using h))
    case rest =>
    obtain ⟨rfl, rfl⟩ := hcut
    have wn1 : IntKind.i64.wrap (n - 1) = n - 1 := IntWalk.i64_in _ (by omega)
    have wn2 : IntKind.i32.wrap (n - 1) = n - 1 := by simp [IntKind.wrap, IntKind.bits, IntKind.signed]; omega
    go_upto_region 26 with fail
    go_cut [120] (fun s wx => s = .bool (decide (acc.getLast? = some (K, n - 1))) ∧ wx = wc)
    case first =>
      by_cases ha : 0 < acc.length
      case neg =>
        have hl0 : acc.getLast? = none := by
          rw [List.getLast?_eq_none_iff]; exact List.eq_nil_of_length_eq_zero (by omega)
        have g1 : ¬ ((0 : Int) < (acc.length : Int)) := by omega
        go_wp2
        go_meet
        exact ⟨by rw [hl0]; rfl, rfl⟩
      case pos =>
        have g1 : (0 : Int) < (acc.length : Int) := by omega
        have hi0 : (0 : Int) ≤ ((acc.length : Int) - 1) := by omega
        have hi1 : ((acc.length : Int) - 1) < (acc.length : Int) := by omega
        have hi2 : ((acc.length : Int) - 1).toNat = acc.length - 1 := by omega
        obtain ⟨b5, o5, K0, a0, rfl, _, v0, v1, hv⟩ := evAt Hra.out (k := acc.length - 1) (by omega)
        have hl1 := last_get ha
        have hv2 : acc[acc.length - 1]'(by omega) = (K0, a0) := by
          have := hv.out
          rw [List.drop_eq_getElem_cons (by omega)] at this
          injection this
        rw [hv2] at hl1
        go_wp2
        go_meet
        refine ⟨?_, rfl⟩
        rw [hl1]
        congr 1
        rw [Bool.eq_iff_iff]
        simp
    case rest =>
    obtain ⟨rfl, rfl⟩ := hcut
    by_cases hdup : acc.getLast? = some (K, n - 1)
    case pos =>
      have Hq2 := Lib.hid (Hq1.out.trans (hr.out.dup Hd.out hrn2.out hbig hdup))
      rw [decide_eq_true hdup]
      have hB := HB4.out
      clear hr Hq1 HB4 HO4 hdup
      go_wp2
      exact bodyPost_ret (v := .tuple #[.slice none 0 0, .int .i64 ((k : Int) + 1), .int .i64 6]) (by simp [results, go_sem]) rfl (RetTr.no (k := k + 1) (by simp) Hq2.out hB)
    case neg =>
    have Hr2 := Lib.hid (hr.out.step Hd.out hrn2.out hbig hdup)
    rw [decide_eq_false hdup]
    clear hr hdup Hra
    obtain ⟨mm, rfl⟩ : ∃ mm : Nat, m = (mm : Int) := ⟨m.toNat, by omega⟩
    rw [Int.toNat_natCast] at Hr2 hbig
    have hbg := Lib.hid (Nat.le_of_not_lt hbig)
    clear hbig hrn2 e1 wb wn1 wn2
    go_wp2
    go_loopw [6, 14] (fun v u wi => ∃ j : Nat, j ≤ mm ∧ u = .int .i64 (j : Int) ∧ Below w1.heap.size w1 wi ∧ wi.ownsRow w1.heap.size 39 2 v (acc.length + j) (evs (acc ++ expd K n j))) (fun _ u _ => mm - (intOf u).toNat)
    case atStart => exact ⟨0, Nat.zero_le _, rfl, HB14.out, by simpa [expd] using HO4.out⟩
    case round =>
      obtain ⟨j, hj, rfl, hbi, hOi⟩ := hrel
      by_cases hjm : j < mm
      case pos =>
        have c1 : (j : Int) < (mm : Int) := by omega
        have wz1 : IntKind.i64.wrap (n + (j : Int)) = n + (j : Int) := IntWalk.i64_in _ (by omega)
        have wz2 : IntKind.i32.wrap (n + (j : Int)) = n + (j : Int) := by simp [IntKind.wrap, IntKind.bits, IntKind.signed]; omega
        have wz3 : IntKind.i64.wrap ((j : Int) + 1) = (j : Int) + 1 := IntWalk.i64_in _ (by omega)
        have HOi := Lib.hid hOi
        have HBi := Lib.hid hbi
        clear hOi hbi HO4
        go_wp2_with (at_builtin; refine wpList_ap evEl (w0 := w1) (by exact HOi.out.alloc _) (by exact ba HBi.out _) [.int .i32 K, .int .i32 (n + (j : Int))] (by exact alloc1_new _ _) ?_ (hbytes := by have := hbg.out; omega) (h63 := by have := hbg.out; omega))
        intro g4 cap4 w5 hO5 hb5 hg5
        go_wp2
        go_roundw
        case rel => exact ⟨j + 1, by omega, by go_num, hb5, by rw [expd_snoc', evs_snoc, show acc.length + (j + 1) = acc.length + j + 1 from rfl]; exact hO5⟩
        case measure => (simp [intOf]) <;> omega
      case neg =>
        have c1 : ¬ ((j : Int) < (mm : Int)) := by omega
        obtain rfl : j = mm := by omega
        clear hjm HO4
        go_wp2
        go_roundw
        case rel => exact ⟨k + 1, acc ++ expd K n j, by omega, by go_num, hbi, by rw [List.length_append, expd_len]; exact hOi, by rw [List.length_append, expd_len]; exact hbg.out, Hr2⟩
        case measure => (simp [intOf]) <;> omega
theorem rparse06 (s : ByteArray) (w : World) (hs : s.size ≤ 1000000) : Calls Tryz.prog 11 #[.string s] w (RetTr w (psT s)) := by
  by_cases hz : s.size = 0
  · refine rtail06 s w hs [] (Lib.hid ⟨mkB [], ?_⟩) (Lib.hid ⟨fun h => absurd h (by simp), fun _ => psT_nil hz⟩) (Lib.hid (by simp)) (.inl hz)
    unfold ptsB
    rw [List.eq_nil_of_length_eq_zero (show s.data.toList.length = 0 from hz)]
    rfl
  by_cases hc : s.data.toList.getLast? = some 10
  · refine rtail06 s w hs (lnS s) (Lib.hid (lnS_pts hc)) (Lib.hid ⟨fun h => psT_many (by omega) hz hc (by rw [← lnS_count hc]; exact h), fun h => psT_go (by omega) hz hc (by rw [← lnS_count hc]; exact h)⟩) (Lib.hid (fun x hx => by have := lnS_sz hx; omega)) (.inr ⟨hz, (lastB hz).1 hc⟩)
  have Hq2 := Lib.hid (psT_suf (by omega) hz hc)
  have i1 : ¬ ((1048576 : Int) < (s.size : Int)) := by omega
  have hz2 : s.toList.isEmpty = false := by rw [List.isEmpty_eq_false_iff, ByteArray.toList_eq]; intro e; exact hz (by rw [show s.size = s.data.toList.length from rfl, e]; rfl)
  have m1 : (((s[s.size - 1]'(by omega)).toNat : Int) != 10) = true := by
    rw [bne_iff_ne]; intro e
    exact hc ((lastB hz).2 (UInt8.toNat_inj.1 (by have : (10 : UInt8).toNat = 10 := rfl; omega)))
  have hi1 : ((s.size : Int) - 1) < (s.size : Int) := by omega
  have hi0 : (0 : Int) ≤ ((s.size : Int) - 1) := by omega
  have hi2 : ((s.size : Int) - 1).toNat = s.size - 1 := by omega
  clear hc
  go_enter Tryz.func11, Tryz.ntmps11
  go_wp2
  exact bodyPost_ret (v := .tuple #[.slice none 0 0, .int .i64 0, .int .i64 6]) (by simp [results, go_sem]) rfl (RetTr.no (k := 0) rfl Hq2.out (Below.refl _ _))
end Go.Proofs.YtpgojecldmcopaaGreatDoor
