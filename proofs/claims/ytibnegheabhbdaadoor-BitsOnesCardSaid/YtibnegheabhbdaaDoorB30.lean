/- Rows of bits: Ones and Set of the program; Of of the reference. -/
import Derived.Test.YtibnegheabhbdaaDoorB29
namespace Go.Proofs.YtibnegheabhbdaaDoor
open Go.RowKit Go.Shelf
theorem natVs_int (l : List Nat) (k : Nat) : natVs (onN l k) = i64s (onesTo l k) := by
  rw [← onN_int, i64s, natVs, List.map_map]
  rfl
theorem collect_ (Bs cap : Nat) (A : Option Addr) (l : List Nat) (hw : W64 l) (hl : l.length ≤ 100) (w : World)
    (hBs : w.heap[Bs]? = some (.cells #[.slice A l.length cap] 22 (0, 0))) (hR : Reads w w.heap.size 1 A l.length (u64s l)) (hT : Tzt w) :
    Calls Tryd.prog 52 #[.func (.func 64) #[] #[.pointer (some ⟨Bs, 0, none⟩)]] w fun e W' =>
      ∃ B c, e = .returned (.slice B (onesTo l (64 * l.length)).length c) ∧ Reads W' W'.heap.size 1 B (onesTo l (64 * l.length)).length (i64s (onesTo l (64 * l.length))) ∧ (onesTo l (64 * l.length)).length ≤ c ∧ c ≤ 9223372036854775807 ∧ Below w.heap.size w W' := by
  have hA := callsIn_wide.1 (appendSeq_in Bs cap A l hw hl w hBs hR hT)
  have hlen : (onN l (64 * l.length)).length = (onesTo l (64 * l.length)).length := by rw [← onN_int, List.length_map]
  rw [natVs_int, hlen] at hA
  have HA := Lib.hid hA
  clear hA hlen hw hBs hR hT
  go_enter Tryd.func52, Tryd.ntmps52
  go_wp2_with fail
  (with_reducible refine (HA.out).mono ?_); rintro e w1 ⟨v, rfl, hO, hb⟩
  obtain ⟨B, c, rfl, hr, hc1, hc2⟩ := own_sl hO
  have HR := Lib.hid (And.intro hr (And.intro hc1 hc2))
  clear hO hr hc1 hc2
  go_wp2
  go_ret
  exact ⟨B, c, rfl, HR.out.1, HR.out.2.1, HR.out.2.2, hb⟩
theorem onesF_ (w : World) (A : Option Addr) (len cap : Nat) :
    Calls Tryd.prog 53 #[.slice A len cap] w fun e w' => e = .returned (.func (.func 64) #[] #[.pointer (some ⟨w.heap.size, 0, none⟩)]) ∧ w.alloc (.cells #[.slice A len cap] 22) = w' := by
  go_enter Tryd.func53, Tryd.ntmps53
  go_wp2
  go_ret
  exact ⟨rfl, rfl⟩
set_option maxRecDepth 100000 in
set_option maxHeartbeats 2000000 in
theorem ones_ (w : World) (A : Option Addr) (c : Nat) (l : List Nat) (h : Reads w w.heap.size 1 A l.length (u64s l)) (hw : W64 l) (hl : l.length ≤ 9223372036854775807) (hT : Tzt w) :
    Calls Tryd.prog 33 #[.slice A l.length c] w (RetSl w 1 (i64s (onesV l)) (onesV l).length (chkB l.length)) := by
  obtain ⟨x, hx⟩ : ∃ x, x = chkB l.length := ⟨_, rfl⟩
  have Hx := Lib.hid hx
  rw [← hx]
  by_cases h0 : x = 0
  · subst h0
    obtain ⟨h1, h8⟩ := chkB_ok.1 hx.symm
    have HV := Lib.hid (show onesV l = onesTo l (64 * l.length) from if_pos hx.symm)
    have hB0 : Below w.heap.size w (w.alloc (.cells #[.slice A l.length c] 22)) := ba (Below.refl _ _) _
    have HC := Lib.hid (collect_ w.heap.size c A l hw (by omega) (w.alloc (.cells #[.slice A l.length c] 22)) (alloc1_new _ _) (h.al _) (hT.below hB0))
    have HB0 := Lib.hid hB0
    clear hx h hw hT hB0
    go_enter Tryd.func33, Tryd.ntmps33
    go_wp2_with fail
    (with_reducible refine (check_ _ A c l.length hl 0 Hx).mono ?_); rintro e w' ⟨rfl, rfl⟩
    go_wp2_with fail
    (with_reducible refine (onesF_ _ A l.length c).mono ?_); rintro e w' ⟨rfl, rfl⟩
    go_wp2_with fail
    (with_reducible refine (HC.out).mono ?_); rintro e w1 ⟨B, cc, rfl, hr, hc1, hc2, hb⟩
    have HR := Lib.hid (And.intro hr (And.intro hc1 hc2))
    have hB := bt HB0.out hb
    clear hr hc1 hc2 hb HC
    go_wp2
    go_ret2
    rw [HV.out]
    exact ⟨B, cc, rfl, hB, HR.out⟩
  · have HV := Lib.hid (show onesV l = [] from if_neg (by rw [← hx]; exact h0))
    have e1 : (x != 0) = true := by simpa using h0
    clear hx h0 h hT
    go_enter Tryd.func33, Tryd.ntmps33
    go_wp2_with fail
    (with_reducible refine (check_ _ A c l.length hl x Hx).mono ?_); rintro e w' ⟨rfl, rfl⟩
    go_wp2
    go_ret2
    exact RetSl.nil (Below.refl _ _) (by rw [HV.out]; rfl) (by rw [HV.out]; rfl)
set_option maxRecDepth 100000 in
theorem clone_ (w : World) (A : Option Addr) (c : Nat) (l : List Nat) (h : Reads w w.heap.size 1 A l.length (u64s l)) (h1 : 1 ≤ l.length) (hl : l.length ≤ 1000) :
    Calls Tryd.prog 51 #[.slice A l.length c] w (RetRow w l) := by
  obtain ⟨b, off, rfl, _, _⟩ := u64At h (k := 0) (by omega)
  have hrd := h.al (.cells #[] 55)
  have Hrd := Lib.hid hrd
  have hown := own_empty w 55 1
  have hnil : ∀ W : World, (binOp .eql 22 (.slice (some ⟨b, off, none⟩) l.length c) (.slice none 0 0)).run Tryd.prog W = .ok (.bool false) W := fun W => Lib.run_eql_slice_nil W _ _ _ _ _ _ _ Tryd.underlying22
  clear h hrd
  go_enter Tryd.func51, Tryd.ntmps51
  go_wp2_with (at_builtin; refine wpList_apr u64El (w0 := w) hown (ba (Below.refl _ _) _) (by exact Hrd.out) (u64s_one l) ?_)
  intro v1 w1 hO1 hb1 hg1
  obtain ⟨g, cap, rfl, hgb, hgl⟩ := hO1.form (by omega)
  have HO1 := Lib.hid hO1
  clear hown hg1 hO1 Hrd
  go_wp2
  go_ret
  exact ⟨some ⟨g, 0, none⟩, cap, rfl, HO1.out, hb1⟩
set_option maxRecDepth 100000 in
set_option maxHeartbeats 2000000 in
theorem set_ (w : World) (A : Option Addr) (c : Nat) (l : List Nat) (h : Reads w w.heap.size 1 A l.length (u64s l)) (hw : W64 l) (hl : l.length ≤ 9223372036854775807) (i : Int) (hi : -9223372036854775808 ≤ i ∧ i ≤ 9223372036854775807) (v : Bool) :
    Calls Tryd.prog 30 #[.slice A l.length c, .int .i64 i, .bool v] w (RetSl w 1 (u64s (setL l i v)) (setL l i v).length (getE l.length i)) := by
  have hg := pget_ w A c l h hw hl i hi
  by_cases h0 : getE l.length i = 0
  · have hin : chkB l.length = 0 ∧ ∃ k : Nat, i = k ∧ k < 64 * l.length := by
      unfold getE at h0
      by_cases hc : chkB l.length ≠ 0
      · rw [if_pos hc] at h0; exact absurd h0 hc
      · rw [if_neg hc] at h0
        by_cases hr : i < 0 ∨ 64 * (l.length : Int) ≤ i
        · rw [if_pos hr] at h0; cases h0
        · exact ⟨by simpa using hc, i.toNat, by omega, by omega⟩
    obtain ⟨hc, k, rfl, hk⟩ := hin
    have h8 := chkB_ok.1 hc
    have HL := Lib.hid (show setL l k v = setB l k v from if_pos h0)
    have hgv : getV l k = rbit l k := by unfold getV; rw [h0, if_pos rfl]; rfl
    rw [h0, hgv] at hg
    have H0 := Lib.hid h0
    have HG := Lib.hid hg
    have HC := Lib.hid (fun W (hb : Below w.heap.size w W) => clone_ W A c l (h.go hb) h8.1 (by omega))
    have hx := wget hw (k / 64)
    have h63 := and63 k (by omega)
    have hq : ((k : Int) / 64).toNat = k / 64 := by omega
    have hq0 : (0 : Int) ≤ (k : Int) / 64 := by omega
    have hq1 : (k : Int) / 64 < (l.length : Int) := by omega
    by_cases hv : rbit l k = v
    · have HS := Lib.hid (show setB l k v = l from if_pos hv)
      rw [hv] at HG
      have e1 : (v != v) = false := by simp
      clear hg hgv h0 hc h hw hv h63 hx hq hq0 hq1
      go_enter Tryd.func30, Tryd.ntmps30
      go_wp2_with fail
      (with_reducible refine (HG.out).mono ?_); rintro e w' ⟨rfl, hb⟩
      go_wp2_with fail
      (with_reducible refine (HC.out _ hb).mono ?_); rintro e w1 ⟨A1, c1, rfl, hO, hb1⟩
      have HO := Lib.hid hO
      have HB := Lib.hid (bt hb hb1)
      clear hO hb hb1
      go_wp2
      go_ret2
      rw [HL.out, H0.out, HS.out]
      exact RetSl.of_own HO.out HB.out rfl rfl rfl
    · have HS := Lib.hid (show setB l k v = l.set (k / 64) (l.getD (k / 64) 0 ^^^ 2 ^ (k % 64)) from if_neg hv)
      obtain rfl : v = !rbit l k := by cases hh : rbit l k <;> cases v <;> simp_all
      have hp : (2 : Nat) ^ (k % 64) < 18446744073709551616 := Nat.lt_of_lt_of_le (Nat.pow_lt_pow_right (by omega) (show k % 64 < 64 by omega)) (by decide)
      have hxo := Lib.hid (show bits .xor .u64 ((l.getD (k / 64) 0 : Nat) : Int) (IntKind.u64.wrap (2 ^ (k % 64))) = ((l.getD (k / 64) 0 ^^^ 2 ^ (k % 64) : Nat) : Int) by
        rw [wrap_pow _ (by omega)]
        exact u64_xor_nat _ _ hx hp)
      have hXk : (u64s l)[k / 64]? = some (.int .u64 (l.getD (k / 64) 0 : Nat)) := by
        rw [List.getElem?_map, List.getElem?_eq_getElem (show k / 64 < l.length by omega)]
        simp [u64V, show k / 64 < l.length by omega]
      have HXk := Lib.hid hXk
      generalize rbit l k = rb at *
      obtain ⟨Y, hY⟩ : ∃ Y, Y = l.getD (k / 64) 0 ^^^ 2 ^ (k % 64) := ⟨_, rfl⟩
      rw [← hY] at HS hxo
      obtain ⟨X, hX⟩ : ∃ X, X = l.getD (k / 64) 0 := ⟨_, rfl⟩
      rw [← hX] at hx hxo HXk
      have e1 : (rb != !rb) = true := by cases rb <;> rfl
      clear hg hgv h0 hc h hw hv hXk hY hX hp
      go_enter Tryd.func30, Tryd.ntmps30
      go_wp2_with fail
      (with_reducible refine (HG.out).mono ?_); rintro e w' ⟨rfl, hb⟩
      go_wp2_with fail
      (with_reducible refine (HC.out _ hb).mono ?_); rintro e w1 ⟨A1, c1, rfl, hO, hb1⟩
      obtain ⟨g, cap, he, hgb, hgl⟩ := hO.form (by omega)
      injection he with e2 _ e3
      subst e2 e3
      have hcell : w1.cell? ⟨g, k / 64, none⟩ = some (.int .u64 (X : Int)) := by rw [hO.cellAt _ (by omega)]; exact HXk.out
      have hfr := hO.frozenAt (k / 64)
      obtain ⟨hst, _⟩ := hO.stored (k / 64) (.int .u64 (Y : Int))
      have hst2 : (w1.setCell ⟨g, k / 64, none⟩ (.int .u64 (Y : Int))).ownsRow w'.heap.size 55 1 (.slice (some ⟨g, 0, none⟩) l.length c1) l.length (u64s (setB l k (!rb))) := by
        rw [HS.out, u64s, List.map_set]; exact hst
      have HST := Lib.hid hst2
      have HB := Lib.hid (bs (bt hb hb1) (p := ⟨g, k / 64, none⟩) (u := .int .u64 (Y : Int)) (Nat.le_trans hb.size hgb))
      have HN := Lib.hid (setB_len l k (!rb))
      clear hO hb hb1 hst hst2 HS HC HG
      go_wp2
      go_region
      go_wp2
      rw [hxo.out]
      go_ret2
      rw [HL.out, H0.out]
      exact RetSl.of_own (w' := (w1.setCell ⟨g, k / 64, none⟩ (.int .u64 (Y : Int))).drew) HST.out HB.out.drew rfl HN.out.symm rfl
  · have HL := Lib.hid (show setL l i v = [] from if_neg h0)
    generalize getE l.length i = E at *
    have e1 : (E != 0) = true := by simpa using h0
    have HG := Lib.hid hg
    generalize getV l i = gv at *
    clear hg h0 h
    go_enter Tryd.func30, Tryd.ntmps30
    go_wp2_with fail
    (with_reducible refine (HG.out).mono ?_); rintro e w' ⟨rfl, hb⟩
    go_wp2
    go_ret2
    exact RetSl.nil hb (by rw [HL.out]; rfl) (by rw [HL.out]; rfl)
set_option maxRecDepth 100000 in
set_option maxHeartbeats 2000000 in
theorem rof_ (w : World) (A : Option Addr) (c : Nat) (n : Int) (hn : -9223372036854775808 ≤ n ∧ n ≤ 9223372036854775807) (L : List Int) (h : Reads w w.heap.size 1 A L.length (i64s L)) (hl : L.length ≤ 9223372036854775807) :
    Calls Tryd.prog 37 #[.int .i64 n, .slice A L.length c] w (RetSl w 1 (u64s (ofL n L)) (ofL n L).length (ofE n L)) := by
  by_cases h1 : n < 1
  · have HE := Lib.hid (show ofE n L = 6 from if_pos h1)
    have HL := Lib.hid (show ofL n L = [] from if_neg (by rw [HE.out]; decide))
    clear h
    go_enter Tryd.func37, Tryd.ntmps37
    go_wp2
    go_ret2
    rw [HE.out, HL.out]
    exact RetSl.nil (Below.refl _ _) rfl rfl
  by_cases h8 : 8 < n
  · have HE := Lib.hid (show ofE n L = 3 by unfold ofE; rw [if_neg h1, if_pos h8])
    have HL := Lib.hid (show ofL n L = [] from if_neg (by rw [HE.out]; decide))
    clear h
    go_enter Tryd.func37, Tryd.ntmps37
    go_wp2
    go_ret2
    rw [HE.out, HL.out]
    exact RetSl.nil (Below.refl _ _) rfl rfl
  obtain ⟨m, rfl⟩ : ∃ m : Nat, n = m := ⟨n.toNat, by omega⟩
  have hE := (show ofE m L = if L.any (badOf m) then 7 else 0 by unfold ofE; rw [if_neg h1, if_neg h8])
  have HE := Lib.hid hE
  have hmk := mk64 m (by omega)
  have hz0 : Reads (w.alloc (.cells (madeCells #[.int .u64 0] m) 55)) (w.alloc (.cells (madeCells #[.int .u64 0] m) 55)).heap.size 1 (some ⟨w.heap.size, 0, none⟩) m (u64s (rowOf m (ofF (L.take 0)))) := by
    have e2 : rowOf m (ofF (L.take 0)) = List.replicate m 0 := by
      symm
      refine row_eq (fun x hx => by rw [List.eq_of_mem_replicate hx]; decide) (by simp) fun i hi => ?_
      unfold rbit ofF
      have : i / 64 < m := by omega
      simp [this]
    rw [e2]
    exact zeros_rd w m
  have Hz0 := Lib.hid hz0
  have HR := Lib.hid h
  have hB0 : Below w.heap.size w (w.alloc (.cells (madeCells #[.int .u64 0] m) 55)) := ba (Below.refl _ _) _
  have HB0 := Lib.hid hB0
  have hm8 : m ≤ 8 := by omega
  clear h hz0 hE hB0
  go_enter Tryd.func37, Tryd.ntmps37
  go_wp2_with fail
  go_loopw [6, 7] (fun v i wr => ∃ (k : Nat) (B : Option Addr) (cc : Nat), k ≤ L.length ∧ i = .int .i64 k ∧ v = .slice B m cc ∧ m ≤ cc ∧ cc ≤ 9223372036854775807 ∧ Hid ((L.take k).any (badOf m) = false) ∧ Hid (Reads wr wr.heap.size 1 B m (u64s (rowOf m (ofF (L.take k))))) ∧ Hid (Below w.heap.size w wr)) (fun _ i _ => L.length - (intOf i).toNat)
  case atStart => exact ⟨0, _, _, Nat.zero_le _, rfl, rfl, Nat.le_refl _, by omega, Lib.hid (show (L.take 0).any (badOf m) = false from rfl), Hz0, HB0⟩
  case round =>
    obtain ⟨k, B, cc, hk, rfl, rfl, hcc, hcc2, hno, hrd, hB⟩ := hrel
    clear Hz0 HB0 hmk
    by_cases hkl : k < L.length
    · obtain ⟨b, off, rfl, hb, d0⟩ := i64At HR.out hkl
      have d1 := (hB.out.cell (p := ⟨b, off + k, none⟩) hb).trans d0
      have hts := take_succ_ hkl
      by_cases hbad : badOf m (L.getD k 0) = true
      · have HE7 := Lib.hid (show ofE m L = 7 by
          rw [HE.out, if_pos]
          rw [List.any_eq_true]
          exact ⟨L.getD k 0, by simp [hkl], hbad⟩)
        have HL := Lib.hid (show ofL m L = [] from if_neg (by rw [HE7.out]; decide))
        unfold badOf at hbad
        clear hts d0
        generalize L.getD k 0 = X at *
        rw [Bool.or_eq_true, decide_eq_true_iff, decide_eq_true_iff] at hbad
        by_cases hX : X < 0
        · clear hbad
          go_wp2
          go_ret2
          rw [HE7.out, HL.out]
          exact RetSl.nil hB.out rfl rfl
        · have hX2 : 64 * (m : Int) ≤ X := by omega
          clear hbad
          go_wp2
          go_ret2
          rw [HE7.out, HL.out]
          exact RetSl.nil hB.out rfl rfl
      · have hbad' : badOf m (L.getD k 0) = false := by simpa using hbad
        have hno2 : (L.take (k + 1)).any (badOf m) = false := by rw [hts, List.any_append, hno.out]; simp only [List.any_cons, List.any_nil]; rw [hbad']; rfl
        unfold badOf at hbad'
        rw [Bool.or_eq_false_iff, decide_eq_false_iff_not, decide_eq_false_iff_not] at hbad'
        obtain ⟨hb0, hb1⟩ := hbad'
        obtain ⟨i, hi⟩ : ∃ i : Nat, L.getD k 0 = i := ⟨(L.getD k 0).toNat, by omega⟩
        have hset : setB (rowOf m (ofF (L.take k))) i true = rowOf m (ofF (L.take (k + 1))) := by
          have hi' : i < 64 * (rowOf m (ofF (L.take k))).length := by rw [rowOf_len]; omega
          rw [← set_or hi']
          exact set_row (by omega) (ofF_succ hkl hi)
        rw [hi] at d1 hb0 hb1
        have hwi := with_ wr B cc (rowOf m (ofF (L.take k))) (by rw [rowOf_len]; exact hrd.out) (by rw [rowOf_len]; omega) (rowOf_w _ _) i (by rw [rowOf_len]; omega) true
        rw [hset, rowOf_len] at hwi
        have HWi := Lib.hid hwi
        have HN := Lib.hid hno2
        have hlen := rowOf_len m (ofF (L.take (k + 1)))
        have Hlen := Lib.hid hlen
        clear hwi hno2 hset hts d0 hbad hno hi hlen hrd
        obtain ⟨R2, hR2⟩ : ∃ R2, R2 = rowOf m (ofF (L.take (k + 1))) := ⟨_, rfl⟩
        rw [← hR2] at HWi Hlen
        have HEq := Lib.hid hR2
        clear hR2
        go_wp2_with fail
        (with_reducible refine (HWi.out).mono ?_); rintro e w2 ⟨B2, c2, rfl, hO2, hb2⟩
        obtain ⟨_, _, he, hr2, hc2, hm2⟩ := own_sl hO2
        injection he with e1 e2 e3
        clear e2
        subst e1 e3
        rw [Hlen.out] at hr2 hc2 ⊢
        have HR2 := Lib.hid hr2
        have HB2 := Lib.hid (bt hB.out hb2)
        clear hO2 hr2 hb2 HWi
        go_wp2
        go_roundw
        case rel => exact ⟨k + 1, _, _, by omega, by go_num, rfl, hc2, hm2, HN, by rw [← HEq.out]; exact HR2, HB2⟩
        case measure => simp [intOf]; omega
    · obtain rfl : k = L.length := by omega
      have hno' := hno.out
      have hrd' := hrd.out
      rw [List.take_of_length_le (Nat.le_refl _)] at hno' hrd'
      have HE0 := Lib.hid (show ofE m L = 0 by rw [HE.out, hno']; rfl)
      have HL := Lib.hid (show ofL m L = rowOf m (ofF L) by unfold ofL; rw [if_pos HE0.out]; rfl)
      have Hrd := Lib.hid hrd'
      clear hrd hrd' hno hno'
      go_wp2
      go_ret2
      rw [HE0.out, HL.out]
      exact ⟨B, cc, by rw [rowOf_len]; rfl, hB.out, by rw [rowOf_len]; exact Hrd.out, by rw [rowOf_len]; exact hcc, hcc2⟩
end Go.Proofs.YtibnegheabhbdaaDoor
