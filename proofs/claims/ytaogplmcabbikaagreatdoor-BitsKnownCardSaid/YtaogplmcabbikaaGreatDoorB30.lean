/- Rows of bits: Ones and Set of the program; Of of the reference. -/
import Derived.Test.YtaogplmcabbikaaGreatDoorB29
namespace Go.Proofs.YtaogplmcabbikaaGreatDoor
open Go.RowKit Go.Shelf
theorem natVs_int (l : List Nat) (k : Nat) : natVs (onN l k) = i64s (onesTo l k) := by
  rw [← onN_int, i64s, natVs, List.map_map]
  rfl
theorem collect_ (Bs cap : Nat) (A : Option Addr) (l : List Nat) (hw : W64 l) (hl : l.length ≤ 100) (w : World)
    (hBs : w.heap[Bs]? = some (.cells #[.slice A l.length cap] 22 (0, 0))) (hR : Reads w w.heap.size 1 A l.length (u64s l)) (hT : Tzt w) :
    Calls Tryz.prog 22 #[.func (.func 41) #[] #[.pointer (some ⟨Bs, 0, none⟩)]] w fun e W' =>
      ∃ B c, e = .returned (.slice B (onesTo l (64 * l.length)).length c) ∧ Reads W' W'.heap.size 1 B (onesTo l (64 * l.length)).length (i64s (onesTo l (64 * l.length))) ∧ (onesTo l (64 * l.length)).length ≤ c ∧ c ≤ 9223372036854775807 ∧ Below w.heap.size w W' := by
  have hA := callsIn_wide.1 (appendSeq_in Bs cap A l hw hl w hBs hR hT)
  have hlen : (onN l (64 * l.length)).length = (onesTo l (64 * l.length)).length := by rw [← onN_int, List.length_map]
  rw [natVs_int, hlen] at hA
  have HA := Lib.hid hA
  clear hA hlen hw hBs hR hT
  go_enter Tryz.func22, Tryz.ntmps22
  go_wp2_with fail
  (with_reducible refine (HA.out).mono ?_); rintro e w1 ⟨v, rfl, hO, hb⟩
  obtain ⟨B, c, rfl, hr, hc1, hc2⟩ := own_sl hO
  have HR := Lib.hid (And.intro hr (And.intro hc1 hc2))
  clear hO hr hc1 hc2
  go_wp2
  go_ret
  exact ⟨B, c, rfl, HR.out.1, HR.out.2.1, HR.out.2.2, hb⟩
theorem onesF_ (w : World) (A : Option Addr) (len cap : Nat) :
    Calls Tryz.prog 23 #[.slice A len cap] w fun e w' => e = .returned (.func (.func 41) #[] #[.pointer (some ⟨w.heap.size, 0, none⟩)]) ∧ w.alloc (.cells #[.slice A len cap] 22) = w' := by
  go_enter Tryz.func23, Tryz.ntmps23
  go_wp2
  go_ret
  exact ⟨rfl, rfl⟩
set_option maxRecDepth 100000 in
set_option maxHeartbeats 2000000 in
theorem ones_ (w : World) (A : Option Addr) (c : Nat) (l : List Nat) (h : Reads w w.heap.size 1 A l.length (u64s l)) (hw : W64 l) (hl : l.length ≤ 9223372036854775807) (hT : Tzt w) :
    Calls Tryz.prog 9 #[.slice A l.length c] w (RetSl w 1 (i64s (onesV l)) (onesV l).length (chkB l.length)) := by
  obtain ⟨x, hx⟩ : ∃ x, x = chkB l.length := ⟨_, rfl⟩
  have Hx := Lib.hid hx
  rw [← hx]
  by_cases h0 : x = 0
  · subst h0
    obtain ⟨h1, h8⟩ := chkB_ok.1 hx.symm
    have HV := Lib.hid (show onesV l = onesTo l (64 * l.length) from if_pos hx.symm)
    have hB0 : Below w.heap.size w (w.alloc (.cells #[.slice A l.length c] 22)) := ba (Below.refl _ _) _
    have HC := Lib.hid (collect_ w.heap.size c A l hw (by omega) (w.alloc (.cells #[.slice A l.length c] 22)) (alloc1_new _ _) (h.al _) (hT.below hB0))
    have HB0 := Lib.hid hB0
    clear hx h hw hT hB0
    go_enter Tryz.func9, Tryz.ntmps9
    go_wp2_with fail
    (with_reducible refine (check_ _ A c l.length hl 0 Hx).mono ?_); rintro e w' ⟨rfl, rfl⟩
    go_wp2_with fail
    (with_reducible refine (onesF_ _ A l.length c).mono ?_); rintro e w' ⟨rfl, rfl⟩
    go_wp2_with fail
    (with_reducible refine (HC.out).mono ?_); rintro e w1 ⟨B, cc, rfl, hr, hc1, hc2, hb⟩
    have HR := Lib.hid (And.intro hr (And.intro hc1 hc2))
    have hB := bt HB0.out hb
    clear hr hc1 hc2 hb HC
    go_wp2
    go_ret2
    rw [HV.out]
    exact ⟨B, cc, rfl, hB, HR.out⟩
  · have HV := Lib.hid (show onesV l = [] from if_neg (by rw [← hx]; exact h0))
    have e1 : (x != 0) = true := by simpa using h0
    clear hx h0 h hT
    go_enter Tryz.func9, Tryz.ntmps9
    go_wp2_with fail
    (with_reducible refine (check_ _ A c l.length hl x Hx).mono ?_); rintro e w' ⟨rfl, rfl⟩
    go_wp2
    go_ret2
    exact RetSl.nil (Below.refl _ _) (by rw [HV.out]; rfl) (by rw [HV.out]; rfl)
set_option maxRecDepth 100000 in
theorem clone_ (w : World) (A : Option Addr) (c : Nat) (l : List Nat) (h : Reads w w.heap.size 1 A l.length (u64s l)) (h1 : 1 ≤ l.length) (hl : l.length ≤ 1000) :
    Calls Tryz.prog 21 #[.slice A l.length c] w (RetRow w l) := by
  obtain ⟨b, off, rfl, _, _⟩ := u64At h (k := 0) (by omega)
  have hrd := h.al (.cells #[] 37)
  have Hrd := Lib.hid hrd
  have hown := own_empty w 37 1
  have hnil : ∀ W : World, (binOp .eql 22 (.slice (some ⟨b, off, none⟩) l.length c) (.slice none 0 0)).run Tryz.prog W = .ok (.bool false) W := fun W => Lib.run_eql_slice_nil W _ _ _ _ _ _ _ Tryz.underlying22
  clear h hrd
  go_enter Tryz.func21, Tryz.ntmps21
  go_wp2_with (at_builtin; refine wpList_apr u64El (w0 := w) hown (ba (Below.refl _ _) _) (by exact Hrd.out) (u64s_one l) ?_)
  intro v1 w1 hO1 hb1 hg1
  obtain ⟨g, cap, rfl, hgb, hgl⟩ := hO1.form (by omega)
  have HO1 := Lib.hid hO1
  clear hown hg1 hO1 Hrd
  go_wp2
  go_ret
  exact ⟨some ⟨g, 0, none⟩, cap, rfl, HO1.out, hb1⟩
set_option maxRecDepth 100000 in
set_option maxHeartbeats 2000000 in
theorem set_ (w : World) (A : Option Addr) (c : Nat) (l : List Nat) (h : Reads w w.heap.size 1 A l.length (u64s l)) (hw : W64 l) (hl : l.length ≤ 9223372036854775807) (i : Int) (hi : -9223372036854775808 ≤ i ∧ i ≤ 9223372036854775807) (v : Bool) :
    Calls Tryz.prog 8 #[.slice A l.length c, .int .i64 i, .bool v] w (RetSl w 1 (u64s (setL l i v)) (setL l i v).length (getE l.length i)) := by
  have hg := pget_ w A c l h hw hl i hi
  by_cases h0 : getE l.length i = 0
  · have hin : chkB l.length = 0 ∧ ∃ k : Nat, i = k ∧ k < 64 * l.length := by
      unfold getE at h0
      by_cases hc : chkB l.length ≠ 0
      · rw [if_pos hc] at h0; exact absurd h0 hc
      · rw [if_neg hc] at h0
        by_cases hr : i < 0 ∨ 64 * (l.length : Int) ≤ i
        · rw [if_pos hr] at h0; cases h0
        · exact ⟨by simpa using hc, i.toNat, by omega, by omega⟩
    obtain ⟨hc, k, rfl, hk⟩ := hin
    have h8 := chkB_ok.1 hc
    have HL := Lib.hid (show setL l k v = setB l k v from if_pos h0)
    have hgv : getV l k = rbit l k := by unfold getV; rw [h0, if_pos rfl]; rfl
    rw [h0, hgv] at hg
    have H0 := Lib.hid h0
    have HG := Lib.hid hg
    have HC := Lib.hid (fun W (hb : Below w.heap.size w W) => clone_ W A c l (h.go hb) h8.1 (by omega))
    have hx := wget hw (k / 64)
    have h63 := and63 k (by omega)
    have hq : ((k : Int) / 64).toNat = k / 64 := by omega
    have hq0 : (0 : Int) ≤ (k : Int) / 64 := by omega
    have hq1 : (k : Int) / 64 < (l.length : Int) := by omega
    by_cases hv : rbit l k = v
    · have HS := Lib.hid (show setB l k v = l from if_pos hv)
      rw [hv] at HG
      have e1 : (v != v) = false := by simp
      clear hg hgv h0 hc h hw hv h63 hx hq hq0 hq1
      go_enter Tryz.func8, Tryz.ntmps8
      go_wp2_with fail
      (with_reducible refine (HG.out).mono ?_); rintro e w' ⟨rfl, hb⟩
      go_wp2_with fail
      (with_reducible refine (HC.out _ hb).mono ?_); rintro e w1 ⟨A1, c1, rfl, hO, hb1⟩
      have HO := Lib.hid hO
      have HB := Lib.hid (bt hb hb1)
      clear hO hb hb1
      go_wp2
      go_ret2
      rw [HL.out, H0.out, HS.out]
      exact RetSl.of_own HO.out HB.out rfl rfl rfl
    · have HS := Lib.hid (show setB l k v = l.set (k / 64) (l.getD (k / 64) 0 ^^^ 2 ^ (k % 64)) from if_neg hv)
      obtain rfl : v = !rbit l k := by cases hh : rbit l k <;> cases v <;> simp_all
      have hp : (2 : Nat) ^ (k % 64) < 18446744073709551616 := Nat.lt_of_lt_of_le (Nat.pow_lt_pow_right (by omega) (show k % 64 < 64 by omega)) (by decide)
      have hxo := Lib.hid (show bits .xor .u64 ((l.getD (k / 64) 0 : Nat) : Int) (IntKind.u64.wrap (2 ^ (k % 64))) = ((l.getD (k / 64) 0 ^^^ 2 ^ (k % 64) : Nat) : Int) by
        rw [wrap_pow _ (by omega)]
        exact u64_xor_nat _ _ hx hp)
      have hXk : (u64s l)[k / 64]? = some (.int .u64 (l.getD (k / 64) 0 : Nat)) := by
        rw [List.getElem?_map, List.getElem?_eq_getElem (show k / 64 < l.length by omega)]
        simp [u64V, show k / 64 < l.length by omega]
      have HXk := Lib.hid hXk
      generalize rbit l k = rb at *
      obtain ⟨Y, hY⟩ : ∃ Y, Y = l.getD (k / 64) 0 ^^^ 2 ^ (k % 64) := ⟨_, rfl⟩
      rw [← hY] at HS hxo
      obtain ⟨X, hX⟩ : ∃ X, X = l.getD (k / 64) 0 := ⟨_, rfl⟩
      rw [← hX] at hx hxo HXk
      have e1 : (rb != !rb) = true := by cases rb <;> rfl
      clear hg hgv h0 hc h hw hv hXk hY hX hp
      go_enter Tryz.func8, Tryz.ntmps8
      go_wp2_with fail
      (with_reducible refine (HG.out).mono ?_); rintro e w' ⟨rfl, hb⟩
      go_wp2_with fail
      (with_reducible refine (HC.out _ hb).mono ?_); rintro e w1 ⟨A1, c1, rfl, hO, hb1⟩
      obtain ⟨g, cap, he, hgb, hgl⟩ := hO.form (by omega)
      injection he with e2 _ e3
      subst e2 e3
      have hcell : w1.cell? ⟨g, k / 64, none⟩ = some (.int .u64 (X : Int)) := by rw [hO.cellAt _ (by omega)]; exact HXk.out
      have hfr := hO.frozenAt (k / 64)
      obtain ⟨hst, _⟩ := hO.stored (k / 64) (.int .u64 (Y : Int))
      have hst2 : (w1.setCell ⟨g, k / 64, none⟩ (.int .u64 (Y : Int))).ownsRow w'.heap.size 37 1 (.slice (some ⟨g, 0, none⟩) l.length c1) l.length (u64s (setB l k (!rb))) := by
        rw [HS.out, u64s, List.map_set]; exact hst
      have HST := Lib.hid hst2
      have HB := Lib.hid (bs (bt hb hb1) (p := ⟨g, k / 64, none⟩) (u := .int .u64 (Y : Int)) (Nat.le_trans hb.size hgb))
      have HN := Lib.hid (setB_len l k (!rb))
      clear hO hb hb1 hst hst2 HS HC HG
      go_wp2
      go_region
      go_wp2
      rw [hxo.out]
      go_ret2
      rw [HL.out, H0.out]
      exact RetSl.of_own (w' := (w1.setCell ⟨g, k / 64, none⟩ (.int .u64 (Y : Int))).drew) HST.out HB.out.drew rfl HN.out.symm rfl
  · have HL := Lib.hid (show setL l i v = [] from if_neg h0)
    generalize getE l.length i = E at *
    have e1 : (E != 0) = true := by simpa using h0
    have HG := Lib.hid hg
    generalize getV l i = gv at *
    clear hg h0 h
    go_enter Tryz.func8, Tryz.ntmps8
    go_wp2_with fail
    (with_reducible refine (HG.out).mono ?_); rintro e w' ⟨rfl, hb⟩
    go_wp2
    go_ret2
    exact RetSl.nil hb (by rw [HL.out]; rfl) (by rw [HL.out]; rfl)
end Go.Proofs.YtaogplmcabbikaaGreatDoor
