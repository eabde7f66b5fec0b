/- words: List of the reference. No condition. -/
import Derived.Test.YtngbgchnbcfliaaGreatDoorN16
import Derived.Test.YtngbgchnbcfliaaGreatDoorN10
import Derived.BigQuiet
namespace Go.Proofs.YtngbgchnbcfliaaGreatDoor
open Go.RowKit
theorem rdigN (n : Int) (x : ByteArray) (hx : Hid (x = Dg n)) (h0 : 0 ≤ n) (h1 : n ≤ 9223372036854775807) (w : World) :
    Calls Tryz.prog 26 #[.int .i64 n] w fun e w' => e = .returned (.string x) ∧ Below w.heap.size w w' := by
  rw [hx.out]
  obtain ⟨N, rfl⟩ : ∃ N : Nat, n = N := ⟨n.toNat, by omega⟩
  exact rdig_pos N (by omega) w
theorem ascB_no {l : List Int} {k : Nat} (h : ascB (l.take k) = false) : ascB l = false := by
  rcases ha : ascB l with _ | _
  · rfl
  · rw [ascB_mono ha] at h; cases h
theorem app_dat {U V : ByteArray} {a b : List UInt8} (h1 : U.data.toList = a) (h2 : V.data.toList = b) : (U ++ V).data.toList = a ++ b := by
  rw [ByteArray.data_append, Array.toList_append, h1, h2]
set_option maxRecDepth 100000 in
set_option maxHeartbeats 4000000 in
theorem rlist_ (w : World) (A : Option Addr) (c : Nat) (l : List Int) (h : Reads w w.heap.size 1 A l.length (ivs l)) :
    Calls Tryz.prog 8 #[.slice A l.length c] w (RetSE w (listL l)) := by
  by_cases h5 : 500 < l.length
  · have hR := Lib.hid (listL_long h5)
    have i5 : (500 : Int) < (l.length : Int) := by omega
    clear h h5
    go_enter Tryz.func8, Tryz.ntmps8
    go_wp2
    go_ret2
    exact RetSE.mk' hR.out (Below.refl _ _)
  have i5 : ¬ ((500 : Int) < (l.length : Int)) := by omega
  have hln : l.length ≤ 500 := by omega
  have HR := Lib.hid h
  clear h
  go_enter Tryz.func8, Tryz.ntmps8
  go_wp2
  go_loopw [4] (fun i wr => ∃ k : Nat, k ≤ l.length ∧ i = .int .i64 k ∧ Hid (rngB (l.take k) = true) ∧ w = wr) (fun i _ => l.length - (intOf i).toNat)
  case atStart => exact ⟨0, Nat.zero_le _, rfl, Lib.hid rfl, rfl⟩
  case round =>
    obtain ⟨k, hk, rfl, hrg, rfl⟩ := hrel
    by_cases hlt : k < l.length
    · have i1 : (k : Int) < (l.length : Int) := by omega
      obtain ⟨b, off, x, rfl, hb, hc, hx⟩ := ivAt HR.out hlt
      by_cases hx0 : x < 0
      · have hR := Lib.hid (listL_rng h5 (rngB_no hx.out (by omega)))
        go_wp2
        go_ret2
        exact RetSE.mk' hR.out (Below.refl _ _)
      by_cases hx1 : 1000000000 < x
      · have hR := Lib.hid (listL_rng h5 (rngB_no hx.out (by omega)))
        go_wp2
        go_ret2
        exact RetSE.mk' hR.out (Below.refl _ _)
      have hrg2 := Lib.hid (rngB_step hrg.out hx.out (by omega))
      go_wp2
      go_roundw
      case rel => exact ⟨k + 1, by omega, by go_num, hrg2, trivial⟩
      case measure => (simp [intOf]) <;> omega
    · have i1 : ¬ ((k : Int) < (l.length : Int)) := by omega
      obtain rfl : k = l.length := by omega
      have hrg2 := hrg.out
      rw [List.take_length] at hrg2
      have Hrg := Lib.hid hrg2
      clear hrg hrg2 hk
      go_wp2
      go_loopw [5] (fun i wr => ∃ k : Nat, 1 ≤ k ∧ i = .int .i64 k ∧ Hid (ascB (l.take k) = true) ∧ Below w.heap.size w wr) (fun i _ => l.length - (intOf i).toNat)
      case atStart => exact ⟨1, Nat.le_refl _, rfl, Lib.hid (ascB_one _ (by simp; omega)), Below.refl _ _⟩
      case round =>
        obtain ⟨k, hk1, rfl, has, hbw⟩ := hrel
        by_cases hlt : k < l.length
        · obtain ⟨j, rfl⟩ : ∃ j, k = j + 1 := ⟨k - 1, by omega⟩
          have i1 : ((j + 1 : Nat) : Int) < (l.length : Int) := by omega
          have HR2 := HR.out.below hbw
          obtain ⟨b, off, x, rfl, hb, hc, hx⟩ := ivAt HR2 hlt
          obtain ⟨b', off', y, hA, hb', hc', hy⟩ := ivAt HR2 (k := j) (by omega)
          injection hA with hA; injection hA with a1 a2; subst a1 a2
          have e1 : ((j + 1 : Nat) : Int) - 1 = (j : Int) := by omega
          have i0 : (0 : Int) ≤ (j : Int) := by omega
          have i00 : (0 : Int) ≤ ((j + 1 : Nat) : Int) := by omega
          have i2 : (j : Int) < (l.length : Int) := by omega
          have w0 : IntKind.i64.wrap ((j : Int)) = (j : Int) := IntWalk.i64_in _ (by omega)
          clear HR2
          by_cases hxy : x ≤ y
          · have hR := Lib.hid (listL_asc h5 Hrg.out (ascB_no (k := j + 2) (by rw [ascB_take hy.out hx.out]; simp; omega)))
            go_wp2
            go_quiet (fail)
            go_wp2
            go_ret2
            exact RetSE.mk' hR.out (bt hbw (drewN_below _ _))
          · have hs2 := Lib.hid (show ascB (l.take (j + 2)) = true by rw [ascB_take hy.out hx.out, has.out]; simp; omega)
            go_wp2
            go_quiet (fail)
            go_wp2
            go_roundw
            case rel => exact ⟨j + 2, by omega, by go_num, hs2, bt hbw (drewN_below _ _)⟩
            case measure => (simp [intOf]) <;> omega
        · have i1 : ¬ ((k : Int) < (l.length : Int)) := by omega
          have hasc := has.out
          rw [List.take_of_length_le (by omega)] at hasc
          have Hasc := Lib.hid hasc
          clear has hasc
          by_cases hl0 : l = []
          · have hR := Lib.hid (show listL l = ([45], 0) by rw [hl0]; exact listL_nil)
            have j0 : ((l.length : Nat) : Int) = 0 := by rw [hl0]; rfl
            have j1 : (((l.length : Nat) : Int) == 0) = true := by rw [j0]; rfl
            clear j0 hl0
            go_wp2
            go_ret2
            exact RetSE.mk' hR.out hbw
          have hX := Lib.hid (listL_ok h5 Hrg.out Hasc.out hl0)
          have j1 : (((l.length : Nat) : Int) == 0) = false := by rw [beq_eq_false_iff_ne]; intro e; exact hl0 (List.eq_nil_of_length_eq_zero (by omega))
          clear hl0
          go_wp2
          go_loopw [6, 7] (fun u i wr => ∃ (k : Nat) (U : ByteArray), k ≤ l.length ∧ i = .int .i64 k ∧ u = .string U ∧ Hid (lsL U.data.toList (l.drop k) = lsL [] l) ∧ U.size ≤ 44 * k ∧ Hid (k = 0 → U.data.toList = []) ∧ Hid (0 < k → U.data.toList ≠ []) ∧ Below w.heap.size w wr) (fun _ i _ => l.length - (intOf i).toNat)
          case atStart => exact ⟨0, ⟨#[]⟩, Nat.zero_le _, rfl, rfl, Lib.hid rfl, Nat.le_refl _, Lib.hid (fun _ => rfl), Lib.hid (fun h => absurd h (by omega)), hbw⟩
          case round =>
            clear hbw i1 hk1
            obtain ⟨k, U, hk, rfl, rfl, hls, hol, ho0, ho1, hbw⟩ := hrel
            by_cases hlt : k < l.length
            · have i2 : (k : Int) < (l.length : Int) := by omega
              have HR2 := HR.out.below hbw
              obtain ⟨b, off, a, rfl, hb, hc, ha⟩ := ivAt HR2 hlt
              have hrng := rngB_at Hrg.out ha.out
              have hst := Lib.hid (RunAt.start ha.out)
              obtain ⟨b9, o9, a9, hA9, hb9, hc9, ha9⟩ := ivAt HR.out hlt
              injection hA9 with hA9; injection hA9 with a1 a2; subst a1 a2
              obtain rfl : a = a9 := Option.some.inj (ha.out.symm.trans ha9.out)
              have HCk0 := Lib.hid (fun (W : World) (hb : Below w.heap.size w W) => (hb.cell (p := ⟨b, off + k, none⟩) hb9).trans hc9)
              clear HR2 hc9 ha9
              go_wp2
              go_loopw [8] (fun i wi => ∃ q : Nat, k ≤ q ∧ i = .int .i64 q ∧ Hid (RunAt l k (q - k) a) ∧ Below w.heap.size w wi) (fun i _ => l.length - (intOf i).toNat)
              case atStart => exact ⟨k, Nat.le_refl _, rfl, by rw [Nat.sub_self]; exact hst, hbw⟩
              case round =>
                clear hst hc hbw
                obtain ⟨q, hkq, rfl, hrun, hbi⟩ := hrel
                have hq0 : k + (q - k) = q := by omega
                have hr1 := hrun.out.2.1
                have hr2 := hrun.out.2.2.1
                rw [hq0] at hr1 hr2
                have HR3 := HR.out.below hbi
                obtain ⟨b1, o1, x, hA, hb1, hc1, hx⟩ := ivAt HR3 hr1
                injection hA with hA; injection hA with a1 a2; subst a1 a2
                have hxa := Lib.hid (Option.some.inj (hx.out.symm.trans hr2))
                have hxr := rngB_at Hrg.out hx.out
                obtain ⟨b4, o4, x4, hA4, hb4, hc4, hx4⟩ := ivAt HR.out hr1
                injection hA4 with hA4; injection hA4 with a1 a2; subst a1 a2
                obtain rfl : x = x4 := Option.some.inj (hx.out.symm.trans hx4.out)
                have HCq := Lib.hid (fun (W : World) (hb : Below w.heap.size w W) => (hb.cell (p := ⟨b, off + q, none⟩) hb4).trans hc4)
                have HCk := Lib.hid (fun (W : World) (hb : Below w.heap.size w W) => HCk0.out W hb)
                clear hc4 hx4
                obtain ⟨D1, hD1⟩ : ∃ D, D = Dg a := ⟨_, rfl⟩
                obtain ⟨D2, hD2⟩ : ∃ D, D = Dg x := ⟨_, rfl⟩
                have s1 : D1.size ≤ 21 := hD1 ▸ Dg_size a (by omega) (by omega)
                have s2 : D2.size ≤ 21 := hD2 ▸ Dg_size x (by omega) (by omega)
                have HT1 : Hid (D1.data.toList = dgL a) := Lib.hid (by rw [hD1]; rfl)
                have HT2 : Hid (D2.data.toList = dgL x) := Lib.hid (by rw [hD2]; rfl)
                have dl1 := dgL_len a (by omega) (by omega)
                have HD1 := Lib.hid hD1
                have HD2 := Lib.hid hD2
                clear hD1 hD2
                clear hr2 hq0
                have w1 : IntKind.i64.wrap ((q : Int) + 1) = (q : Int) + 1 := IntWalk.i64_in _ (by omega)
                have w2 : IntKind.i64.wrap (x + 1) = x + 1 := IntWalk.i64_in _ (by omega)
                by_cases hn : q + 1 < l.length
                · obtain ⟨b2, o2, y, hA, hb2, hc2, hy⟩ := ivAt HR3 hn
                  injection hA with hA; injection hA with a1 a2; subst a1 a2
                  have hi1 : (q : Int) + 1 < (l.length : Int) := by omega
                  have hi2 : (q : Int) < (l.length : Int) := by omega
                  have hi3 : (0 : Int) ≤ (q : Int) + 1 := by omega
                  have hi4 : ((q : Int) + 1).toNat = q + 1 := by omega
                  have g1 : decide ((q : Int) + 1 < (l.length : Int)) = true := by simp; omega
                  clear HR3
                  by_cases hxy : y = x + 1
                  · have g2 : (y == x + 1) = true := by rw [hxy]; simp
                    have hrn := Lib.hid (hrun.out.next (x := y) (by rw [show k + (q - k) + 1 = q + 1 by omega]; exact hy.out) (by rw [hxy, hxa.out]))
                    go_wp2
                    go_region
                    go_wp2
                    go_roundw
                    case rel => exact ⟨q + 1, by omega, by go_num, by rw [show q + 1 - k = q - k + 1 by omega]; exact hrn, bt hbi (by exact below_drewN' _ _)⟩
                    case measure => (simp [intOf]) <;> omega
                  · have g2 : (y == x + 1) = false := by rw [beq_eq_false_iff_ne]; exact hxy
                    have hm := Lib.hid (hrun.out.stop (fun z hz => by rw [show k + (q - k) + 1 = q + 1 by omega, hy.out] at hz; injection hz with hz; rw [← hz, ← hxa.out]; exact hxy))
                    clear hxy
                    go_wp2
                    go_region
                    have hbd : Below w.heap.size w wr.drew := bt hbi (by exact below_drewN' _ 1)
                    have ck := HCk.out wr.drew hbd
                    have hls2 : Hid (lsL (runTx U.data.toList a (q - k)) (l.drop (q + 1)) = lsL [] l) := Lib.hid (by rw [← hls.out, lsL_run hrun.out hm.out, show k + (q - k) + 1 = q + 1 by omega])
                    have hl2 : (runTx U.data.toList a (q - k)).length ≤ U.data.toList.length + 2 * 21 + 2 := runTx_len U.data.toList a (q - k) 21 (dgL_len a (by omega) (by omega)) (by rw [← hxa.out]; exact dgL_len x (by omega) (by omega))
                    have hUl : U.data.toList.length = U.size := rfl
                    by_cases hk0 : k = 0
                    · have hon := ho0.out hk0
                      clear hk0
                      by_cases hqk : q - k = 0
                      · have hem : U.toList.isEmpty = true := by rw [isEmpty_dat, hon]; rfl
                        have hV : (U ++ D1).data.toList = runTx U.data.toList a (q - k) := by
                          rw [runTx_0 hon hqk]
                          simp only [ByteArray.data_append, Array.toList_append, HT1.out]
                        have hVs : (U ++ D1).size ≤ 44 * (q + 1) := by
                          have h9 : (U ++ D1).data.toList.length = (U ++ D1).size := rfl
                          rw [hV] at h9; omega
                        have HV := Lib.hid hV
                        have HVs := Lib.hid hVs
                        have m1 : ¬ (9223372036854775807 < U.size + 1) := by omega
                        have m2 : ¬ (9223372036854775807 < U.size + D1.size) := by omega
                        have m3 : ¬ (9223372036854775807 < U.size + 1 + D1.size) := by omega
                        have m4 : ¬ (9223372036854775807 < U.size + D1.size + 1) := by omega
                        have m5 : ¬ (9223372036854775807 < U.size + 1 + D1.size + 1) := by omega
                        have m6 : ¬ (9223372036854775807 < U.size + D1.size + 1 + D2.size) := by omega
                        have m7 : ¬ (9223372036854775807 < U.size + 1 + D1.size + 1 + D2.size) := by omega
                        have hqi : ¬ ((k : Int) < (q : Int)) := by omega
                        clear hV hVs hl2 hon
                        go_wp2_with fail
                        (with_reducible refine (rdigN a D1 HD1 (by omega) (by omega) _).mono ?_); rintro e w5 ⟨rfl, hb5⟩
                        have hB5 := bt hbd hb5
                        go_wp2
                        go_roundw
                        case rel => exact ⟨q + 1, _, by omega, by go_num, rfl, by rw [HV.out]; exact hls2, HVs.out, Lib.hid (fun h => absurd h (by omega)), by rw [HV.out]; exact Lib.hid (fun _ => runTx_ne _ _ _ (dgL_ne a)), hB5⟩
                        case measure => (simp [intOf]) <;> omega
                      · have hem : U.toList.isEmpty = true := by rw [isEmpty_dat, hon]; rfl
                        have hV : (U ++ D1 ++ ⟨#[45]⟩ ++ D2).data.toList = runTx U.data.toList a (q - k) := by
                          rw [runTx_0m hon hqk]
                          rw [← hxa.out]
                          simp only [ByteArray.data_append, Array.toList_append, HT1.out, HT2.out, List.append_assoc]
                          rfl
                        have hVs : (U ++ D1 ++ ⟨#[45]⟩ ++ D2).size ≤ 44 * (q + 1) := by
                          have h9 : (U ++ D1 ++ ⟨#[45]⟩ ++ D2).data.toList.length = (U ++ D1 ++ ⟨#[45]⟩ ++ D2).size := rfl
                          rw [hV] at h9; omega
                        have HV := Lib.hid hV
                        have HVs := Lib.hid hVs
                        have m1 : ¬ (9223372036854775807 < U.size + 1) := by omega
                        have m2 : ¬ (9223372036854775807 < U.size + D1.size) := by omega
                        have m3 : ¬ (9223372036854775807 < U.size + 1 + D1.size) := by omega
                        have m4 : ¬ (9223372036854775807 < U.size + D1.size + 1) := by omega
                        have m5 : ¬ (9223372036854775807 < U.size + 1 + D1.size + 1) := by omega
                        have m6 : ¬ (9223372036854775807 < U.size + D1.size + 1 + D2.size) := by omega
                        have m7 : ¬ (9223372036854775807 < U.size + 1 + D1.size + 1 + D2.size) := by omega
                        have hqi : (k : Int) < (q : Int) := by omega
                        clear hV hVs hl2 hon
                        go_wp2_with fail
                        (with_reducible refine (rdigN a D1 HD1 (by omega) (by omega) _).mono ?_); rintro e w5 ⟨rfl, hb5⟩
                        have hB5 := bt hbd hb5
                        have cq := HCq.out w5 hB5
                        go_wp2_with fail
                        (with_reducible refine (rdigN x D2 HD2 (by omega) (by omega) _).mono ?_); rintro e w6 ⟨rfl, hb6⟩
                        have hB6 := bt hB5 hb6
                        go_wp2
                        go_roundw
                        case rel => exact ⟨q + 1, _, by omega, by go_num, rfl, by rw [HV.out]; exact hls2, HVs.out, Lib.hid (fun h => absurd h (by omega)), by rw [HV.out]; exact Lib.hid (fun _ => runTx_ne _ _ _ (dgL_ne a)), hB6⟩
                        case measure => (simp [intOf]) <;> omega
                    · have hon := ho1.out (by omega)
                      by_cases hqk : q - k = 0
                      · have hem : U.toList.isEmpty = false := by rw [isEmpty_dat]; cases hU : U.data.toList with
                          | nil => exact absurd hU hon
                          | cons _ _ => rfl
                        have hV : (U ++ ⟨#[44]⟩ ++ D1).data.toList = runTx U.data.toList a (q - k) := by
                          rw [runTx_1 hon hqk]
                          simp only [ByteArray.data_append, Array.toList_append, HT1.out, List.append_assoc]
                          try rfl
                        have hVs : (U ++ ⟨#[44]⟩ ++ D1).size ≤ 44 * (q + 1) := by
                          have h9 : (U ++ ⟨#[44]⟩ ++ D1).data.toList.length = (U ++ ⟨#[44]⟩ ++ D1).size := rfl
                          rw [hV] at h9; omega
                        have HV := Lib.hid hV
                        have HVs := Lib.hid hVs
                        have m1 : ¬ (9223372036854775807 < U.size + 1) := by omega
                        have m2 : ¬ (9223372036854775807 < U.size + D1.size) := by omega
                        have m3 : ¬ (9223372036854775807 < U.size + 1 + D1.size) := by omega
                        have m4 : ¬ (9223372036854775807 < U.size + D1.size + 1) := by omega
                        have m5 : ¬ (9223372036854775807 < U.size + 1 + D1.size + 1) := by omega
                        have m6 : ¬ (9223372036854775807 < U.size + D1.size + 1 + D2.size) := by omega
                        have m7 : ¬ (9223372036854775807 < U.size + 1 + D1.size + 1 + D2.size) := by omega
                        have hqi : ¬ ((k : Int) < (q : Int)) := by omega
                        clear hV hVs hl2 hon
                        go_wp2_with fail
                        (with_reducible refine (rdigN a D1 HD1 (by omega) (by omega) _).mono ?_); rintro e w5 ⟨rfl, hb5⟩
                        have hB5 := bt hbd hb5
                        go_wp2
                        go_roundw
                        case rel => exact ⟨q + 1, _, by omega, by go_num, rfl, by rw [HV.out]; exact hls2, HVs.out, Lib.hid (fun h => absurd h (by omega)), by rw [HV.out]; exact Lib.hid (fun _ => runTx_ne _ _ _ (dgL_ne a)), hB5⟩
                        case measure => (simp [intOf]) <;> omega
                      · have hem : U.toList.isEmpty = false := by rw [isEmpty_dat]; cases hU : U.data.toList with
                          | nil => exact absurd hU hon
                          | cons _ _ => rfl
                        have hV : (U ++ ⟨#[44]⟩ ++ D1 ++ ⟨#[45]⟩ ++ D2).data.toList = runTx U.data.toList a (q - k) := by
                          rw [runTx_1m hon hqk]
                          rw [← hxa.out]
                          simp only [ByteArray.data_append, Array.toList_append, HT1.out, HT2.out, List.append_assoc]
                          rfl
                        have hVs : (U ++ ⟨#[44]⟩ ++ D1 ++ ⟨#[45]⟩ ++ D2).size ≤ 44 * (q + 1) := by
                          have h9 : (U ++ ⟨#[44]⟩ ++ D1 ++ ⟨#[45]⟩ ++ D2).data.toList.length = (U ++ ⟨#[44]⟩ ++ D1 ++ ⟨#[45]⟩ ++ D2).size := rfl
                          rw [hV] at h9; omega
                        have HV := Lib.hid hV
                        have HVs := Lib.hid hVs
                        have m1 : ¬ (9223372036854775807 < U.size + 1) := by omega
                        have m2 : ¬ (9223372036854775807 < U.size + D1.size) := by omega
                        have m3 : ¬ (9223372036854775807 < U.size + 1 + D1.size) := by omega
                        have m4 : ¬ (9223372036854775807 < U.size + D1.size + 1) := by omega
                        have m5 : ¬ (9223372036854775807 < U.size + 1 + D1.size + 1) := by omega
                        have m6 : ¬ (9223372036854775807 < U.size + D1.size + 1 + D2.size) := by omega
                        have m7 : ¬ (9223372036854775807 < U.size + 1 + D1.size + 1 + D2.size) := by omega
                        have hqi : (k : Int) < (q : Int) := by omega
                        clear hV hVs hl2 hon
                        go_wp2_with fail
                        (with_reducible refine (rdigN a D1 HD1 (by omega) (by omega) _).mono ?_); rintro e w5 ⟨rfl, hb5⟩
                        have hB5 := bt hbd hb5
                        have cq := HCq.out w5 hB5
                        go_wp2_with fail
                        (with_reducible refine (rdigN x D2 HD2 (by omega) (by omega) _).mono ?_); rintro e w6 ⟨rfl, hb6⟩
                        have hB6 := bt hB5 hb6
                        go_wp2
                        go_roundw
                        case rel => exact ⟨q + 1, _, by omega, by go_num, rfl, by rw [HV.out]; exact hls2, HVs.out, Lib.hid (fun h => absurd h (by omega)), by rw [HV.out]; exact Lib.hid (fun _ => runTx_ne _ _ _ (dgL_ne a)), hB6⟩
                        case measure => (simp [intOf]) <;> omega
                · have hi1 : ¬ ((q : Int) + 1 < (l.length : Int)) := by omega
                  have g1 : decide ((q : Int) + 1 < (l.length : Int)) = false := by simp; omega
                  have hm := Lib.hid (hrun.out.stop (fun z hz => by rw [show k + (q - k) + 1 = q + 1 by omega, List.getElem?_eq_none (by omega)] at hz; cases hz))
                  clear HR3
                  go_wp2
                  go_region
                  have hbd : Below w.heap.size w wr.drew := bt hbi (by exact below_drewN' _ 1)
                  have ck := HCk.out wr.drew hbd
                  have hls2 : Hid (lsL (runTx U.data.toList a (q - k)) (l.drop (q + 1)) = lsL [] l) := Lib.hid (by rw [← hls.out, lsL_run hrun.out hm.out, show k + (q - k) + 1 = q + 1 by omega])
                  have hl2 : (runTx U.data.toList a (q - k)).length ≤ U.data.toList.length + 2 * 21 + 2 := runTx_len U.data.toList a (q - k) 21 (dgL_len a (by omega) (by omega)) (by rw [← hxa.out]; exact dgL_len x (by omega) (by omega))
                  have hUl : U.data.toList.length = U.size := rfl
                  by_cases hk0 : k = 0
                  · have hon := ho0.out hk0
                    clear hk0
                    by_cases hqk : q - k = 0
                    · have hem : U.toList.isEmpty = true := by rw [isEmpty_dat, hon]; rfl
                      have hV : (U ++ D1).data.toList = runTx U.data.toList a (q - k) := by
                        rw [runTx_0 hon hqk]
                        simp only [ByteArray.data_append, Array.toList_append, HT1.out]
                      have hVs : (U ++ D1).size ≤ 44 * (q + 1) := by
                        have h9 : (U ++ D1).data.toList.length = (U ++ D1).size := rfl
                        rw [hV] at h9; omega
                      have HV := Lib.hid hV
                      have HVs := Lib.hid hVs
                      have m1 : ¬ (9223372036854775807 < U.size + 1) := by omega
                      have m2 : ¬ (9223372036854775807 < U.size + D1.size) := by omega
                      have m3 : ¬ (9223372036854775807 < U.size + 1 + D1.size) := by omega
                      have m4 : ¬ (9223372036854775807 < U.size + D1.size + 1) := by omega
                      have m5 : ¬ (9223372036854775807 < U.size + 1 + D1.size + 1) := by omega
                      have m6 : ¬ (9223372036854775807 < U.size + D1.size + 1 + D2.size) := by omega
                      have m7 : ¬ (9223372036854775807 < U.size + 1 + D1.size + 1 + D2.size) := by omega
                      have hqi : ¬ ((k : Int) < (q : Int)) := by omega
                      clear hV hVs hl2 hon
                      go_wp2_with fail
                      (with_reducible refine (rdigN a D1 HD1 (by omega) (by omega) _).mono ?_); rintro e w5 ⟨rfl, hb5⟩
                      have hB5 := bt hbd hb5
                      go_wp2
                      go_roundw
                      case rel => exact ⟨q + 1, _, by omega, by go_num, rfl, by rw [HV.out]; exact hls2, HVs.out, Lib.hid (fun h => absurd h (by omega)), by rw [HV.out]; exact Lib.hid (fun _ => runTx_ne _ _ _ (dgL_ne a)), hB5⟩
                      case measure => (simp [intOf]) <;> omega
                    · have hem : U.toList.isEmpty = true := by rw [isEmpty_dat, hon]; rfl
                      have hV : (U ++ D1 ++ ⟨#[45]⟩ ++ D2).data.toList = runTx U.data.toList a (q - k) := by
                        rw [runTx_0m hon hqk]
                        rw [← hxa.out]
                        simp only [ByteArray.data_append, Array.toList_append, HT1.out, HT2.out, List.append_assoc]
                        rfl
                      have hVs : (U ++ D1 ++ ⟨#[45]⟩ ++ D2).size ≤ 44 * (q + 1) := by
                        have h9 : (U ++ D1 ++ ⟨#[45]⟩ ++ D2).data.toList.length = (U ++ D1 ++ ⟨#[45]⟩ ++ D2).size := rfl
                        rw [hV] at h9; omega
                      have HV := Lib.hid hV
                      have HVs := Lib.hid hVs
                      have m1 : ¬ (9223372036854775807 < U.size + 1) := by omega
                      have m2 : ¬ (9223372036854775807 < U.size + D1.size) := by omega
                      have m3 : ¬ (9223372036854775807 < U.size + 1 + D1.size) := by omega
                      have m4 : ¬ (9223372036854775807 < U.size + D1.size + 1) := by omega
                      have m5 : ¬ (9223372036854775807 < U.size + 1 + D1.size + 1) := by omega
                      have m6 : ¬ (9223372036854775807 < U.size + D1.size + 1 + D2.size) := by omega
                      have m7 : ¬ (9223372036854775807 < U.size + 1 + D1.size + 1 + D2.size) := by omega
                      have hqi : (k : Int) < (q : Int) := by omega
                      clear hV hVs hl2 hon
                      go_wp2_with fail
                      (with_reducible refine (rdigN a D1 HD1 (by omega) (by omega) _).mono ?_); rintro e w5 ⟨rfl, hb5⟩
                      have hB5 := bt hbd hb5
                      have cq := HCq.out w5 hB5
                      go_wp2_with fail
                      (with_reducible refine (rdigN x D2 HD2 (by omega) (by omega) _).mono ?_); rintro e w6 ⟨rfl, hb6⟩
                      have hB6 := bt hB5 hb6
                      go_wp2
                      go_roundw
                      case rel => exact ⟨q + 1, _, by omega, by go_num, rfl, by rw [HV.out]; exact hls2, HVs.out, Lib.hid (fun h => absurd h (by omega)), by rw [HV.out]; exact Lib.hid (fun _ => runTx_ne _ _ _ (dgL_ne a)), hB6⟩
                      case measure => (simp [intOf]) <;> omega
                  · have hon := ho1.out (by omega)
                    by_cases hqk : q - k = 0
                    · have hem : U.toList.isEmpty = false := by rw [isEmpty_dat]; cases hU : U.data.toList with
                        | nil => exact absurd hU hon
                        | cons _ _ => rfl
                      have hV : (U ++ ⟨#[44]⟩ ++ D1).data.toList = runTx U.data.toList a (q - k) := by
                        rw [runTx_1 hon hqk]
                        simp only [ByteArray.data_append, Array.toList_append, HT1.out, List.append_assoc]
                        try rfl
                      have hVs : (U ++ ⟨#[44]⟩ ++ D1).size ≤ 44 * (q + 1) := by
                        have h9 : (U ++ ⟨#[44]⟩ ++ D1).data.toList.length = (U ++ ⟨#[44]⟩ ++ D1).size := rfl
                        rw [hV] at h9; omega
                      have HV := Lib.hid hV
                      have HVs := Lib.hid hVs
                      have m1 : ¬ (9223372036854775807 < U.size + 1) := by omega
                      have m2 : ¬ (9223372036854775807 < U.size + D1.size) := by omega
                      have m3 : ¬ (9223372036854775807 < U.size + 1 + D1.size) := by omega
                      have m4 : ¬ (9223372036854775807 < U.size + D1.size + 1) := by omega
                      have m5 : ¬ (9223372036854775807 < U.size + 1 + D1.size + 1) := by omega
                      have m6 : ¬ (9223372036854775807 < U.size + D1.size + 1 + D2.size) := by omega
                      have m7 : ¬ (9223372036854775807 < U.size + 1 + D1.size + 1 + D2.size) := by omega
                      have hqi : ¬ ((k : Int) < (q : Int)) := by omega
                      clear hV hVs hl2 hon
                      go_wp2_with fail
                      (with_reducible refine (rdigN a D1 HD1 (by omega) (by omega) _).mono ?_); rintro e w5 ⟨rfl, hb5⟩
                      have hB5 := bt hbd hb5
                      go_wp2
                      go_roundw
                      case rel => exact ⟨q + 1, _, by omega, by go_num, rfl, by rw [HV.out]; exact hls2, HVs.out, Lib.hid (fun h => absurd h (by omega)), by rw [HV.out]; exact Lib.hid (fun _ => runTx_ne _ _ _ (dgL_ne a)), hB5⟩
                      case measure => (simp [intOf]) <;> omega
                    · have hem : U.toList.isEmpty = false := by rw [isEmpty_dat]; cases hU : U.data.toList with
                        | nil => exact absurd hU hon
                        | cons _ _ => rfl
                      have hV : (U ++ ⟨#[44]⟩ ++ D1 ++ ⟨#[45]⟩ ++ D2).data.toList = runTx U.data.toList a (q - k) := by
                        rw [runTx_1m hon hqk]
                        rw [← hxa.out]
                        simp only [ByteArray.data_append, Array.toList_append, HT1.out, HT2.out, List.append_assoc]
                        rfl
                      have hVs : (U ++ ⟨#[44]⟩ ++ D1 ++ ⟨#[45]⟩ ++ D2).size ≤ 44 * (q + 1) := by
                        have h9 : (U ++ ⟨#[44]⟩ ++ D1 ++ ⟨#[45]⟩ ++ D2).data.toList.length = (U ++ ⟨#[44]⟩ ++ D1 ++ ⟨#[45]⟩ ++ D2).size := rfl
                        rw [hV] at h9; omega
                      have HV := Lib.hid hV
                      have HVs := Lib.hid hVs
                      have m1 : ¬ (9223372036854775807 < U.size + 1) := by omega
                      have m2 : ¬ (9223372036854775807 < U.size + D1.size) := by omega
                      have m3 : ¬ (9223372036854775807 < U.size + 1 + D1.size) := by omega
                      have m4 : ¬ (9223372036854775807 < U.size + D1.size + 1) := by omega
                      have m5 : ¬ (9223372036854775807 < U.size + 1 + D1.size + 1) := by omega
                      have m6 : ¬ (9223372036854775807 < U.size + D1.size + 1 + D2.size) := by omega
                      have m7 : ¬ (9223372036854775807 < U.size + 1 + D1.size + 1 + D2.size) := by omega
                      have hqi : (k : Int) < (q : Int) := by omega
                      clear hV hVs hl2 hon
                      go_wp2_with fail
                      (with_reducible refine (rdigN a D1 HD1 (by omega) (by omega) _).mono ?_); rintro e w5 ⟨rfl, hb5⟩
                      have hB5 := bt hbd hb5
                      have cq := HCq.out w5 hB5
                      go_wp2_with fail
                      (with_reducible refine (rdigN x D2 HD2 (by omega) (by omega) _).mono ?_); rintro e w6 ⟨rfl, hb6⟩
                      have hB6 := bt hB5 hb6
                      go_wp2
                      go_roundw
                      case rel => exact ⟨q + 1, _, by omega, by go_num, rfl, by rw [HV.out]; exact hls2, HVs.out, Lib.hid (fun h => absurd h (by omega)), by rw [HV.out]; exact Lib.hid (fun _ => runTx_ne _ _ _ (dgL_ne a)), hB6⟩
                      case measure => (simp [intOf]) <;> omega
            · have i2 : ¬ ((k : Int) < (l.length : Int)) := by omega
              obtain rfl : k = l.length := by omega
              have hR := Lib.hid (show listL l = (U.data.toList, 0) by rw [hX.out, ← hls.out, List.drop_length, lsL_nil])
              go_wp2
              go_ret2
              exact RetSE.mk' hR.out hbw
end Go.Proofs.YtngbgchnbcfliaaGreatDoor
