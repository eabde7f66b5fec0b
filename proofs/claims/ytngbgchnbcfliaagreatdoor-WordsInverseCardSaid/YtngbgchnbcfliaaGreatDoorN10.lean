/- words: List of the program. No condition. -/
import Derived.Test.YtngbgchnbcfliaaGreatDoorN8
import Derived.Test.YtngbgchnbcfliaaGreatDoorBl
import Derived.Deep.RegionHeld3
import Derived.Deep.DeepCutAuto
namespace Go.Proofs.YtngbgchnbcfliaaGreatDoor
open Go.RowKit
abbrev ivs (l : List Int) : List Value := l.map (Value.int .i64)
theorem ivAt {w : World} {B n k : Nat} {A : Option Addr} {l : List Int} (h : Reads w B 1 A n (ivs l)) (hk : k < l.length) :
    ∃ b off x, A = some ⟨b, off, none⟩ ∧ b < B ∧ w.cell? ⟨b, off + k, none⟩ = some (.int .i64 x) ∧ Hid (l[k]? = some x) := by
  have h1 := h.1
  simp at h1
  obtain ⟨b, off, e, hb, hc⟩ := h.2 (by omega)
  refine ⟨b, off, l[k], e, hb, hc k _ ?_, Lib.hid (List.getElem?_eq_getElem hk)⟩
  simp [hk]
theorem itoa_ (n : Int) (x : ByteArray) (hx : Hid (x = Dg n)) (h0 : -9223372036854775808 ≤ n) (h1 : n ≤ 9223372036854775807) (w : World) (hP : Pow w) :
    Calls Tryz.prog 24 #[.int .i64 n] w fun e w' => e = .returned (.string x) ∧ Below w.heap.size w w' := by
  rw [hx.out]
  refine (Tryz.strconv_Itoa n h0 h1 w hP).mono ?_
  rintro e w' ⟨rfl, k, os, rfl⟩
  exact ⟨rfl, grow_below _ _ _⟩
theorem bl_len (w wr : World) (b : Nat) (l : List UInt8) (h : Bl w wr b l) :
    Calls Tryz.prog 21 #[.pointer (some ⟨b, 0, none⟩)] wr fun e w' => e = .returned (.int .i64 (l.length : Nat)) ∧ w' = wr := by
  refine (Tryz.Builder_Len_f w.heap.size b _ wr h).mono ?_
  rintro e w' ⟨rfl, rfl⟩
  exact ⟨by rw [Lib.byteCells_length], rfl⟩
def fmI (b : Bool) : Int := if b = true then 0 else 6
theorem fm_step {l : List Int} {k : Nat} {y x : Int} {fm : Int} (h : fm = fmI (ascB (l.take (k + 1)))) (hk : l[k]? = some y) (hk1 : l[k + 1]? = some x) (hl : y < x) : fm = fmI (ascB (l.take (k + 2))) := by
  rw [ascB_take hk hk1, h]; simp [hl]
theorem fm_bad {l : List Int} {k : Nat} {y x : Int} (hk : l[k]? = some y) (hk1 : l[k + 1]? = some x) (hl : x ≤ y) : 6 = fmI (ascB (l.take (k + 2))) := by
  rw [ascB_take hk hk1, show decide (y < x) = false by simp; omega]; simp [fmI]
theorem fm_one {l : List Int} {fm : Int} (h : fm = fmI (ascB (l.take 0))) : fm = fmI (ascB (l.take 1)) := by
  rw [h, ascB_one _ (by simp), ascB_one _ (by simp; omega)]
abbrev RetSE (w : World) (r : List UInt8 × Int) (e : Ending) (w' : World) : Prop := e = .returned (.tuple #[.string ⟨r.1.toArray⟩, .int .i64 r.2]) ∧ Below w.heap.size w w'
theorem RetSE.mk' {w w' : World} {r : List UInt8 × Int} {F : ByteArray} {k : Int} (h : r = (F.data.toList, k)) (hb : Below w.heap.size w w') : RetSE w r (.returned (.tuple #[.string F, .int .i64 k])) w' := by
  subst h; exact ⟨by simp only [Array.toArray_toList], hb⟩
theorem bl_comma (w wr : World) (b : Nat) (l : List UInt8) (h : Bl w wr b l) (hb : Below w.heap.size w wr) (hlen : l.length + 1 ≤ 140737488355328) :
    Calls Tryz.prog 22 #[.pointer (some ⟨b, 0, none⟩), .int .u8 44] wr fun e w' => e = .returned .nilIface ∧ Bl w w' b (l ++ [44]) ∧ Below w.heap.size w w' :=
  (bl_byte w wr b l 44 h hb hlen).mono fun _ _ ⟨h1, h2, h3, _⟩ => ⟨h1, h2, h3⟩
theorem bl_writeT (w wr : World) (b : Nat) (l T : List UInt8) (s : ByteArray) (hT : Hid (s.data.toList = T)) (h : Bl w wr b l) (hb : Below w.heap.size w wr) (hlen : l.length + s.size ≤ 140737488355328) :
    Calls Tryz.prog 23 #[.pointer (some ⟨b, 0, none⟩), .string s] wr fun e w' => (∃ v, e = .returned v) ∧ Bl w w' b (l ++ T) ∧ Below w.heap.size w w' :=
  (bl_write w wr b l s h hb hlen).mono fun _ _ ⟨h1, h2, h3, _⟩ => ⟨⟨_, h1⟩, by rw [← hT.out]; exact h2, h3⟩
theorem runTx_0 {out : List UInt8} {a : Int} {m : Nat} (ho : out = []) (hm : m = 0) : runTx out a m = out ++ dgL a := by subst ho hm; simp [runTx]
theorem runTx_0m {out : List UInt8} {a : Int} {m : Nat} (ho : out = []) (hm : m ≠ 0) : runTx out a m = out ++ dgL a ++ (45 :: dgL (a + m)) := by subst ho; simp [runTx, hm]
theorem runTx_1 {out : List UInt8} {a : Int} {m : Nat} (ho : out ≠ []) (hm : m = 0) : runTx out a m = out ++ [44] ++ dgL a := by subst hm; simp [runTx, ho]
theorem runTx_1m {out : List UInt8} {a : Int} {m : Nat} (ho : out ≠ []) (hm : m ≠ 0) : runTx out a m = out ++ [44] ++ dgL a ++ (45 :: dgL (a + m)) := by simp [runTx, ho, hm]
theorem dgL_len (n : Int) (h0 : -9223372036854775808 ≤ n) (h1 : n ≤ 9223372036854775807) : (dgL n).length ≤ 21 := by
  have := Dg_size n h0 h1
  exact this
theorem decD_ne (u : Nat) : Lib.decDigits u ≠ [] := by
  unfold Lib.decDigits
  split <;> simp
theorem dash_dat {D : ByteArray} {T : List UInt8} (h : Hid (D.data.toList = T)) : ((⟨#[45]⟩ : ByteArray) ++ D).data.toList = 45 :: T := by
  rw [ByteArray.data_append, Array.toList_append, h.out]; rfl
theorem dash_size {D : ByteArray} (h : D.size ≤ 21) : ((⟨#[45]⟩ : ByteArray) ++ D).size ≤ 22 := by
  rw [ByteArray.size_append]
  have : (⟨#[45]⟩ : ByteArray).size = 1 := rfl
  omega
theorem dgL_ne (n : Int) : dgL n ≠ [] := by
  unfold dgL Lib.itoa
  split
  · simp
  · exact decD_ne _
--WALK
set_option maxRecDepth 100000 in
set_option maxHeartbeats 4000000 in
theorem list_ (w : World) (A : Option Addr) (c : Nat) (l : List Int) (h : Reads w w.heap.size 1 A l.length (ivs l)) (hP : Pow w) :
    Calls Tryz.prog 7 #[.slice A l.length c] w (RetSE w (listL l)) := by
  by_cases h5 : 500 < l.length
  · have hR := Lib.hid (listL_long h5)
    have i5 : (500 : Int) < (l.length : Int) := by omega
    clear h h5
    go_enter Tryz.func7, Tryz.ntmps7
    go_wp2
    go_ret2
    exact RetSE.mk' hR.out (Below.refl _ _)
  have i5 : ¬ ((500 : Int) < (l.length : Int)) := by omega
  have HR := Lib.hid h
  have hI := bld_newb (Below.refl w.heap.size w)
  have HI := Lib.hid hI
  clear h hI
  go_enter Tryz.func7, Tryz.ntmps7
  go_wp2
  go_loopw [4, 6] (fun f i wr => ∃ (k : Nat) (fm : Int), k ≤ l.length ∧ i = .int .i64 k ∧ f = .int .i64 fm ∧ Hid (fm = fmI (ascB (l.take k))) ∧ Hid (rngB (l.take k) = true) ∧ wr = w.alloc (.cells #[.pointer none, .slice none 0 0] bT)) (fun _ i _ => l.length - (intOf i).toNat)
  case atStart => exact ⟨0, 0, Nat.zero_le _, rfl, rfl, Lib.hid (by rfl), Lib.hid (by rfl), rfl⟩
  case round =>
    obtain ⟨k, fm, hk, rfl, rfl, hfm, hrg, rfl⟩ := hrel
    by_cases hlt : k < l.length
    · have i1 : (k : Int) < (l.length : Int) := by omega
      have HR2 := (HR.out.al (.cells #[.pointer none, .slice none 0 0] bT))
      obtain ⟨b, off, x, rfl, hb, hc, hx⟩ := ivAt HR2 hlt
      by_cases hx0 : x < 0
      · have hR := Lib.hid (listL_rng h5 (rngB_no hx.out (by omega)))
        clear HR2
        go_wp2
        go_ret2
        exact RetSE.mk' hR.out (ba (Below.refl _ _) _)
      by_cases hx1 : 1000000000 < x
      · have hR := Lib.hid (listL_rng h5 (rngB_no hx.out (by omega)))
        clear HR2
        go_wp2
        go_ret2
        exact RetSE.mk' hR.out (ba (Below.refl _ _) _)
      have hrg2 := Lib.hid (rngB_step hrg.out hx.out (by omega))
      by_cases hk0 : k = 0
      · subst hk0
        rw [Nat.add_zero] at hc
        have hf2 := Lib.hid (fm_one hfm.out)
        clear HR2
        go_wp2
        go_roundw
        case rel => exact ⟨1, fm, by omega, by go_num, rfl, hf2, hrg2, trivial⟩
        case measure => simp [intOf]; omega
      · obtain ⟨j, rfl⟩ : ∃ j, k = j + 1 := ⟨k - 1, by omega⟩
        obtain ⟨b', off', y, hA, hb', hc', hy⟩ := ivAt HR2 (k := j) (by omega)
        injection hA with hA; injection hA with a1 a2; subst a1 a2
        have e1 : ((j + 1 : Nat) : Int) - 1 = (j : Int) := by omega
        have i0 : (0 : Int) < ((j + 1 : Nat) : Int) := by omega
        by_cases hxy : x ≤ y
        · have hf2 := Lib.hid (fm_bad hy.out hx.out hxy)
          clear HR2
          go_wp2
          go_roundw
          case rel => exact ⟨j + 2, 6, by omega, by go_num, rfl, hf2, hrg2, trivial⟩
          case measure => simp [intOf]; omega
        · have hf2 := Lib.hid (fm_step hfm.out hy.out hx.out (by omega))
          clear HR2
          go_wp2
          go_roundw
          case rel => exact ⟨j + 2, fm, by omega, by go_num, rfl, hf2, hrg2, trivial⟩
          case measure => simp [intOf]; omega
    · have i1 : ¬ ((k : Int) < (l.length : Int)) := by omega
      obtain rfl : k = l.length := by omega
      have hfm2 := hfm.out
      have hrg2 := hrg.out
      rw [List.take_length] at hfm2 hrg2
      have Hrg := Lib.hid hrg2
      clear hfm hrg hrg2 hk
      rcases hasc : ascB l with _ | _
      · have hf6 : fm = 6 := by rw [hfm2, hasc]; rfl
        subst hf6
        have hR := Lib.hid (listL_asc h5 Hrg.out hasc)
        have hl0 : l.length ≠ 0 := by intro e; rw [ascB_one l (by omega)] at hasc; cases hasc
        have j0 : (0 : Int) < (l.length : Int) := by omega
        clear hfm2 hasc
        go_wp2
        go_loopw [8] (fun i wr => i = .int .i64 0 ∧ wr = w.alloc (.cells #[.pointer none, .slice none 0 0] bT)) (fun _ _ => 0)
        case atStart => exact ⟨rfl, rfl⟩
        case round =>
          obtain ⟨rfl, rfl⟩ := hrel
          go_wp2
          go_ret2
          exact RetSE.mk' hR.out (ba (Below.refl _ _) _)
      · have hf0 : fm = 0 := by rw [hfm2, hasc]; rfl
        subst hf0
        have hln : l.length ≤ 500 := by omega
        have Hasc := Lib.hid hasc
        have hsz1 : w.heap.size < (w.alloc (.cells #[.pointer none, .slice none 0 0] bT)).heap.size := by simp
        clear hfm2 hasc
        go_wp2
        go_loopw [8, 9] (fun i f wr => ∃ (k : Nat) (out : List UInt8), k ≤ l.length ∧ i = .int .i64 k ∧ Hid (Bl w wr w.heap.size out) ∧ Below w.heap.size w wr ∧ Hid (lsL out (l.drop k) = lsL [] l) ∧ out.length ≤ 44 * k ∧ Hid (k = 0 → out = []) ∧ Hid (0 < k → out ≠ [])) (fun i _ _ => l.length - (intOf i).toNat)
        case atStart => exact ⟨0, [], Nat.zero_le _, rfl, HI, ba (Below.refl _ _) _, Lib.hid (by rfl), by simp, Lib.hid (fun _ => rfl), Lib.hid (fun h => absurd h (by omega))⟩
        case round =>
          obtain ⟨k, out, hk, rfl, hBl, hbw, hls, hol, ho0, ho1⟩ := hrel
          by_cases hlt : k < l.length
          · have i2 : (k : Int) < (l.length : Int) := by omega
            have HR2 := HR.out.below hbw
            obtain ⟨b, off, a, rfl, hb, hc, ha⟩ := ivAt HR2 hlt
            have hrng := rngB_at Hrg.out ha.out
            have hst := Lib.hid (RunAt.start ha.out)
            clear HR2
            go_wp2
            go_loopw [8] (fun i wi => ∃ q : Nat, k ≤ q ∧ i = .int .i64 q ∧ Hid (RunAt l k (q - k) a) ∧ Hid (Bl w wi w.heap.size out) ∧ Below w.heap.size w wi) (fun i _ => l.length - (intOf i).toNat)
            case atStart => exact ⟨k, Nat.le_refl _, rfl, by rw [Nat.sub_self]; exact hst, hBl, hbw⟩
            case round =>
              clear hst hc hBl hbw
              obtain ⟨q, hkq, rfl, hrun, hBi, hbi⟩ := hrel
              have hq0 : k + (q - k) = q := by omega
              have hr1 := hrun.out.2.1
              have hr2 := hrun.out.2.2.1
              rw [hq0] at hr1 hr2
              have HR3 := HR.out.below hbi
              obtain ⟨b1, o1, x, hA, hb1, hc1, hx⟩ := ivAt HR3 hr1
              injection hA with hA; injection hA with a1 a2; subst a1 a2
              have hxa := Lib.hid (Option.some.inj (hx.out.symm.trans hr2))
              have hxr := rngB_at Hrg.out hx.out
              obtain ⟨b4, o4, x4, hA4, hb4, hc4, hx4⟩ := ivAt HR.out hr1
              injection hA4 with hA4; injection hA4 with a1 a2; subst a1 a2
              obtain rfl : x = x4 := Option.some.inj (hx.out.symm.trans hx4.out)
              have HCq := Lib.hid (fun (W : World) (hb : Below w.heap.size w W) => (hb.cell (p := ⟨b, off + q, none⟩) hb4).trans hc4)
              clear hc4 hx4
              obtain ⟨D1, hD1⟩ : ∃ D, D = Dg a := ⟨_, rfl⟩
              obtain ⟨D2, hD2⟩ : ∃ D, D = Dg x := ⟨_, rfl⟩
              have s1 : D1.size ≤ 21 := hD1 ▸ Dg_size a (by omega) (by omega)
              have s2 : D2.size ≤ 21 := hD2 ▸ Dg_size x (by omega) (by omega)
              have HT1 : Hid (D1.data.toList = dgL a) := Lib.hid (by rw [hD1]; rfl)
              have HT2 : Hid (D2.data.toList = dgL x) := Lib.hid (by rw [hD2]; rfl)
              have dl1 := dgL_len a (by omega) (by omega)
              have s45 := dash_size (D := D2) s2
              have lo1 : (out ++ [44]).length = out.length + 1 := by simp
              have lo2 : (out ++ dgL a).length = out.length + (dgL a).length := List.length_append
              have lo3 : (out ++ [44] ++ dgL a).length = out.length + 1 + (dgL a).length := by rw [List.length_append, lo1]
              have HD1 := Lib.hid hD1
              have HD2 := Lib.hid hD2
              clear hD1 hD2
              clear hr2 hq0
              have w1 : IntKind.i64.wrap ((q : Int) + 1) = (q : Int) + 1 := IntWalk.i64_in _ (by omega)
              have w2 : IntKind.i64.wrap (x + 1) = x + 1 := IntWalk.i64_in _ (by omega)
              by_cases hn : q + 1 < l.length
              · obtain ⟨b2, o2, y, hA, hb2, hc2, hy⟩ := ivAt HR3 hn
                injection hA with hA; injection hA with a1 a2; subst a1 a2
                have hi1 : (q : Int) + 1 < (l.length : Int) := by omega
                have hi2 : (q : Int) < (l.length : Int) := by omega
                have hi3 : (0 : Int) ≤ (q : Int) + 1 := by omega
                have hi4 : ((q : Int) + 1).toNat = q + 1 := by omega
                have g1 : decide ((q : Int) + 1 < (l.length : Int)) = true := by simp; omega
                clear HR3
                by_cases hxy : y = x + 1
                · have g2 : (y == x + 1) = true := by rw [hxy]; simp
                  have hrn := Lib.hid (hrun.out.next (x := y) (by rw [show k + (q - k) + 1 = q + 1 by omega]; exact hy.out) (by rw [hxy, hxa.out]))
                  go_wp2
                  go_region
                  go_wp2
                  go_roundw
                  case rel => exact ⟨q + 1, by omega, by go_num, by rw [show q + 1 - k = q - k + 1 by omega]; exact hrn, Lib.hid (hBi.out.below (by exact below_drewN' _ _)), bt hbi (by exact below_drewN' _ _)⟩
                  case measure => simp [intOf]; omega
                · have g2 : (y == x + 1) = false := by rw [beq_eq_false_iff_ne]; exact hxy
                  have hm := Lib.hid (hrun.out.stop (fun z hz => by rw [show k + (q - k) + 1 = q + 1 by omega, hy.out] at hz; injection hz with hz; rw [← hz, ← hxa.out]; exact hxy))
                  have hBd : Bl w wr.drew w.heap.size out := hBi.out.below (by exact below_drewN' _ 1)
                  have hbd : Below w.heap.size w wr.drew := bt hbi (by exact below_drewN' _ 1)
                  clear hxy
                  go_wp2
                  go_region
                  have hls2 : Hid (lsL (runTx out a (q - k)) (l.drop (q + 1)) = lsL [] l) := Lib.hid (by rw [← hls.out, lsL_run hrun.out hm.out, show k + (q - k) + 1 = q + 1 by omega])
                  have hl2 : (runTx out a (q - k)).length ≤ out.length + 2 * 21 + 2 := runTx_len out a (q - k) 21 (dgL_len a (by omega) (by omega)) (by rw [← hxa.out]; exact dgL_len x (by omega) (by omega))
                  by_cases hk0 : k = 0
                  · have hon := ho0.out hk0
                    have i3 : ¬ ((0 : Int) < ((out.length : Nat) : Int)) := by rw [hon]; simp
                    go_wp2_with fail
                    (with_reducible refine (bl_len w _ _ out hBd).mono ?_); rintro e w3 ⟨rfl, hw3⟩; subst hw3
                    go_wp2_with fail
                    by_cases hqk : q - k = 0
                    · have i4 : ¬ (a < x) := by have := hxa.out; omega
                      (with_reducible refine (itoa_ a D1 HD1 (by omega) (by omega) _ (hP.below hbd)).mono ?_); rintro e w5 ⟨rfl, hb5⟩
                      have hB5 := hBd.below hb5
                      have hb4 := hbd
                      go_wp2_with fail
                      (with_reducible refine (bl_writeT w _ _ _ (dgL a) D1 HT1 hB5 (bt hb4 hb5) (by omega)).mono ?_); rintro e w6 ⟨⟨_, rfl⟩, hB6, hb6⟩
                      have cq := HCq.out w6 hb6
                      have hB8 := hB6
                      have hb8 := hb6
                      have hE : runTx out a (q - k) = _ := runTx_0 hon hqk
                      rw [← hE] at hB8
                      have HB8 := Lib.hid hB8
                      clear hB8 hE
                      go_wp2
                      go_roundw
                      case rel => exact ⟨q + 1, runTx out a (q - k), by omega, by go_num, HB8, hb8, hls2, by omega, Lib.hid (fun h => absurd h (by omega)), Lib.hid (fun _ => runTx_ne _ _ _ (dgL_ne a))⟩
                      case measure => simp [intOf]; omega
                    · have i4 : a < x := by have := hxa.out; omega
                      (with_reducible refine (itoa_ a D1 HD1 (by omega) (by omega) _ (hP.below hbd)).mono ?_); rintro e w5 ⟨rfl, hb5⟩
                      have hB5 := hBd.below hb5
                      have hb4 := hbd
                      go_wp2_with fail
                      (with_reducible refine (bl_writeT w _ _ _ (dgL a) D1 HT1 hB5 (bt hb4 hb5) (by omega)).mono ?_); rintro e w6 ⟨⟨_, rfl⟩, hB6, hb6⟩
                      have cq := HCq.out w6 hb6
                      go_wp2_with fail
                      (with_reducible refine (itoa_ x D2 HD2 (by omega) (by omega) _ (hP.below hb6)).mono ?_); rintro e w7 ⟨rfl, hb7⟩
                      have hB7 := hB6.below hb7
                      clear cq
                      go_wp2_with fail
                      (with_reducible refine (bl_writeT w _ _ _ (45 :: dgL x) _ (Lib.hid (dash_dat HT2)) hB7 (bt hb6 hb7) (by omega)).mono ?_); rintro e w8 ⟨⟨_, rfl⟩, hB8, hb8⟩
                      have hE : runTx out a (q - k) = _ := runTx_0m hon hqk
                      rw [← hxa.out] at hE
                      rw [← hE] at hB8
                      have HB8 := Lib.hid hB8
                      clear hB8 hE
                      go_wp2
                      go_roundw
                      case rel => exact ⟨q + 1, runTx out a (q - k), by omega, by go_num, HB8, hb8, hls2, by omega, Lib.hid (fun h => absurd h (by omega)), Lib.hid (fun _ => runTx_ne _ _ _ (dgL_ne a))⟩
                      case measure => simp [intOf]; omega
                  · have hon := ho1.out (by omega)
                    have i3 : (0 : Int) < ((out.length : Nat) : Int) := by have := List.length_pos_iff.2 hon; omega
                    go_wp2_with fail
                    (with_reducible refine (bl_len w _ _ out hBd).mono ?_); rintro e w3 ⟨rfl, hw3⟩; subst hw3
                    go_wp2_with fail
                    by_cases hqk : q - k = 0
                    · have i4 : ¬ (a < x) := by have := hxa.out; omega
                      (with_reducible refine (bl_comma w _ _ out hBd hbd (by omega)).mono ?_); rintro e w4 ⟨rfl, hB4, hb4⟩
                      go_wp2_with fail
                      (with_reducible refine (itoa_ a D1 HD1 (by omega) (by omega) _ (hP.below hb4)).mono ?_); rintro e w5 ⟨rfl, hb5⟩
                      have hB5 := hB4.below hb5
                      go_wp2_with fail
                      (with_reducible refine (bl_writeT w _ _ _ (dgL a) D1 HT1 hB5 (bt hb4 hb5) (by omega)).mono ?_); rintro e w6 ⟨⟨_, rfl⟩, hB6, hb6⟩
                      have cq := HCq.out w6 hb6
                      have hB8 := hB6
                      have hb8 := hb6
                      have hE : runTx out a (q - k) = _ := runTx_1 hon hqk
                      rw [← hE] at hB8
                      have HB8 := Lib.hid hB8
                      clear hB8 hE
                      go_wp2
                      go_roundw
                      case rel => exact ⟨q + 1, runTx out a (q - k), by omega, by go_num, HB8, hb8, hls2, by omega, Lib.hid (fun h => absurd h (by omega)), Lib.hid (fun _ => runTx_ne _ _ _ (dgL_ne a))⟩
                      case measure => simp [intOf]; omega
                    · have i4 : a < x := by have := hxa.out; omega
                      (with_reducible refine (bl_comma w _ _ out hBd hbd (by omega)).mono ?_); rintro e w4 ⟨rfl, hB4, hb4⟩
                      go_wp2_with fail
                      (with_reducible refine (itoa_ a D1 HD1 (by omega) (by omega) _ (hP.below hb4)).mono ?_); rintro e w5 ⟨rfl, hb5⟩
                      have hB5 := hB4.below hb5
                      go_wp2_with fail
                      (with_reducible refine (bl_writeT w _ _ _ (dgL a) D1 HT1 hB5 (bt hb4 hb5) (by omega)).mono ?_); rintro e w6 ⟨⟨_, rfl⟩, hB6, hb6⟩
                      have cq := HCq.out w6 hb6
                      go_wp2_with fail
                      (with_reducible refine (itoa_ x D2 HD2 (by omega) (by omega) _ (hP.below hb6)).mono ?_); rintro e w7 ⟨rfl, hb7⟩
                      have hB7 := hB6.below hb7
                      clear cq
                      go_wp2_with fail
                      (with_reducible refine (bl_writeT w _ _ _ (45 :: dgL x) _ (Lib.hid (dash_dat HT2)) hB7 (bt hb6 hb7) (by omega)).mono ?_); rintro e w8 ⟨⟨_, rfl⟩, hB8, hb8⟩
                      have hE : runTx out a (q - k) = _ := runTx_1m hon hqk
                      rw [← hxa.out] at hE
                      rw [← hE] at hB8
                      have HB8 := Lib.hid hB8
                      clear hB8 hE
                      go_wp2
                      go_roundw
                      case rel => exact ⟨q + 1, runTx out a (q - k), by omega, by go_num, HB8, hb8, hls2, by omega, Lib.hid (fun h => absurd h (by omega)), Lib.hid (fun _ => runTx_ne _ _ _ (dgL_ne a))⟩
                      case measure => simp [intOf]; omega
              · have hi1 : ¬ ((q : Int) + 1 < (l.length : Int)) := by omega
                have g1 : decide ((q : Int) + 1 < (l.length : Int)) = false := by simp; omega
                have hm := Lib.hid (hrun.out.stop (fun z hz => by rw [show k + (q - k) + 1 = q + 1 by omega, List.getElem?_eq_none (by omega)] at hz; cases hz))
                have hBd : Bl w wr.drew w.heap.size out := hBi.out.below (by exact below_drewN' _ 1)
                have hbd : Below w.heap.size w wr.drew := bt hbi (by exact below_drewN' _ 1)
                clear HR3
                go_wp2
                go_region
                have hls2 : Hid (lsL (runTx out a (q - k)) (l.drop (q + 1)) = lsL [] l) := Lib.hid (by rw [← hls.out, lsL_run hrun.out hm.out, show k + (q - k) + 1 = q + 1 by omega])
                have hl2 : (runTx out a (q - k)).length ≤ out.length + 2 * 21 + 2 := runTx_len out a (q - k) 21 (dgL_len a (by omega) (by omega)) (by rw [← hxa.out]; exact dgL_len x (by omega) (by omega))
                by_cases hk0 : k = 0
                · have hon := ho0.out hk0
                  have i3 : ¬ ((0 : Int) < ((out.length : Nat) : Int)) := by rw [hon]; simp
                  go_wp2_with fail
                  (with_reducible refine (bl_len w _ _ out hBd).mono ?_); rintro e w3 ⟨rfl, hw3⟩; subst hw3
                  go_wp2_with fail
                  by_cases hqk : q - k = 0
                  · have i4 : ¬ (a < x) := by have := hxa.out; omega
                    (with_reducible refine (itoa_ a D1 HD1 (by omega) (by omega) _ (hP.below hbd)).mono ?_); rintro e w5 ⟨rfl, hb5⟩
                    have hB5 := hBd.below hb5
                    have hb4 := hbd
                    go_wp2_with fail
                    (with_reducible refine (bl_writeT w _ _ _ (dgL a) D1 HT1 hB5 (bt hb4 hb5) (by omega)).mono ?_); rintro e w6 ⟨⟨_, rfl⟩, hB6, hb6⟩
                    have cq := HCq.out w6 hb6
                    have hB8 := hB6
                    have hb8 := hb6
                    have hE : runTx out a (q - k) = _ := runTx_0 hon hqk
                    rw [← hE] at hB8
                    have HB8 := Lib.hid hB8
                    clear hB8 hE
                    go_wp2
                    go_roundw
                    case rel => exact ⟨q + 1, runTx out a (q - k), by omega, by go_num, HB8, hb8, hls2, by omega, Lib.hid (fun h => absurd h (by omega)), Lib.hid (fun _ => runTx_ne _ _ _ (dgL_ne a))⟩
                    case measure => simp [intOf]; omega
                  · have i4 : a < x := by have := hxa.out; omega
                    (with_reducible refine (itoa_ a D1 HD1 (by omega) (by omega) _ (hP.below hbd)).mono ?_); rintro e w5 ⟨rfl, hb5⟩
                    have hB5 := hBd.below hb5
                    have hb4 := hbd
                    go_wp2_with fail
                    (with_reducible refine (bl_writeT w _ _ _ (dgL a) D1 HT1 hB5 (bt hb4 hb5) (by omega)).mono ?_); rintro e w6 ⟨⟨_, rfl⟩, hB6, hb6⟩
                    have cq := HCq.out w6 hb6
                    go_wp2_with fail
                    (with_reducible refine (itoa_ x D2 HD2 (by omega) (by omega) _ (hP.below hb6)).mono ?_); rintro e w7 ⟨rfl, hb7⟩
                    have hB7 := hB6.below hb7
                    clear cq
                    go_wp2_with fail
                    (with_reducible refine (bl_writeT w _ _ _ (45 :: dgL x) _ (Lib.hid (dash_dat HT2)) hB7 (bt hb6 hb7) (by omega)).mono ?_); rintro e w8 ⟨⟨_, rfl⟩, hB8, hb8⟩
                    have hE : runTx out a (q - k) = _ := runTx_0m hon hqk
                    rw [← hxa.out] at hE
                    rw [← hE] at hB8
                    have HB8 := Lib.hid hB8
                    clear hB8 hE
                    go_wp2
                    go_roundw
                    case rel => exact ⟨q + 1, runTx out a (q - k), by omega, by go_num, HB8, hb8, hls2, by omega, Lib.hid (fun h => absurd h (by omega)), Lib.hid (fun _ => runTx_ne _ _ _ (dgL_ne a))⟩
                    case measure => simp [intOf]; omega
                · have hon := ho1.out (by omega)
                  have i3 : (0 : Int) < ((out.length : Nat) : Int) := by have := List.length_pos_iff.2 hon; omega
                  go_wp2_with fail
                  (with_reducible refine (bl_len w _ _ out hBd).mono ?_); rintro e w3 ⟨rfl, hw3⟩; subst hw3
                  go_wp2_with fail
                  by_cases hqk : q - k = 0
                  · have i4 : ¬ (a < x) := by have := hxa.out; omega
                    (with_reducible refine (bl_comma w _ _ out hBd hbd (by omega)).mono ?_); rintro e w4 ⟨rfl, hB4, hb4⟩
                    go_wp2_with fail
                    (with_reducible refine (itoa_ a D1 HD1 (by omega) (by omega) _ (hP.below hb4)).mono ?_); rintro e w5 ⟨rfl, hb5⟩
                    have hB5 := hB4.below hb5
                    go_wp2_with fail
                    (with_reducible refine (bl_writeT w _ _ _ (dgL a) D1 HT1 hB5 (bt hb4 hb5) (by omega)).mono ?_); rintro e w6 ⟨⟨_, rfl⟩, hB6, hb6⟩
                    have cq := HCq.out w6 hb6
                    have hB8 := hB6
                    have hb8 := hb6
                    have hE : runTx out a (q - k) = _ := runTx_1 hon hqk
                    rw [← hE] at hB8
                    have HB8 := Lib.hid hB8
                    clear hB8 hE
                    go_wp2
                    go_roundw
                    case rel => exact ⟨q + 1, runTx out a (q - k), by omega, by go_num, HB8, hb8, hls2, by omega, Lib.hid (fun h => absurd h (by omega)), Lib.hid (fun _ => runTx_ne _ _ _ (dgL_ne a))⟩
                    case measure => simp [intOf]; omega
                  · have i4 : a < x := by have := hxa.out; omega
                    (with_reducible refine (bl_comma w _ _ out hBd hbd (by omega)).mono ?_); rintro e w4 ⟨rfl, hB4, hb4⟩
                    go_wp2_with fail
                    (with_reducible refine (itoa_ a D1 HD1 (by omega) (by omega) _ (hP.below hb4)).mono ?_); rintro e w5 ⟨rfl, hb5⟩
                    have hB5 := hB4.below hb5
                    go_wp2_with fail
                    (with_reducible refine (bl_writeT w _ _ _ (dgL a) D1 HT1 hB5 (bt hb4 hb5) (by omega)).mono ?_); rintro e w6 ⟨⟨_, rfl⟩, hB6, hb6⟩
                    have cq := HCq.out w6 hb6
                    go_wp2_with fail
                    (with_reducible refine (itoa_ x D2 HD2 (by omega) (by omega) _ (hP.below hb6)).mono ?_); rintro e w7 ⟨rfl, hb7⟩
                    have hB7 := hB6.below hb7
                    clear cq
                    go_wp2_with fail
                    (with_reducible refine (bl_writeT w _ _ _ (45 :: dgL x) _ (Lib.hid (dash_dat HT2)) hB7 (bt hb6 hb7) (by omega)).mono ?_); rintro e w8 ⟨⟨_, rfl⟩, hB8, hb8⟩
                    have hE : runTx out a (q - k) = _ := runTx_1m hon hqk
                    rw [← hxa.out] at hE
                    rw [← hE] at hB8
                    have HB8 := Lib.hid hB8
                    clear hB8 hE
                    go_wp2
                    go_roundw
                    case rel => exact ⟨q + 1, runTx out a (q - k), by omega, by go_num, HB8, hb8, hls2, by omega, Lib.hid (fun h => absurd h (by omega)), Lib.hid (fun _ => runTx_ne _ _ _ (dgL_ne a))⟩
                    case measure => simp [intOf]; omega
          · have i2 : ¬ ((k : Int) < (l.length : Int)) := by omega
            obtain rfl : k = l.length := by omega
            have hout : lsL [] l = out := by rw [← hls.out, List.drop_length, lsL_nil]
            by_cases hl0 : l = []
            · have hR := Lib.hid (show listL l = ([45], 0) by rw [hl0]; exact listL_nil)
              have j0 : ((l.length : Nat) : Int) = 0 := by rw [hl0]; rfl
              have j1 : (((l.length : Nat) : Int) == 0) = true := by rw [j0]; rfl
              clear j0 hl0 hout
              go_wp2
              go_ret2
              exact RetSE.mk' hR.out hbw
            · have hR := Lib.hid (show listL l = (out, 0) by rw [listL_ok h5 Hrg.out Hasc.out hl0, hout])
              have j1 : (((l.length : Nat) : Int) == 0) = false := by rw [beq_eq_false_iff_ne]; intro e; exact hl0 (List.eq_nil_of_length_eq_zero (by omega))
              clear hl0 hout
              go_wp2_with fail
              (with_reducible refine (bl_string w _ _ out hBl.out hbw).mono ?_); rintro e w9 ⟨rfl, hB9, hb9, _⟩
              go_wp2
              go_ret2
              exact RetSE.mk' hR.out hb9
end Go.Proofs.YtngbgchnbcfliaaGreatDoor
