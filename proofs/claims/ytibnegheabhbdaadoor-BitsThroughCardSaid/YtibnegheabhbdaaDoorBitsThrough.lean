/- BitsThrough: Shift and Back undo each other, and shifts lead from one row through to another. -/
import Derived.Test.YtibnegheabhbdaaDoorOpenBits
namespace Go.Proofs.YtibnegheabhbdaaDoor
open Go.RowKit
theorem getE_in {n : Nat} (h : chkB n = 0) {i : Nat} (hi : i < 64 * n) : getE n i = 0 := by
  unfold getE
  rw [if_neg (by rw [h]; decide), if_neg (by omega)]
theorem getV_in {l : List Nat} (h : chkB l.length = 0) {i : Nat} (hi : i < 64 * l.length) : getV l i = rbit l i := by
  unfold getV
  rw [getE_in h hi, if_pos rfl]
  rfl
theorem thru_next {l m : List Nat} (h : chkB l.length = 0) {q : Nat} (hq : q < 64 * l.length) : shL (thruL l m (64 * l.length - (q + 1))) (rbit m q) = thruL l m (64 * l.length - q) ∧ shO (thruL l m (64 * l.length - (q + 1))) = rbit l q := by
  have := thruL_step (l := l) (m := m) h (k := 64 * l.length - (q + 1)) (by omega)
  rw [show 64 * l.length - 1 - (64 * l.length - (q + 1)) = q by omega, show 64 * l.length - (q + 1) + 1 = 64 * l.length - q by omega] at this
  exact this
set_option maxRecDepth 100000 in
set_option maxHeartbeats 4000000 in
theorem bitsThrough_nat (w : World) (A A' : Option Addr) (c c' : Nat) (l m : List Nat) (h : Reads w w.heap.size 1 A l.length (u64s l)) (h' : Reads w w.heap.size 1 A' m.length (u64s m)) (hw : W64 l) (hw' : W64 m) (hl : l.length ≤ 9223372036854775807) (hl' : m.length ≤ 9223372036854775807) (v : Bool) (hT : Tz16 w) :
    Calls Tryd.prog 4 #[.slice A l.length c, .slice A' m.length c', .bool v] w fun e w' => e = .returned (.bool true) ∧ Below w.heap.size w w' := by
  have HT := Lib.hid hT
  have HR := Lib.hid h
  have HR' := Lib.hid h'
  have Hw := Lib.hid hw
  have Hw' := Lib.hid hw'
  clear hT h hw h' hw'
  by_cases hc : chkB l.length = 0
  · have hn := chkB_ok.1 hc
    have Hc := Lib.hid hc
    have H1 := shift_ w A c l HR.out Hw.out hl v
    obtain ⟨LU, hLU⟩ : ∃ LU, LU = shL l v := ⟨_, rfl⟩
    obtain ⟨OU, hOU⟩ : ∃ OU, OU = shO l := ⟨_, rfl⟩
    obtain ⟨LX, hLX⟩ : ∃ LX, LX = bkL l v := ⟨_, rfl⟩
    obtain ⟨OX, hOX⟩ : ∃ OX, OX = bkO l := ⟨_, rfl⟩
    have hlu : LU.length = l.length := by rw [hLU]; exact shL_len l v hc
    have hlx : LX.length = l.length := by rw [hLX]; exact bkL_len l v hc
    have hwu : W64 LU := by rw [hLU]; exact shL_w l v
    have hwx : W64 LX := by rw [hLX]; exact bkL_w l v
    have hb := bk_sh Hw.out hc v
    have hs := sh_bk Hw.out hc v
    rw [← hLU, ← hOU] at hb
    rw [← hLX, ← hOX] at hs
    have H2 := Lib.hid (fun W A1 c1 (hr : Reads W W.heap.size 1 A1 l.length (u64s LU)) => by
      have := back_ W A1 c1 LU (by rw [hlu]; exact hr) hwu (by rw [hlu]; exact hl) OU
      rw [hb.1, hb.2, hlu, hc] at this
      exact this)
    have H3 := Lib.hid (fun W (hbW : Below w.heap.size w W) => back_ W A c l (HR.out.go hbW) Hw.out hl v)
    rw [← hLX, ← hOX, hc] at H3
    have H4 := Lib.hid (fun W A1 c1 (hr : Reads W W.heap.size 1 A1 l.length (u64s LX)) => by
      have := shift_ W A1 c1 LX (by rw [hlx]; exact hr) hwx (by rw [hlx]; exact hl) OX
      rw [hs.1, hs.2, hlx, hc] at this
      exact this)
    rw [← hLU, ← hOU, hc] at H1
    have H1 := Lib.hid H1
    have Hlu := Lib.hid hlu
    have Hlx := Lib.hid hlx
    clear hLU hOU hLX hOX hlu hlx hwu hwx hb hs hc
    go_enter Tryd.func4, Tryd.ntmps4
    go_wp2_with fail
    (with_reducible refine (H1.out).mono ?_); rintro e w1 ⟨A1, c1, rfl, hb1, hr1, hc1, hm1⟩
    rw [Hlu.out] at hr1 ⊢
    have HR1 := Lib.hid hr1
    have HB1 := Lib.hid hb1
    clear hr1 hb1 hc1 hm1 H1
    go_wp2_with fail
    (with_reducible refine (H2.out _ _ _ HR1.out).mono ?_); rintro e w2 ⟨A2, c2, rfl, hb2, hr2, hc2, hm2⟩
    have HR2 := Lib.hid hr2
    have HB2 := Lib.hid (bt HB1.out hb2)
    clear hr2 hb2 hc2 hm2 H2 HR1
    go_wp2_with fail
    (with_reducible refine (H3.out _ HB2.out).mono ?_); rintro e w3 ⟨A3, c3, rfl, hb3, hr3, hc3, hm3⟩
    rw [Hlx.out] at hr3 ⊢
    have HR2 := Lib.hid (HR2.out.go hb3)
    have HR3 := Lib.hid hr3
    have HB3 := Lib.hid (bt HB2.out hb3)
    clear hr3 hb3 hc3 hm3 H3
    go_wp2_with fail
    (with_reducible refine (H4.out _ _ _ HR3.out).mono ?_); rintro e w4 ⟨A4, c4, rfl, hb4, hr4, hc4, hm4⟩
    have HR2 := Lib.hid (HR2.out.go hb4)
    have HR4 := Lib.hid hr4
    have HB4 := Lib.hid (bt HB3.out hb4)
    clear hr4 hb4 hc4 hm4 H4 HR3
    go_wp2_with fail
    (with_reducible refine (same_ _ _ _ A2 A c2 c l l HR2.out (HR.out.below HB4.out) hl true (Lib.hid (by simp))).mono ?_); rintro e w5 ⟨rfl, hb5⟩
    have HR4 := Lib.hid (HR4.out.go hb5)
    have HB5 := Lib.hid (bt HB4.out hb5)
    clear hb5 HB1 HB2 HB3 HB4 HR2
    go_wp2_with fail
    (with_reducible refine (same_ _ _ _ A4 A c4 c l l HR4.out (HR.out.below HB5.out) hl true (Lib.hid (by simp))).mono ?_); rintro e w6 ⟨rfl, hb6⟩
    have HB6 := Lib.hid (bt HB5.out hb6)
    clear hb6 HB5 HR4
    by_cases hlm : m.length = l.length
    · have e0 : ((m.length : Int) != (l.length : Int)) = false := by simp [hlm]
      have hR0 := (HR.out.go HB6.out).al (.cells #[] 55)
      have hown := own_empty w6 55 1
      have HRd := Lib.hid hR0
      have Hlm := Lib.hid hlm
      clear hR0 hlm
      go_wp2_with (at_builtin; refine wpList_apr u64El (w0 := w6) hown (ba (Below.refl _ _) _) (by exact HRd.out) (u64s_one l) ?_)
      intro v1 w7 hO1 hb7 hg1
      obtain ⟨g, cap, rfl, hgb, hgl⟩ := hO1.form (by omega)
      obtain ⟨_, _, he, hr7, hc7, hm7⟩ := own_sl hO1
      injection he with e1 e2 e3
      clear e2
      subst e1 e3
      have HR7 := Lib.hid hr7
      have HB7 := Lib.hid (bt HB6.out hb7)
      have hN : IntKind.i64.wrap (64 * (l.length : Int)) = 64 * (l.length : Int) := IntWalk.i64_in _ (by omega)
      have H0 := Lib.hid (thruL_zero m Hw.out)
      clear hown hO1 hg1 hr7 hb7 HRd
      go_wp2_with fail
      have hlen := fun k => thruL_len l m k
      have hww := fun k => thruL_w l m k
      have Hlen := Lib.hid hlen
      have Hww := Lib.hid hww
      have HRv := Lib.hid (HR'.out.go HB6.out)
      clear hlen hww
      go_loopw [19, 20] (fun nv i wr => ∃ (r : Nat) (Ar : Option Addr) (cr : Nat), r ≤ 64 * l.length ∧ i = .int .i64 ((r : Int) - 1) ∧ nv = .slice Ar l.length cr ∧ Hid (Reads wr wr.heap.size 1 Ar l.length (u64s (thruL l m (64 * l.length - r)))) ∧ Hid (Below w.heap.size w wr)) (fun _ i _ => (intOf i + 1).toNat)
      case atStart => exact ⟨64 * l.length, _, _, Nat.le_refl _, by simp, rfl, Lib.hid (by rw [Nat.sub_self, H0.out]; exact HR7.out), HB7⟩
      case round =>
        obtain ⟨r, Ar, cr, hr, rfl, rfl, hrd, hB⟩ := hrel
        clear HR7 HB7 H0
        by_cases hr0 : 0 < r
        · obtain ⟨q, rfl⟩ : ∃ q, r = q + 1 := ⟨r - 1, by omega⟩
          have hg1 := pget_ wr A' c' m (HR'.out.go hB.out) Hw'.out hl' q (by omega)
          rw [getV_in (by rw [Hlm.out]; exact Hc.out) (by rw [Hlm.out]; omega), getE_in (by rw [Hlm.out]; exact Hc.out) (by rw [Hlm.out]; omega)] at hg1
          have hg2 := Lib.hid (fun W (hb : Below w.heap.size w W) => pget_ W A c l (HR.out.go hb) Hw.out hl q (by omega))
          rw [getV_in Hc.out (by omega), getE_in Hc.out (by omega)] at hg2
          have hst := Lib.hid (fun W (hr : Reads W W.heap.size 1 Ar l.length (u64s (thruL l m (64 * l.length - (q + 1))))) => by
            have hs := shift_ W Ar cr (thruL l m (64 * l.length - (q + 1))) (by rw [Hlen.out]; exact hr) (Hww.out _) (by rw [Hlen.out]; exact hl) (rbit m q)
            rw [(thru_next (m := m) Hc.out (q := q) (by omega)).1, (thru_next (m := m) Hc.out (q := q) (by omega)).2, Hlen.out, Hc.out] at hs
            exact hs)
          have HG1 := Lib.hid hg1
          clear hg1
          generalize rbit m q = bm at *
          generalize rbit l q = bl at *
          rw [show (((q + 1 : Nat) : Int) - 1) = (q : Int) by omega]
          go_wp2_with fail
          (with_reducible refine (HG1.out).mono ?_); rintro e wa ⟨rfl, hba⟩
          have hrd := Lib.hid (hrd.out.go hba)
          have hB := Lib.hid (bt hB.out hba)
          clear hba HG1
          go_wp2_with fail
          (with_reducible refine (hst.out _ hrd.out).mono ?_); rintro e wb ⟨Ab, cb, rfl, hbb, hrb, hcb, hmb⟩
          rw [Hlen.out] at hrb ⊢
          have hrb := Lib.hid hrb
          have hB := Lib.hid (bt hB.out hbb)
          clear hbb hst hrd
          go_wp2_with fail
          (with_reducible refine (hg2.out _ hB.out).mono ?_); rintro e wc ⟨rfl, hbc⟩
          have hrb := Lib.hid (hrb.out.go hbc)
          have hB := Lib.hid (bt hB.out hbc)
          clear hbc hg2
          go_wp2
          go_roundw
          case rel => exact ⟨q, Ab, cb, by omega, rfl, rfl, hrb, hB⟩
          case measure => simp [intOf]
        · obtain rfl : r = 0 := by omega
          have hrd2 := hrd.out
          rw [Nat.sub_zero, thruL_all Hw'.out Hlm.out, ← Hlm.out] at hrd2
          have HR2 := Lib.hid hrd2
          clear hrd hrd2
          rw [← Hlm.out]
          go_wp2_with fail
          (with_reducible refine (same_ _ _ _ Ar A' cr c' m m HR2.out (HR'.out.below hB.out) hl' true (Lib.hid (by simp))).mono ?_); rintro e w8 ⟨rfl, hb8⟩
          have hB := Lib.hid (bt hB.out hb8)
          clear hb8
          go_wp2_with fail
          (with_reducible refine (awake_ _ (tz16_below HT.out hB.out)).mono ?_); rintro e w9 ⟨rfl, hb9⟩
          have hBe := bt hB.out hb9
          go_wp2
          go_ret
          exact ⟨rfl, hBe⟩
    · have e0 : ((m.length : Int) != (l.length : Int)) = true := by simp; omega
      clear hlm
      go_wp2_with fail
      (with_reducible refine (awake_ _ (tz16_below HT.out HB6.out)).mono ?_); rintro e w9 ⟨rfl, hb9⟩
      have hBe := bt HB6.out hb9
      go_wp2
      go_ret
      exact ⟨rfl, hBe⟩
  · have H1 := shift_ w A c l HR.out Hw.out hl v
    obtain ⟨E, hE⟩ : ∃ E, E = chkB l.length := ⟨_, rfl⟩
    rw [show shL l v = [] from if_neg hc, ← hE] at H1
    rw [← hE] at hc
    have e1 : (E != 0) = true := by simpa using hc
    have H1 := Lib.hid H1
    clear hE hc
    go_enter Tryd.func4, Tryd.ntmps4
    go_wp2_with fail
    (with_reducible refine (H1.out).mono ?_); rintro e w1 ⟨A1, c1, rfl, hb1, hr1, hc1, hm1⟩
    have HB1 := Lib.hid hb1
    clear hr1 hb1 hc1 hm1 H1
    rw [show (([] : List Nat).length) = 0 from rfl]
    go_wp2_with fail
    (with_reducible refine (awake_ _ (tz16_below HT.out HB1.out)).mono ?_); rintro e w9 ⟨rfl, hb9⟩
    have hBe := bt HB1.out hb9
    go_wp2
    go_ret
    exact ⟨rfl, hBe⟩
theorem bitsThrough_walk (W : World) (A : Option Addr) (c : Nat) (L : List Int) (h : Reads W W.heap.size 1 A L.length (L.map (Value.int .u64))) (hx : ∀ x ∈ L, 0 ≤ x ∧ x ≤ 18446744073709551615) (hc : L.length ≤ c ∧ c ≤ 9223372036854775807)
    (A' : Option Addr) (c' : Nat) (L' : List Int) (h' : Reads W W.heap.size 1 A' L'.length (L'.map (Value.int .u64))) (hx' : ∀ x ∈ L', 0 ≤ x ∧ x ≤ 18446744073709551615) (hc' : L'.length ≤ c' ∧ c' ≤ 9223372036854775807) (v : Bool) (hT : Tzt W) :
    Calls Tryd.prog 4 #[.slice A L.length c, .slice A' L'.length c', .bool v] W fun e w' => e = .returned (.bool true) ∧ Below W.heap.size W w' := by
  obtain ⟨l, e1, hw, e2⟩ := nats_of hx
  obtain ⟨l', e1', hw', e2'⟩ := nats_of hx'
  rw [e1] at h
  rw [e1'] at h'
  rw [← e2] at h hc ⊢
  rw [← e2'] at h' hc' ⊢
  exact bitsThrough_nat W A A' c c' l l' h h' hw hw' (by omega) (by omega) v hT.of16
end Go.Proofs.YtibnegheabhbdaaDoor
