/- SyntaxPrints: Check, Tokens and Print return what the document says. No condition. -/
import Derived.Test.YtcopnpllaoahaaaGreatDoorE22
import Derived.Test.YtcopnpllaoahaaaGreatDoorE18
import Derived.Test.YtcopnpllaoahaaaGreatDoorJ12
namespace Go.Proofs.YtcopnpllaoahaaaGreatDoor
open Go.RowKit
theorem sameL_refl (l : List T9) : sameL true l l = true :=
  sameL_true rfl fun k h1 _ => by
    show t9Q _ _ = true
    exact t9Q_iff.2 ⟨rfl, rfl, rfl, rfl, rfl, sQ_refl _⟩
theorem tkR_len {r : Ru} {t : List UInt8} {i : Nat} {k e : Int} (h : prA [r] = (t, i, k, e)) : (tkR r e).length ≤ 100000 := by
  unfold tkR
  split
  · rename_i he
    subst he
    have h64 := (ruE_ok (prA_one h)).2.2.1
    rw [← lnT_all]
    have := lnT_len r r.2.length
    omega
  · simp
set_option maxRecDepth 100000 in
set_option maxHeartbeats 8000000 in
theorem syntaxPrints_walk (w : World) (A : Option Addr) (c : Nat) (L : List Rm) (hI : IsRus w A L) (hS : ∀ r ∈ L, ∀ x ∈ r.2.2.2, x.2.1.size ≤ 140737488351232) (hlc : L.length ≤ c ∧ c ≤ 9223372036854775807) (hL : LxW w) (hH : Hd w) (hM : ML w) :
    Calls Tryz.prog 6 #[.slice A L.length c] w fun e w' => e = .returned (.bool true) ∧ Below w.heap.size w w' := by
  have HW := Lib.hid (show SyW w from ⟨hL, hH, hM⟩)
  have HSh := Lib.hid shown_
  have HI := Lib.hid hI
  have HFar := Lib.hid (sfar_ L w A c hI hS)
  have hlm : L.length ≤ 9223372036854775807 := Nat.le_trans hlc.1 hlc.2
  rcases hp : prA (L.map rm) with ⟨t, i, k, er⟩
  have HC := Lib.hid (fun W (hW : Below w.heap.size w W) => scheck_ L W A c (HI.out.go hW) (HW.out.below hW).hd (HW.out.below hW).lx t i k er (Lib.hid hp))
  have HD := Lib.hid (fun W (hW : Below w.heap.size w W) => rcheck_ L W A c (HI.out.go hW) t i k er (Lib.hid hp))
  have HP := Lib.hid (fun W (hW : Below w.heap.size w W) => sprint_ L W A c (HI.out.go hW) (HW.out.below hW).hd (HW.out.below hW).lx t i k er (Lib.hid hp))
  have HQ := Lib.hid (fun W (hW : Below w.heap.size w W) => rprint_ L W A c (HI.out.go hW) t i k er (Lib.hid hp))
  clear hI hS hL hH hM hp hlc
  have e1 : ((i : Int) != (i : Int)) = false := by simp
  have e2 : (k != k) = false := by simp
  have e3 : (er != er) = false := by simp
  go_enter Tryz.func6, Tryz.ntmps6
  go_wp2_with fail
  (with_reducible refine (HFar.out).mono ?_); rintro e w1 ⟨b, rfl, hb1⟩
  cases b
  case true =>
    go_wp2_with fail
    (with_reducible refine (HSh.out _ (HW.out.below hb1)).mono ?_); rintro e w2 ⟨rfl, hb2⟩
    have hb3 := bt hb1 hb2
    clear hb1 hb2
    go_wp2
    go_ret
    exact ⟨rfl, hb3⟩
  case false =>
  go_wp2_with fail
  (with_reducible refine (HC.out _ hb1).mono ?_); rintro e w2 ⟨rfl, hb2⟩
  have hb3 := bt hb1 hb2
  go_wp2_with fail
  (with_reducible refine (HD.out _ hb3).mono ?_); rintro e w4 ⟨rfl, hb4⟩
  have hb5 := bt hb3 hb4
  go_wp2_with fail
  (with_reducible refine (HP.out _ hb5).mono ?_); rintro e w6 ⟨rfl, hb6⟩
  have hb7 := bt hb5 hb6
  go_wp2_with fail
  (with_reducible refine (HQ.out _ hb7).mono ?_); rintro e w8 ⟨rfl, hb8⟩
  have HB := Lib.hid (bt hb7 hb8)
  clear hb1 hb2 hb3 hb4 hb5 hb6 hb7 hb8 HC HD HP HQ
  go_wp2
  clear e1 e2 e3
  go_loopw [13] (fun u wr => ∃ n : Nat, n ≤ L.length ∧ u = .int .i64 (n : Int) ∧ Below w.heap.size w wr) (fun u _ => L.length - (intOf u).toNat)
  case atStart => exact ⟨0, Nat.zero_le _, rfl, HB.out⟩
  case round =>
    obtain ⟨n, hn, rfl, hbl⟩ := hrel
    have HBe := Lib.hid hbl
    by_cases hlt : n < L.length
    case neg =>
      have i1 : ¬ ((n : Int) < (L.length : Int)) := by omega
      clear hbl
      go_wp2_with fail
      (with_reducible refine (HSh.out _ (HW.out.below HBe.out)).mono ?_); rintro e w2 ⟨rfl, hb2⟩
      have hb3 := bt HBe.out hb2
      clear hb2
      go_wp2
      go_ret
      exact ⟨rfl, hb3⟩
    have i1 : (n : Int) < (L.length : Int) := by omega
    have i0 : (0 : Int) ≤ (n : Int) := by omega
    obtain ⟨bk, off, rfl, hbk, d0, d1, hIr⟩ := (HI.out.go hbl).at hlt
    obtain ⟨⟨id, A1, c1, es⟩, hr⟩ : ∃ r, L[n] = r := ⟨_, rfl⟩
    rw [hr] at d0 d1 hIr
    simp only at d0 d1
    rcases hq : prA [rm (id, A1, c1, es)] with ⟨t2, i2, k2, er2⟩
    have hlen := tkR_len hq
    have HT := Lib.hid (stokens_ (id, A1, c1, es) wr hIr (HW.out.below hbl).hd (HW.out.below hbl).lx t2 i2 k2 er2 (Lib.hid hq))
    have HU := Lib.hid (fun W (hW : Below wr.heap.size wr W) => rtoks_ (id, A1, c1, es) W (hIr.go hW) t2 i2 k2 er2 (Lib.hid hq))
    have e3 : (er2 != er2) = false := by simp
    have hbkw : bk < wr.heap.size := hbk
    generalize tkR (rm (id, A1, c1, es)) er2 = ts at *
    have HLen := Lib.hid hlen
    clear hbl hr hIr hq hlen
    go_wp2_with fail
    (with_reducible refine (HT.out).mono ?_); rintro e w3 ⟨A3, c3, rfl, hb3, hr3, _⟩
    have f0 := (hb3.cell (p := ⟨bk, off + n * 2, none⟩) hbkw).trans d0
    have f1 := (hb3.cell (p := ⟨bk, off + n * 2 + 1, none⟩) hbkw).trans d1
    have HR3 := Lib.hid hr3
    have HB3 := Lib.hid hb3
    clear d0 d1 hr3 hb3
    go_wp2_with fail
    (with_reducible refine (HU.out _ HB3.out).mono ?_); rintro e w4 ⟨A4, c4, rfl, hb4, hr4, _⟩
    have HSm := Lib.hid (same_ true ts ts w4 A3 A4 c3 c4 (HR3.out.go hb4) hr4 HLen.out HLen.out true (Lib.hid (sameL_refl ts)))
    have HB4 := Lib.hid (bt (bt HBe.out HB3.out) hb4)
    clear f0 f1 hb4 hr4
    go_wp2_with fail
    (with_reducible refine (HSm.out).mono ?_); rintro e w5 ⟨rfl, hb5⟩
    have HB5 := Lib.hid (bt HB4.out hb5)
    clear hb5
    go_wp2
    go_roundw
    case rel => exact ⟨n + 1, by omega, by go_num, HB5.out⟩
    case measure => (simp [intOf]) <;> omega
end Go.Proofs.YtcopnpllaoahaaaGreatDoor
