/- ConfigKnown: the law returns true. No condition. -/
import Derived.Test.YtljmidaapgppfaaDoorConfigTexts
import Derived.BigQuiet
namespace Go.Proofs.YtljmidaapgppfaaDoor
open Go.RowKit
def knB : List Int := [0, 256, 257, 259, 260, 261, 263, 311, 327]
theorem kn_base : ∀ k : Fin 9, ((layL 4 8 1000 1 2)[k.val]?.map fun x => x.2.1) = knB[k.val]? := by decide +kernel
theorem kn_len : (layL 4 8 1000 1 2).length = 9 := by decide +kernel
theorem kn_cell {w : World} {g : Nat} (h : w.heap[g]? = some (.cells (knB.map (Value.int .i64)).toArray 38 (0, 0))) {k : Nat} {x : Int} (hx : knB[k]? = some x) : w.cell? ⟨g, k, none⟩ = some (.int .i64 x) := by
  have h1 := (reads_blk h).2 (by decide)
  obtain ⟨b, off, e, _, hc⟩ := h1
  injection e with e
  injection e with e1 e2
  subst e1 e2
  have := hc k (.int .i64 x) (by rw [List.getElem?_map, hx]; rfl)
  rwa [Nat.zero_add] at this
theorem kn_cell1 : celE 4 8 1000 1 2 ⟨#[115, 108, 111, 116, 115]⟩ 48 = 7 := by decide +kernel
theorem kn_cell2 : celE 4 8 1000 1 2 ⟨#[110, 111, 110, 101]⟩ 0 = 4 := by decide +kernel
theorem kn_where : whrE 4 8 1000 1 2 331 = 7 := by decide +kernel
theorem kn_slots : slotsI 4 8 1000 1 2 = 16 := by decide +kernel
theorem kn_ps1 : psC (⟨#[98, 108, 111, 99, 107, 32, 52, 32, 107, 101, 101, 112, 32, 56, 32, 108, 105, 109, 105, 116, 32, 48, 49, 48, 48, 48]⟩ : ByteArray).data.toList = ((0, 0, 0), 6) := by decide +kernel
theorem kn_ps2 : psC (⟨#[98, 108, 111, 99, 107, 32, 51, 32, 107, 101, 101, 112, 32, 56, 32, 108, 105, 109, 105, 116, 32, 48]⟩ : ByteArray).data.toList = ((0, 0, 0), 7) := by decide +kernel
theorem kn_chk : errC 3 1 0 = 7 ∧ errC 1 33 0 = 7 ∧ errC 1 1 (-1) = 7 := by decide +kernel
set_option maxRecDepth 100000 in
set_option maxHeartbeats 4000000 in
theorem configKnown_walk (w : World) (hP : Pow w) (hR : ER w) (hM : ML w) :
    Calls Tryd.prog 4 #[] w fun e w' => e = .returned (.bool true) ∧ Below w.heap.size w w' := by
  have He := Lib.hid (err2_yes cfg_ok2)
  have Hl := Lib.hid kn_len
  have H1 := Lib.hid kn_cell1
  have H2 := Lib.hid kn_cell2
  have H3 := Lib.hid kn_where
  have H4 := Lib.hid kn_slots
  have P1 := Lib.hid kn_ps1
  have P2 := Lib.hid kn_ps2
  have H5 := Lib.hid kn_chk
  go_enter Tryd.func4, Tryd.ntmps4
  go_wp2_with fail
  (with_reducible refine (small_ _).mono ?_); rintro e w1 ⟨rfl, hb1⟩
  go_wp2_with fail
  (with_reducible refine (shape_ _).mono ?_); rintro e w2 ⟨rfl, hb2⟩
  have hB2 := bt hb1 hb2
  go_wp2_with fail
  (with_reducible refine (layout_any 4 8 1000 1 2 _).mono ?_); rintro e w3 ⟨A3, c3, rfl, hb3, hr3, _, _⟩
  have hB3 := Lib.hid (bt hB2 hb3)
  rw [Hl.out, He.out]
  rw [Hl.out] at hr3
  obtain ⟨L, hL⟩ : ∃ L, layL 4 8 1000 1 2 = L := ⟨_, rfl⟩
  have HL := Lib.hid hL
  rw [hL] at hr3
  have hLl : L.length = 9 := by rw [← hL]; exact kn_len
  have Hb := Lib.hid (fun (k : Nat) (hk : k < 9) => show (L[k]?.map fun x => x.2.1) = knB[k]? by rw [← hL]; exact kn_base ⟨k, hk⟩)
  have HR3 := Lib.hid hr3
  have hT := Lib.hid ((Fr.start w3).new (.cells (knB.map (Value.int .i64)).toArray 38 (0, 0)))
  clear hb1 hb2 hb3 hr3 hL
  have HR4 := Lib.hid (show Reads w3 w3.heap.size 3 A3 L.length (rgs L) by rw [hLl]; exact HR3.out)
  clear HR3
  go_wp2
  go_loopw [4] (fun i wr => ∃ k : Nat, k ≤ 9 ∧ i = .int .i64 k ∧ Hid (Fr w3 [(w3.heap.size, .cells (knB.map (Value.int .i64)).toArray 38 (0, 0))] wr)) (fun i _ => 9 - (intOf i).toNat)
  case atStart => exact ⟨0, Nat.zero_le _, rfl, hT⟩
  case round =>
    clear hT
    obtain ⟨k, hk, rfl, hF⟩ := hrel
    by_cases hlt : k < 9
    case pos =>
      have i1 : (k : Int) < 9 := by omega
      obtain ⟨b, off, s', x, S', hA, hb, r0, r1, r2, hd⟩ := rgAt HR4.out (by omega : k < L.length)
      subst hA
      have r1 := (hF.out.bel.cell (p := ⟨b, off + k * 3 + 1, none⟩) hb).trans r1
      have hx : knB[k]? = some x := by
        have h1 := Hb.out k hlt
        have h2 := hd.out
        have h3 : L[k]? = some (s', x, S') := by
          have h4 : (L.drop k)[0]? = some (s', x, S') := by rw [h2]; rfl
          rwa [List.getElem?_drop, Nat.add_zero] at h4
        rw [h3] at h1
        exact h1.symm
      have n1 := kn_cell (hF.out.at (g := w3.heap.size) List.mem_cons_self) hx
      have m1 : (x != x) = false := by simp
      clear hx hd r0 r2
      go_wp2
      go_quiet (fail)
      go_wp2
      go_roundw
      case rel => exact ⟨k + 1, by omega, by go_num, Lib.hid (hF.out.drewN _)⟩
      case measure => (simp [intOf]) <;> omega
    case neg =>
      have i1 : ¬ ((k : Int) < 9) := by omega
      have hB4 := bt hB3.out hF.out.bel
      clear hF
      go_wp2_with fail
      (with_reducible refine (small_ _).mono ?_); rintro e w4 ⟨rfl, hb4⟩
      go_wp2_with fail
      (with_reducible refine (shape_ _).mono ?_); rintro e w5 ⟨rfl, hb5⟩
      go_wp2_with fail
      (with_reducible refine (ccell 4 8 1000 1 2 ⟨#[115, 108, 111, 116, 115]⟩ (by decide) 48 _).mono ?_); rintro e w6 ⟨rfl, hb6⟩
      rw [H1.out]
      have hB6 := bt (bt (bt hB4 hb4) hb5) hb6
      clear hB4 hb4 hb5 hb6
      go_wp2_with fail
      (with_reducible refine (small_ _).mono ?_); rintro e w7 ⟨rfl, hb7⟩
      go_wp2_with fail
      (with_reducible refine (shape_ _).mono ?_); rintro e w8 ⟨rfl, hb8⟩
      go_wp2_with fail
      (with_reducible refine (ccell 4 8 1000 1 2 ⟨#[110, 111, 110, 101]⟩ (by decide) 0 _).mono ?_); rintro e w9 ⟨rfl, hb9⟩
      rw [H2.out]
      have hB9 := bt (bt (bt hB6 hb7) hb8) hb9
      clear hB6 hb7 hb8 hb9
      go_wp2_with fail
      (with_reducible refine (small_ _).mono ?_); rintro e w10 ⟨rfl, hb10⟩
      go_wp2_with fail
      (with_reducible refine (shape_ _).mono ?_); rintro e w11 ⟨rfl, hb11⟩
      go_wp2_with fail
      (with_reducible refine (cwhere 4 8 1000 1 2 331 (by omega) _).mono ?_); rintro e w12 ⟨rfl, hb12⟩
      unfold whrV
      rw [H3.out]
      have hB12 := bt (bt (bt hB9 hb10) hb11) hb12
      clear hB9 hb10 hb11 hb12
      go_wp2_with fail
      (with_reducible refine (cparseQ _ 0 0 0 6 _ (hM.below hB12) (hR.below hB12) (by decide) P1).mono ?_); rintro e w13 ⟨rfl, hb13⟩
      have hB13 := ba (bt hB12 hb13) (cfO 0 0 0)
      clear hB12 hb13
      go_wp2_with fail
      (with_reducible refine (cparseQ _ 0 0 0 7 _ (hM.below hB13) (hR.below hB13) (by decide) P2).mono ?_); rintro e w14 ⟨rfl, hb14⟩
      have hB14 := ba (bt hB13 hb14) (cfO 0 0 0)
      clear hB13 hb14
      go_wp2_with fail
      (with_reducible refine (small_ _).mono ?_); rintro e w15 ⟨rfl, hb15⟩
      go_wp2_with fail
      (with_reducible refine (shape_ _).mono ?_); rintro e w16 ⟨rfl, hb16⟩
      go_wp2_with fail
      (with_reducible refine (cslots 4 8 1000 1 2 _).mono ?_); rintro e w17 ⟨rfl, hb17⟩
      rw [H4.out, He.out]
      have hB17 := bt (bt (bt hB14 hb15) hb16) hb17
      clear hB14 hb15 hb16 hb17
      go_wp2_with fail
      (with_reducible refine (ccheck 3 1 0 _).mono ?_); rintro e w18 ⟨rfl, hb18⟩
      rw [H5.out.1]
      go_wp2_with fail
      (with_reducible refine (ccheck 1 33 0 _).mono ?_); rintro e w19 ⟨rfl, hb19⟩
      rw [H5.out.2.1]
      go_wp2_with fail
      (with_reducible refine (ccheck 1 1 (-1) _).mono ?_); rintro e w20 ⟨rfl, hb20⟩
      rw [H5.out.2.2]
      have hB20 := bt (bt (bt hB17 hb18) hb19) hb20
      clear hB17 hb18 hb19 hb20
      go_wp2_with fail
      (with_reducible refine (awake _ (hP.below hB20)).mono ?_); rintro e w21 ⟨rfl, hb21⟩
      go_wp2
      go_ret
      exact ⟨rfl, bt hB20 hb21⟩
end Go.Proofs.YtljmidaapgppfaaDoor
