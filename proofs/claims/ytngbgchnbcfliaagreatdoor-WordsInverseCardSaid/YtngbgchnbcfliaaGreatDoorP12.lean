/- words: ParseList of the program. No condition. -/
import Derived.Test.YtngbgchnbcfliaaGreatDoorP10
namespace Go.Proofs.YtngbgchnbcfliaaGreatDoor
open Go.RowKit

set_option maxRecDepth 100000 in
set_option maxHeartbeats 8000000 in
theorem plist_ (s : ByteArray) (w : World) (hM : ML w) (hP : Pow w) (hs : s.size ≤ 1000000) :
    Calls Tryz.prog 9 #[.string s] w (RetPl w (plL s.data.toList)) := by
  by_cases hds : s.data.toList = [45]
  · have hR := Lib.hid (show plL s.data.toList = ([], 0) by rw [hds]; rfl)
    have hse : s = ⟨#[45]⟩ := by apply ByteArray.ext; apply Array.toList_inj.1; exact hds
    have hsb : (s.toList == [45]) = true := by rw [hse, ByteArray.toList_eq]; rfl
    clear hds hse
    go_enter Tryz.func9, Tryz.ntmps9
    go_wp2
    go_ret2
    exact RetPl.none_ (Below.refl _ _) hR.out
  have hsb : (s.toList == [45]) = false := by
    rw [beq_eq_false_iff_ne]
    intro e
    exact hds (by rw [← e, ByteArray.toList_eq])
  have h45 := hds
  clear hds
  obtain ⟨L, hL⟩ : ∃ L, Hid (ptsB 44 s = L) := ⟨_, Lib.hid rfl⟩
  have hLl := ptsB_size 44 s
  rw [hL.out] at hLl
  obtain ⟨hL1, hL2⟩ := hLl
  have hLsz : Hid (∀ x ∈ L, x.size ≤ s.size) := Lib.hid (by rw [← hL.out]; intro x hx; exact ptsB_sz hx)
  have hptd : Hid (L.map dat = pts 44 [] s.data.toList) := Lib.hid (by rw [← hL.out]; exact ptsB_dat 44 s)
  have q9 := Lib.hid dgBig.symm
  go_enter Tryz.func9, Tryz.ntmps9
  go_wp2_with fail
  (with_reducible refine (splitP 44 _ (Lib.hid rfl) s _ hM hs hL).mono ?_); rintro e w1 ⟨⟨A1, rfl, hr1⟩, hb1⟩
  have hr1 := Lib.hid hr1
  have hb1 := Lib.hid hb1
  clear hL
  go_wp2
  go_loopw [4, 5, 24] (fun l v i wr => ∃ (k : Nat) (LST : ByteArray) (acc : List (ByteArray × ByteArray)), k ≤ L.length ∧ i = .int .i64 k ∧ l = .string LST ∧ Hid (acc.length = k) ∧ Below w1.heap.size w1 wr ∧ wr.ownsRow w1.heap.size 67 2 v k (prs acc) ∧ Hid (PlRel (L.map dat) k (pO k LST) (acc.map dd)) ∧ Hid (LdP k LST acc) ∧ Hid (0 < k → LST.size ≤ 1000000)) (fun _ _ i _ => L.length - (intOf i).toNat)
  case atStart => exact ⟨0, ⟨#[]⟩, [], Nat.zero_le _, rfl, rfl, Lib.hid rfl, Below.refl _ _, World.ownsRow_nil _ _ _ _, Lib.hid (PlRel.start _), Lib.hid (fun h => absurd h (by omega)), Lib.hid (fun h => absurd h (by omega))⟩
  case round =>
    obtain ⟨k, LST, acc, hkl, rfl, rfl, hal, hbl, hown, hrl, hLd, hLs⟩ := hrel
    by_cases hkL : k < L.length
    case pos =>
      have i1 : (k : Int) < (L.length : Int) := by omega
      obtain ⟨bk, off, rfl, hbk, hcell⟩ := sbAt hr1.out rfl hkL
      have hcell := (hbl.cell (p := ⟨bk, off + k, none⟩) hbk).trans hcell
      have hbw := bt hb1.out hbl
      have hks : L[k].size ≤ 1000000 := by have := hLsz.out L[k] (List.getElem_mem hkL); omega
      have hLs := Lib.hid (fun h0 : 0 < k => hLs.out h0)
      rcases cut_cases 45 L[k].data.toList with ⟨hno, hc⟩ | ⟨a, t, hx, hno, hc⟩
      · have hd := Lib.hid (datDrop hkL)
        have hcut := Lib.hid (show Lib.cut L[k].data.toList [45] = (L[k].data.toList, (⟨#[]⟩ : ByteArray).data.toList, false) from hc)
        have hde := decL_no45 (no45_head hno)
        rcases hdg : digsL L[k].data.toList with _ | _
        · rw [hdg] at hde
          have Hde := Lib.hid hde
          have hR := Lib.hid (plL_bad h45 (hptd.out ▸ hrl.out.bad hd.out (runP_no1 hno hdg)))
          clear hc hno hde hdg hrl hd

          go_wp2_with fail
          (with_reducible refine (cutP _ L[k] ⟨#[]⟩ false _ (hM.below hbw) (by omega) hcut).mono ?_); rintro e w2 ⟨rfl, hb2⟩

          go_wp2_with fail
          (with_reducible refine (decP _ false _ (by omega) Hde).mono ?_); rintro e w3 ⟨rfl, hb3⟩

          go_wp2
          go_ret2
          exact RetPl.none_ (bt hb1.out (bt (bt hbl hb2) hb3)) hR.out
        · rw [hdg] at hde
          have Hde := Lib.hid hde
          have hrun := Lib.hid (runP_fst hno hdg)
          obtain ⟨h00, hh0⟩ := digs_head_ne hdg
          have hF9 := Lib.hid hdg
          have hE9 := Lib.hid hdg
          clear hc hno hde hdg

          by_cases hk0 : k = 0
          · have i0 : ¬ ((0 : Int) < (k : Int)) := by omega
            have hN := Lib.hid (hrl.out.go hd.out hrun.out (show gapB (pO k LST) _ = true by unfold pO; rw [if_pos hk0]; rfl))
            have hN := Lib.hid (show PlRel (L.map dat) (k + 1) (pO (k + 1) L[k]) ((acc ++ [(L[k], L[k])]).map dd) by have h9 := hN.out; rw [List.map_append]; exact h9)
            clear hk0 hrl hrun hd

            go_wp2_with fail
            (with_reducible refine (cutP _ L[k] ⟨#[]⟩ false _ (hM.below hbw) (by omega) hcut).mono ?_); rintro e w2 ⟨rfl, hb2⟩

            go_wp2_with fail
            (with_reducible refine (decP _ true _ (by omega) Hde).mono ?_); rintro e w3 ⟨rfl, hb3⟩

            go_wp2_with fail
            (with_reducible refine (decP _ true _ (by omega) Hde).mono ?_); rintro e w4 ⟨rfl, hb4⟩

            have hO := own_below hown (bt (bt hb2 hb3) hb4)

            go_wp2_with (at_builtin; refine wpList_ap prE2 (w0 := w1) (hO.alloc _) (ba (bt (bt (bt hbl hb2) hb3) hb4) _) [.string L[k], .string L[k]] (alloc1_new _ _) ?_)
            intro g0 cap0 w9 ho0 hb9 hg0
            go_wp2
            go_roundw
            case rel => exact ⟨k + 1, L[k], acc ++ [(L[k], L[k])], by omega, by go_num, rfl, Lib.hid (by rw [List.length_append, hal.out]; rfl), hb9, by rw [prs_snoc]; exact ho0, hN, Lib.hid (LdP.next k acc hE9.out), Lib.hid (fun _ => by omega)⟩
            case measure => (simp [intOf]) <;> omega
          · have i0 : (0 : Int) < (k : Int) := by omega
            have hgy := gap_yes hLd.out (by omega) hF9.out
            have hld := Lib.hid (digsL_all (hLd.out (by omega)).1).1
            have hLs2 : LST.size ≤ 1000000 := hLs.out (by omega)
            rcases hg : gapB (pO k LST) (natL (dat L[k])) with _ | _
            · rw [hg] at hgy
              have Hgy := Lib.hid hgy
              have hR := Lib.hid (plL_bad h45 (hptd.out ▸ hrl.out.gap hd.out hrun.out hg))
              clear hg hgy hrl hrun hd

              go_wp2_with fail
              (with_reducible refine (cutP _ L[k] ⟨#[]⟩ false _ (hM.below hbw) (by omega) hcut).mono ?_); rintro e w2 ⟨rfl, hb2⟩

              go_wp2_with fail
              (with_reducible refine (decP _ true _ (by omega) Hde).mono ?_); rintro e w3 ⟨rfl, hb3⟩

              go_wp2_with fail
              (with_reducible refine (decP _ true _ (by omega) Hde).mono ?_); rintro e w4 ⟨rfl, hb4⟩

              go_wp2_with fail
              (with_reducible refine (folP _ _ false _ hLs2 (by omega) hld Hgy).mono ?_); rintro e w8 ⟨rfl, hb8⟩

              go_wp2
              go_ret2
              exact RetPl.none_ (bt hb1.out (bt (bt (bt (bt hbl hb2) hb3) hb4) hb8)) hR.out
            · rw [hg] at hgy
              have Hgy := Lib.hid hgy
              have hN := Lib.hid (hrl.out.go hd.out hrun.out hg)
              have hN := Lib.hid (show PlRel (L.map dat) (k + 1) (pO (k + 1) L[k]) ((acc ++ [(L[k], L[k])]).map dd) by have h9 := hN.out; rw [List.map_append]; exact h9)
              clear hg hgy hrl hrun hd

              go_wp2_with fail
              (with_reducible refine (cutP _ L[k] ⟨#[]⟩ false _ (hM.below hbw) (by omega) hcut).mono ?_); rintro e w2 ⟨rfl, hb2⟩

              go_wp2_with fail
              (with_reducible refine (decP _ true _ (by omega) Hde).mono ?_); rintro e w3 ⟨rfl, hb3⟩

              go_wp2_with fail
              (with_reducible refine (decP _ true _ (by omega) Hde).mono ?_); rintro e w4 ⟨rfl, hb4⟩

              go_wp2_with fail
              (with_reducible refine (folP _ _ true _ hLs2 (by omega) hld Hgy).mono ?_); rintro e w8 ⟨rfl, hb8⟩
              have hO := own_below hown (bt (bt (bt hb2 hb3) hb4) hb8)

              go_wp2_with (at_builtin; refine wpList_ap prE2 (w0 := w1) (hO.alloc _) (ba (bt (bt (bt (bt hbl hb2) hb3) hb4) hb8) _) [.string L[k], .string L[k]] (alloc1_new _ _) ?_)
              intro g0 cap0 w9 ho0 hb9 hg0
              go_wp2
              go_roundw
              case rel => exact ⟨k + 1, L[k], acc ++ [(L[k], L[k])], by omega, by go_num, rfl, Lib.hid (by rw [List.length_append, hal.out]; rfl), hb9, by rw [prs_snoc]; exact ho0, hN, Lib.hid (LdP.next k acc hE9.out), Lib.hid (fun _ => by omega)⟩
              case measure => (simp [intOf]) <;> omega
      · have hlen := cut_len 45 L[k] a t true hc
        obtain ⟨F, hF⟩ : ∃ F, F = mkB a := ⟨_, rfl⟩
        obtain ⟨T, hT⟩ : ∃ T, T = mkB t := ⟨_, rfl⟩
        have hFd : a = F.data.toList := by rw [hF, mkB_dat]
        have hTd : t = T.data.toList := by rw [hT, mkB_dat]
        rw [← hF, ← hT] at hlen
        obtain ⟨hFs, hTs⟩ := hlen
        clear hF hT
        subst hFd hTd
        have hcut := Lib.hid (show Lib.cut L[k].data.toList [45] = (F.data.toList, T.data.toList, true) from hc)
        have hd := datDrop hkL
        unfold dat at hd
        rw [hx] at hd
        have hd := Lib.hid hd
        have hde := decL_no45 (no45_head hno)
        rcases hdg : digsL F.data.toList with _ | _
        · rw [hdg] at hde
          have Hde := Lib.hid hde
          have hR := Lib.hid (plL_bad h45 (hptd.out ▸ hrl.out.bad hd.out (runP_no2 hno (.inl hdg))))
          clear hc hx hno hde hdg hrl hd

          go_wp2_with fail
          (with_reducible refine (cutP _ F T true _ (hM.below hbw) (by omega) hcut).mono ?_); rintro e w2 ⟨rfl, hb2⟩

          go_wp2_with fail
          (with_reducible refine (decP _ false _ (by omega) Hde).mono ?_); rintro e w3 ⟨rfl, hb3⟩

          go_wp2
          go_ret2
          exact RetPl.none_ (bt hb1.out (bt (bt hbl hb2) hb3)) hR.out
        · rw [hdg] at hde
          have Hde := Lib.hid hde
          rcases dec_split T with ⟨ht1, ht2⟩ | ⟨ht1, ht2, h00, hh0⟩ | ⟨ht1, ht2⟩
          · have Ht1 := Lib.hid ht1
            have hR := Lib.hid (plL_bad h45 (hptd.out ▸ hrl.out.bad hd.out (runP_no2 hno (.inr (.inl ht2)))))
            clear hc hx hno hde hdg hrl hd ht1 ht2

            go_wp2_with fail
            (with_reducible refine (cutP _ F T true _ (hM.below hbw) (by omega) hcut).mono ?_); rintro e w2 ⟨rfl, hb2⟩

            go_wp2_with fail
            (with_reducible refine (decP _ true _ (by omega) Hde).mono ?_); rintro e w3 ⟨rfl, hb3⟩

            go_wp2_with fail
            (with_reducible refine (decP _ false _ (by omega) Ht1).mono ?_); rintro e w4 ⟨rfl, hb4⟩

            go_wp2
            go_ret2
            exact RetPl.none_ (bt hb1.out (bt (bt (bt hbl hb2) hb3) hb4)) hR.out
          · have Ht1 := Lib.hid ht1
            have hR := Lib.hid (plL_bad h45 (hptd.out ▸ hrl.out.bad hd.out (runP_no2 hno (.inr (.inl ht2)))))
            clear hc hx hno hde hdg hrl hd ht1 ht2

            go_wp2_with fail
            (with_reducible refine (cutP _ F T true _ (hM.below hbw) (by omega) hcut).mono ?_); rintro e w2 ⟨rfl, hb2⟩

            go_wp2_with fail
            (with_reducible refine (decP _ true _ (by omega) Hde).mono ?_); rintro e w3 ⟨rfl, hb3⟩

            go_wp2_with fail
            (with_reducible refine (decP _ true _ (by omega) Ht1).mono ?_); rintro e w4 ⟨rfl, hb4⟩

            go_wp2
            go_ret2
            exact RetPl.none_ (bt hb1.out (bt (bt (bt hbl hb2) hb3) hb4)) hR.out
          · have Ht1 := Lib.hid ht1
            have hcm := (cmp_nat hdg ht2).1
            obtain ⟨r, hr⟩ : ∃ r, cmpI F.data.toList T.data.toList = r := ⟨_, rfl⟩
            rw [hr] at hcm
            have Hr := Lib.hid hr
            obtain ⟨h00, hh0⟩ := digs_head_ne ht2
            by_cases hlt : natL F.data.toList < natL T.data.toList
            · have r0 : r < 0 := hcm.2 hlt
              have r1 : ¬ (0 ≤ r) := by omega
              have hrun := Lib.hid (runP_snd hno hdg ht2 hlt)
              have hF9 := Lib.hid hdg
              have hE9 := Lib.hid ht2
              clear hc hx hno hde hdg ht1 ht2 hcm hr hlt r0

              by_cases hk0 : k = 0
              · have i0 : ¬ ((0 : Int) < (k : Int)) := by omega
                have hN := Lib.hid (hrl.out.go hd.out hrun.out (show gapB (pO k LST) _ = true by unfold pO; rw [if_pos hk0]; rfl))
                have hN := Lib.hid (show PlRel (L.map dat) (k + 1) (pO (k + 1) T) ((acc ++ [(F, T)]).map dd) by have h9 := hN.out; rw [List.map_append]; exact h9)
                clear hk0 hrl hrun hd

                go_wp2_with fail
                (with_reducible refine (cutP _ F T true _ (hM.below hbw) (by omega) hcut).mono ?_); rintro e w2 ⟨rfl, hb2⟩

                go_wp2_with fail
                (with_reducible refine (decP _ true _ (by omega) Hde).mono ?_); rintro e w3 ⟨rfl, hb3⟩

                go_wp2_with fail
                (with_reducible refine (decP _ true _ (by omega) Ht1).mono ?_); rintro e w4 ⟨rfl, hb4⟩

                go_wp2_with fail
                (with_reducible refine (cmpP _ _ r _ (by omega) (by omega) Hr).mono ?_); rintro e w5 ⟨rfl, hw5⟩; subst hw5

                have hO := own_below hown (bt (bt hb2 hb3) hb4)

                go_wp2_with (at_builtin; refine wpList_ap prE2 (w0 := w1) (hO.alloc _) (ba (bt (bt (bt hbl hb2) hb3) hb4) _) [.string F, .string T] (alloc1_new _ _) ?_)
                intro g0 cap0 w9 ho0 hb9 hg0
                go_wp2
                go_roundw
                case rel => exact ⟨k + 1, T, acc ++ [(F, T)], by omega, by go_num, rfl, Lib.hid (by rw [List.length_append, hal.out]; rfl), hb9, by rw [prs_snoc]; exact ho0, hN, Lib.hid (LdP.next k acc hE9.out), Lib.hid (fun _ => by omega)⟩
                case measure => (simp [intOf]) <;> omega
              · have i0 : (0 : Int) < (k : Int) := by omega
                have hgy := gap_yes hLd.out (by omega) hF9.out
                have hld := Lib.hid (digsL_all (hLd.out (by omega)).1).1
                have hLs2 : LST.size ≤ 1000000 := hLs.out (by omega)
                rcases hg : gapB (pO k LST) (natL (dat F)) with _ | _
                · rw [hg] at hgy
                  have Hgy := Lib.hid hgy
                  have hR := Lib.hid (plL_bad h45 (hptd.out ▸ hrl.out.gap hd.out hrun.out hg))
                  clear hg hgy hrl hrun hd

                  go_wp2_with fail
                  (with_reducible refine (cutP _ F T true _ (hM.below hbw) (by omega) hcut).mono ?_); rintro e w2 ⟨rfl, hb2⟩

                  go_wp2_with fail
                  (with_reducible refine (decP _ true _ (by omega) Hde).mono ?_); rintro e w3 ⟨rfl, hb3⟩

                  go_wp2_with fail
                  (with_reducible refine (decP _ true _ (by omega) Ht1).mono ?_); rintro e w4 ⟨rfl, hb4⟩

                  go_wp2_with fail
                  (with_reducible refine (cmpP _ _ r _ (by omega) (by omega) Hr).mono ?_); rintro e w5 ⟨rfl, hw5⟩; subst hw5

                  go_wp2_with fail
                  (with_reducible refine (folP _ _ false _ hLs2 (by omega) hld Hgy).mono ?_); rintro e w8 ⟨rfl, hb8⟩

                  go_wp2
                  go_ret2
                  exact RetPl.none_ (bt hb1.out (bt (bt (bt (bt hbl hb2) hb3) hb4) hb8)) hR.out
                · rw [hg] at hgy
                  have Hgy := Lib.hid hgy
                  have hN := Lib.hid (hrl.out.go hd.out hrun.out hg)
                  have hN := Lib.hid (show PlRel (L.map dat) (k + 1) (pO (k + 1) T) ((acc ++ [(F, T)]).map dd) by have h9 := hN.out; rw [List.map_append]; exact h9)
                  clear hg hgy hrl hrun hd

                  go_wp2_with fail
                  (with_reducible refine (cutP _ F T true _ (hM.below hbw) (by omega) hcut).mono ?_); rintro e w2 ⟨rfl, hb2⟩

                  go_wp2_with fail
                  (with_reducible refine (decP _ true _ (by omega) Hde).mono ?_); rintro e w3 ⟨rfl, hb3⟩

                  go_wp2_with fail
                  (with_reducible refine (decP _ true _ (by omega) Ht1).mono ?_); rintro e w4 ⟨rfl, hb4⟩

                  go_wp2_with fail
                  (with_reducible refine (cmpP _ _ r _ (by omega) (by omega) Hr).mono ?_); rintro e w5 ⟨rfl, hw5⟩; subst hw5

                  go_wp2_with fail
                  (with_reducible refine (folP _ _ true _ hLs2 (by omega) hld Hgy).mono ?_); rintro e w8 ⟨rfl, hb8⟩
                  have hO := own_below hown (bt (bt (bt hb2 hb3) hb4) hb8)

                  go_wp2_with (at_builtin; refine wpList_ap prE2 (w0 := w1) (hO.alloc _) (ba (bt (bt (bt (bt hbl hb2) hb3) hb4) hb8) _) [.string F, .string T] (alloc1_new _ _) ?_)
                  intro g0 cap0 w9 ho0 hb9 hg0
                  go_wp2
                  go_roundw
                  case rel => exact ⟨k + 1, T, acc ++ [(F, T)], by omega, by go_num, rfl, Lib.hid (by rw [List.length_append, hal.out]; rfl), hb9, by rw [prs_snoc]; exact ho0, hN, Lib.hid (LdP.next k acc hE9.out), Lib.hid (fun _ => by omega)⟩
                  case measure => (simp [intOf]) <;> omega
            · have r1 : 0 ≤ r := by
                rcases Int.lt_or_le r 0 with h9 | h9
                · exact absurd (hcm.1 h9) hlt
                · exact h9
              have hR := Lib.hid (plL_bad h45 (hptd.out ▸ hrl.out.bad hd.out (runP_no2 hno (.inr (.inr hlt)))))
              clear hc hx hno hde hdg hrl hd ht1 ht2 hcm hr hlt

              go_wp2_with fail
              (with_reducible refine (cutP _ F T true _ (hM.below hbw) (by omega) hcut).mono ?_); rintro e w2 ⟨rfl, hb2⟩

              go_wp2_with fail
              (with_reducible refine (decP _ true _ (by omega) Hde).mono ?_); rintro e w3 ⟨rfl, hb3⟩

              go_wp2_with fail
              (with_reducible refine (decP _ true _ (by omega) Ht1).mono ?_); rintro e w4 ⟨rfl, hb4⟩

              go_wp2_with fail
              (with_reducible refine (cmpP _ _ r _ (by omega) (by omega) Hr).mono ?_); rintro e w5 ⟨rfl, hw5⟩; subst hw5

              go_wp2
              go_ret2
              exact RetPl.none_ (bt hb1.out (bt (bt (bt hbl hb2) hb3) hb4)) hR.out
    case neg =>
      have i1 : ¬ ((k : Int) < (L.length : Int)) := by omega
      obtain ⟨hld, hll⟩ := hLd.out (by omega)
      have hps : runsP none (pts 44 [] s.data.toList) = some (acc.map dd) := by rw [← hptd.out]; exact hrl.out.done (by simp; omega)
      have hcm := (cmp_nat hld bigB.1).2
      rw [bigB.2] at hcm
      obtain ⟨r, hr⟩ : ∃ r, cmpI LST.data.toList (⟨#[49, 48, 48, 48, 48, 48, 48, 48, 48, 48]⟩ : ByteArray).data.toList = r := ⟨_, rfl⟩
      rw [hr] at hcm
      have Hr := Lib.hid hr
      have hLs2 : LST.size ≤ 1000000 := hLs.out (by omega)
      have hbw := bt hb1.out hbl
      by_cases hbig : 1000000000 < natL LST.data.toList
      · have r1 : 0 < r := hcm.2 hbig
        have hR := Lib.hid (plL_rng h45 hps (by rw [hll]; exact hbig))
        clear hld hll hps hcm hr hbig hrl hLd
        go_wp2_with fail
        (with_reducible refine (itoa_ 1000000000 _ q9 (by omega) (by omega) _ (hP.below hbw)).mono ?_); rintro e w6 ⟨rfl, hb6⟩
        go_wp2_with fail
        (with_reducible refine (cmpP _ _ r _ hLs2 (by decide) Hr).mono ?_); rintro e w6 ⟨rfl, hw⟩; subst hw
        go_wp2
        go_ret2
        exact RetPl.none_ (bt hbw hb6) hR.out
      · have r1 : ¬ (0 < r) := fun h9 => hbig (hcm.1 h9)
        have hall := runsP_all _ _ _ hps
        have hK : Hid (∀ x ∈ acc, digsL x.1.data.toList = true ∧ digsL x.2.data.toList = true ∧ natL x.1.data.toList ≤ natL x.2.data.toList ∧ natL x.2.data.toList ≤ 1000000000) := Lib.hid (by
          intro x hx
          have hm : dd x ∈ acc.map dd := List.mem_map.2 ⟨x, hx, rfl⟩
          obtain ⟨j1, j2, j3⟩ := hall.2.1 _ hm
          have j4 := hall.2.2.1 _ hm
          rw [hll] at j4
          exact ⟨j1, j2, j3, Nat.le_trans j4 (by omega)⟩)
        have hX3 := Lib.hid (fun h3 => plL_long h45 hps (by rw [hll]; exact hbig) h3)
        have hX0 := Lib.hid (fun h3 => plL_ok h45 hps (by rw [hll]; exact hbig) h3)
        have hal' := hal.out
        obtain rfl : k = acc.length := hal'.symm
        obtain ⟨A9, c9, rfl, hr9, hc9, hm9⟩ := own_sl hown
        clear hld hll hps hcm hr hbig hrl hLd hall hr1 hptd hown
        go_wp2_with fail
        (with_reducible refine (itoa_ 1000000000 _ q9 (by omega) (by omega) _ (hP.below hbw)).mono ?_); rintro e w6 ⟨rfl, hb6⟩
        go_wp2_with fail
        (with_reducible refine (cmpP _ _ r _ hLs2 (by decide) Hr).mono ?_); rintro e w6 ⟨rfl, hw⟩; subst hw
        have hb6w := Lib.hid (bt hbw hb6)
        have hr6 := Lib.hid ((hr9.go hb6))
        clear hb6 hbw hbl hb1 hr9 hLs hLsz Hr i1 hLs2
        go_wp2
        go_loopw [11, 84] (fun l i wr => ∃ (k : Nat) (out : List Int), k ≤ acc.length ∧ i = .int .i64 k ∧ Below w6.heap.size w6 wr ∧ wr.ownsRow w6.heap.size 3 1 l out.length (ivs out) ∧ out.length ≤ 500 ∧ Hid (out = numsP ((acc.map dd).take k))) (fun _ i _ => acc.length - (intOf i).toNat)
        case atStart => exact ⟨0, [], Nat.zero_le _, rfl, Below.refl _ _, World.ownsRow_nil _ _ _ _, by simp, Lib.hid rfl⟩
        case round =>
          obtain ⟨k, out, hka, rfl, hbl, hown, hol, hout⟩ := hrel
          by_cases hkl : k < acc.length
          case neg =>
            have i1 : ¬ ((k : Int) < (acc.length : Int)) := by omega
            have hR := Lib.hid (hX0.out (by have h9 := hout.out; rw [List.take_of_length_le (by simp; omega)] at h9; rw [← h9]; omega))
            have hO2 := Lib.hid (show ivs out = ivs (plL s.data.toList).1 ∧ out.length = (plL s.data.toList).1.length ∧ (plL s.data.toList).2 = 0 by
              rw [hR.out]; have h9 := hout.out; rw [List.take_of_length_le (by simp; omega)] at h9; rw [← h9]; exact ⟨rfl, rfl, rfl⟩)
            have hRb := Lib.hid (fun (v : Value) (W : World) (h : W.ownsRow w6.heap.size 3 1 v out.length (ivs out)) (hb : Below w.heap.size w W) => RetSl.of_own (w := w) h hb hO2.out.2.2 hO2.out.2.1 hO2.out.1)
            clear hR hO2 hX0 hX3 hK hout hr6
            go_wp2
            go_ret2
            exact hRb.out _ _ hown (bt hb6w.out hbl)
          case pos =>
            have i1 : (k : Int) < (acc.length : Int) := by omega
            obtain ⟨bk, off, rfl, hbk, hc1, hc2⟩ := hr6.out.at2 rfl hkl
            have hc1 := (hbl.cell (p := ⟨bk, off + k * 2, none⟩) hbk).trans hc1
            have hc2 := (hbl.cell (p := ⟨bk, off + k * 2 + 1, none⟩) hbk).trans hc2
            have hx := hK.out acc[k] (List.getElem_mem hkl)
            obtain ⟨F, hF⟩ : ∃ F, F = acc[k].1 := ⟨_, rfl⟩
            obtain ⟨E, hE⟩ : ∃ E, E = acc[k].2 := ⟨_, rfl⟩
            rw [← hF, ← hE] at hx
            rw [← hF] at hc1
            rw [← hE] at hc2
            obtain ⟨a, ha⟩ : ∃ a, a = natL F.data.toList := ⟨_, rfl⟩
            obtain ⟨b, hb⟩ : ∃ b, b = natL E.data.toList := ⟨_, rfl⟩
            obtain ⟨x1, x2, x3, x4⟩ := hx
            have t1 := Lib.hid (digs_atoi x1 (by omega))
            have t2 := Lib.hid (digs_atoi x2 x4)
            have s1 : F.size ≤ 10 := digs_short x1 (by omega)
            have s2 : E.size ≤ 10 := digs_short x2 x4
            rw [← ha] at t1 x3
            rw [← hb] at t2 x3 x4
            have htk : (acc.map dd).take (k + 1) = (acc.map dd).take k ++ [(F.data.toList, E.data.toList)] := by
              rw [List.take_add_one, List.getElem?_eq_getElem (by simpa using hkl), List.getElem_map, hF, hE]; rfl
            have hnR : numsR (F.data.toList, E.data.toList) = (List.range (b + 1 - a)).map fun i => ((a + i : Nat) : Int) := by unfold numsR; rw [ha, hb]
            have hout2 := Lib.hid (show numsP ((acc.map dd).take (k + 1)) = out ++ (List.range (b + 1 - a)).map fun i => ((a + i : Nat) : Int) by rw [htk, numsP_snoc, hnR, hout.out])
            have q1 : IntKind.i64.wrap ((b : Int) - (a : Int)) = (b : Int) - (a : Int) := IntWalk.i64_in _ (by omega)
            have q2 : IntKind.i64.wrap (500 - (out.length : Int)) = 500 - (out.length : Int) := IntWalk.i64_in _ (by omega)
            by_cases hfit : 500 < out.length + (b + 1 - a)
            · have i2 : 500 - (out.length : Int) ≤ (b : Int) - (a : Int) := by omega
              have hR := Lib.hid (hX3.out (by
                have h9 := numsP_take (acc.map dd) (k + 1)
                rw [hout2.out] at h9
                simp at h9
                omega))
              obtain ⟨A8, c8, rfl, _, _, _⟩ := own_sl hown
              clear hX0 hX3 hK hout hr6 hF hE x1 x2 ha hb htk hnR hout2 hfit
              go_wp2_with fail
              (with_reducible refine (atoiP _ a _ (by omega) t1).mono ?_); rintro e w7 ⟨rfl, hb7⟩
              have hB7 := bt (ba hbl _) hb7
              have n0 := Lib.cell_of_heap (below_blk hb7 (heap_lt (alloc1_new _ _)) (alloc1_new _ _)) 1
              go_wp2_with fail
              (with_reducible refine (atoiP _ b _ (by omega) t2).mono ?_); rintro e w8 ⟨rfl, hb8⟩
              have hB8 := bt hB7 hb8
              go_wp2
              go_ret2
              exact RetPl.none_ (bt hb6w.out hB8) hR.out
            · have i2 : ¬ (500 - (out.length : Int) ≤ (b : Int) - (a : Int)) := by omega
              have hown8 := hown.alloc (.cells #[.string F, .string E] 67 (0, 0))
              obtain ⟨A8, c8, rfl, _, _, _⟩ := own_sl hown
              clear hX0 hX3 hK hout hr6 hF hE x1 x2 ha hb htk hnR
              go_wp2_with fail
              (with_reducible refine (atoiP _ a _ (by omega) t1).mono ?_); rintro e w7 ⟨rfl, hb7⟩
              have hB7 := bt (ba hbl _) hb7
              have hown7 := own_below hown8 hb7
              have n0 := Lib.cell_of_heap (below_blk hb7 (heap_lt (alloc1_new _ _)) (alloc1_new _ _)) 1
              go_wp2_with fail
              (with_reducible refine (atoiP _ b _ (by omega) t2).mono ?_); rintro e w8 ⟨rfl, hb8⟩
              have hB8 := bt hB7 hb8
              have hown9 := own_below hown7 hb8
              clear hown8 hown7 hown n0 t1 t2 hB7 hb7 hb8 hbl hc1 hc2
              go_wp2
              go_loopw [11, 18] (fun l n wr => ∃ j : Nat, j ≤ b + 1 - a ∧ n = .int .i64 ((a + j : Nat) : Int) ∧ Below w6.heap.size w6 wr ∧ ∃ o2 : List Int, wr.ownsRow w6.heap.size 3 1 l o2.length (ivs o2) ∧ Hid (o2 = out ++ (List.range j).map fun i => ((a + i : Nat) : Int))) (fun _ n _ => b + 1 - (intOf n).toNat)
              case atStart => exact ⟨0, Nat.zero_le _, rfl, hB8, out, hown9, Lib.hid (by simp)⟩
              case round =>
                clear hown9 hB8
                obtain ⟨j, hj, rfl, hbl, o2, hown, ho2⟩ := hrel
                have ho9 : o2.length ≤ 500 := by rw [ho2.out]; simp; omega
                by_cases hjb : a + j ≤ b
                · have i3 : ((a + j : Nat) : Int) ≤ (b : Int) := by omega
                  go_wp2_with (at_builtin; refine wpList_ap intEl (w0 := w6) (hown.alloc _) (ba hbl _) [.int .i64 ((a + j : Nat) : Int)] (alloc1_new _ _) ?_)
                  intro g0 cap0 w9 ho0 hb9 hg0
                  go_wp2
                  go_roundw
                  case rel => exact ⟨j + 1, by omega, by go_num, hb9, o2 ++ [((a + j : Nat) : Int)], by simpa using ho0, Lib.hid (by rw [ho2.out, List.range_succ, List.map_append, ← List.append_assoc]; rfl)⟩
                  case measure => (simp [intOf]) <;> omega
                · have i3 : ¬ (((a + j : Nat) : Int) ≤ (b : Int)) := by omega
                  obtain rfl : j = b + 1 - a := by omega
                  go_wp2
                  go_roundw
                  case rel => exact ⟨k + 1, o2, by omega, by go_num, hbl, hown, ho9, Lib.hid (by rw [ho2.out]; exact hout2.out.symm)⟩
                  case measure => (simp [intOf]) <;> omega
end Go.Proofs.YtngbgchnbcfliaaGreatDoor
