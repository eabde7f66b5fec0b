/- words: ParseList of the reference. No condition. -/
import Derived.Test.YtngbgchnbcfliaaGreatDoorP11
import Derived.Test.YtngbgchnbcfliaaGreatDoorN15
import Derived.Test.YtngbgchnbcfliaaGreatDoorP6
namespace Go.Proofs.YtngbgchnbcfliaaGreatDoor
open Go.RowKit
/-- append to a row beside another one -/
theorem wpList_ap2 {P : Program} {w : World} {ops : Array Oper} {rest : List Oper} {o : Oper} {a : Act} {Q : Exit → Act → World → Prop} {e : TypeId} {z : Value} {size bytes : Nat} {t : TypeId} (E : Elem P t e z size bytes)
    {w0 : World} {v : Value} {n : Nat} {xs : List Value} (hown : w.ownsRow w0.heap.size e size v n xs) (hb : Below w0.heap.size w0 w)
    {e2 : TypeId} {size2 n2 : Nat} {v2 : Value} {xs2 : List Value} (hown2 : w.ownsRow w0.heap.size e2 size2 v2 n2 xs2) (hne : v.ownBlock = none ∨ v.ownBlock ≠ v2.ownBlock)
    (cs : List Value) {G : Nat} (hG : w.heap[G]? = some (.cells cs.toArray e (0, 0))) {s x : Operand} {m c : Nat}
    (h : ∀ g cap w', w'.ownsRow w0.heap.size e size (.slice (some ⟨g, 0, none⟩) (n + m) cap) (n + m) (xs ++ cs) → Below w0.heap.size w0 w' → w'.ownsRow w0.heap.size e2 size2 v2 n2 xs2 → v2.ownBlock ≠ some g → wpList P ops Q rest (a.put o.dst (.slice (some ⟨g, 0, none⟩) (n + m) cap)) w')
    (hgd : o.guard = none := by rfl) (ho : o.op = .call { callee := .builtin .append, args := #[s, x], argTypes := #[t, t] } := by rfl) (hty : o.type = t := by rfl)
    (hs : a.eval s = v := by rfl) (hx : a.eval x = .slice (some ⟨G, 0, none⟩) m c := by rfl) (hl : cs.length = m * size := by rfl) (h1 : ∀ u ∈ cs, u.oneCell' = true := by simp [Value.oneCell'])
    (hm : 0 < m := by omega) (hbytes : (n + m) * bytes ≤ 140737488355328 := by omega) (h63 : n + m ≤ 140737488355328 := by omega) :
    wpList P ops Q (o :: rest) a w := by
  obtain ⟨i, hi, hz0, hz1, hz2⟩ := info_parts E.hi
  refine wpList_append_lies w hgd s x t ho w0.heap.size e i z size bytes (hty ▸ E.ht) hi hz0 hz1 hz2 E.hz E.hs v n xs hs hown ⟨G, 0, none⟩ m c cs hx hl (World.news_of_block hG) h1 hm (by unfold maxLen; omega) hbytes hb.size _ rfl
    fun g cap w' h2 h3 h4 _ => h g cap w' h2 (below_own hb hown h3) (hown2.kept h3 ?_) ?_
  · by_cases e : v2.ownBlock = none
    · exact .inl e
    · refine .inr fun e2 => ?_
      rcases hne with h5 | h5
      · exact e (e2.trans h5)
      · exact h5 e2.symm
  · intro e2
    rcases h4 with h4 | h4
    · rcases hne with h5 | h5
      · rw [h5] at h4; cases h4
      · exact h5 (h4.trans e2.symm)
    · have := (hown2.lt _ e2).2
      omega
theorem pts45_len {t : List UInt8} (h : (45 : UInt8) ∈ t) : 2 ≤ (pts 45 [] t).length := by
  rw [pts_len]
  have := List.count_pos_iff.2 h
  omega
theorem rparts1 (s : ByteArray) (w : World) (hs : s.size ≤ 1000000) (h : Hid ((45 : UInt8) ∉ s.data.toList)) :
    Calls Tryz.prog 33 #[.string s, .int .u8 45] w fun e w' => (∃ b off cap, e = .returned (.slice (some ⟨b, off, none⟩) 1 cap) ∧ b < w'.heap.size ∧ w'.cell? ⟨b, off, none⟩ = some (.string s)) ∧ Below w.heap.size w w' := by
  have hL : ptsB 45 s = [s] := by unfold ptsB; rw [pts_no 45 _ _ h.out]; simp [mkB_back]
  refine (rparts_ s 45 45 (Lib.hid rfl) w (by omega) (Lib.hid hL)).mono ?_
  rintro e w' ⟨⟨A, cap, rfl, hr, hc⟩, hb⟩
  obtain ⟨b, off, rfl, hlt, hc⟩ := sbAt (k := 0) hr rfl (by simp)
  exact ⟨⟨b, off, cap, rfl, hlt, hc⟩, hb⟩
theorem rparts2 (s F T : ByteArray) (w : World) (hs : s.size ≤ 1000000) (hF : Hid ((45 : UInt8) ∉ F.data.toList)) (hT : Hid ((45 : UInt8) ∉ T.data.toList)) (h : Hid (s.data.toList = F.data.toList ++ 45 :: T.data.toList)) :
    Calls Tryz.prog 33 #[.string s, .int .u8 45] w fun e w' => (∃ b off cap, e = .returned (.slice (some ⟨b, off, none⟩) 2 cap) ∧ b < w'.heap.size ∧ w'.cell? ⟨b, off, none⟩ = some (.string F) ∧ w'.cell? ⟨b, off + 1, none⟩ = some (.string T)) ∧ Below w.heap.size w w' := by
  have hL : ptsB 45 s = [F, T] := by unfold ptsB; rw [h.out, pts_app 45 _ _ _ hF.out, pts_no 45 _ _ hT.out]; simp [mkB_back]
  refine (rparts_ s 45 45 (Lib.hid rfl) w (by omega) (Lib.hid hL)).mono ?_
  rintro e w' ⟨⟨A, cap, rfl, hr, hc⟩, hb⟩
  obtain ⟨b, off, hA, hlt, hc1⟩ := sbAt (k := 0) hr rfl (by simp)
  subst hA
  obtain ⟨b2, off2, hA, hlt2, hc2⟩ := sbAt (k := 1) hr rfl (by simp)
  injection hA with hA; injection hA with a1 a2; subst a1 a2
  exact ⟨⟨b, off, cap, rfl, hlt, hc1, hc2⟩, hb⟩
theorem rparts3 (s F T : ByteArray) (w : World) (hs : s.size ≤ 1000000) (hF : Hid ((45 : UInt8) ∉ F.data.toList)) (hT : Hid ((45 : UInt8) ∈ T.data.toList)) (h : Hid (s.data.toList = F.data.toList ++ 45 :: T.data.toList)) :
    Calls Tryz.prog 33 #[.string s, .int .u8 45] w fun e w' => (∃ A n cap, e = .returned (.slice A n cap) ∧ (2 : Int) < (n : Int)) ∧ Below w.heap.size w w' := by
  have hl : 2 < (ptsB 45 s).length := by
    unfold ptsB
    rw [h.out, pts_app 45 _ _ _ hF.out, List.length_map, List.length_cons]
    have := pts45_len hT.out
    omega
  refine (rparts_ s 45 45 (Lib.hid rfl) w (by omega) (Lib.hid rfl)).mono ?_
  rintro e w' ⟨⟨A, cap, rfl, hr, hc⟩, hb⟩
  exact ⟨⟨A, _, cap, rfl, by omega⟩, hb⟩
theorem rdecQ (s : ByteArray) (b : Bool) (w : World) (hs : s.size ≤ 1000000) (h : Hid (decL s.data.toList = b)) :
    Calls Tryz.prog 34 #[.string s] w fun e w' => e = .returned (.bool b) ∧ w' = w := by
  rw [← h.out]; exact decimal_q s w (by omega)
theorem rlessQ (a b : ByteArray) (r : Bool) (w : World) (h : Hid (decide (cmpI a.data.toList b.data.toList < 0) = r)) :
    Calls Tryz.prog 35 #[.string a, .string b] w fun e w' => e = .returned (.bool r) ∧ w' = w := by
  rw [← h.out]; exact rless_ a b w
theorem rintQ (s : ByteArray) (v : Nat) (w : World) (hs : s.size ≤ 1000000) (h : Hid (intR s.data.toList 0 1000000000 = ((v : Int), 0))) :
    Calls Tryz.prog 37 #[.string s, .int .i64 0, .int .i64 1000000000] w fun e w' => e = .returned (.tuple #[.int .i64 (v : Int), .int .i64 0]) ∧ Below w.heap.size w w' := by
  have := rint_ s 0 1000000000 w (by omega)
  rw [h.out] at this
  exact this
theorem digs_intR {l : List UInt8} (h : digsL l = true) (h2 : natL l ≤ 1000000000) : intR l 0 1000000000 = ((natL l : Int), 0) := by
  obtain ⟨h3, h4⟩ := digs_decL h
  unfold intR
  rw [if_neg (by simp [h3]), h4, if_neg (by omega)]
theorem lt_dec {a b : List UInt8} (ha : digsL a = true) (hb : digsL b = true) : decide (cmpI a b < 0) = decide (natL a < natL b) := by
  rw [decide_eq_decide]; exact (cmp_nat ha hb).1
theorem sb_fst (acc : List (ByteArray × ByteArray)) (F E : ByteArray) : Ssb ((acc ++ [(F, E)]).map Prod.fst) = Ssb (acc.map Prod.fst) ++ [.string F] := by simp
theorem sb_snd (acc : List (ByteArray × ByteArray)) (F E : ByteArray) : Ssb ((acc ++ [(F, E)]).map Prod.snd) = Ssb (acc.map Prod.snd) ++ [.string E] := by simp
theorem own_dr {w : World} {base : Nat} {e : TypeId} {size n : Nat} {v : Value} {xs : List Value} (h : w.ownsRow base e size v n xs) (j : Nat) : (w.drewN j).ownsRow base e size v n xs := h
theorem no45_not {t : List UInt8} (h : (45 : UInt8) ∈ t) : digsL t = false := by
  rcases hd : digsL t with _ | _
  · rfl
  · exact absurd h (digs_no45 hd)

set_option maxRecDepth 100000 in
set_option maxHeartbeats 40000000 in
theorem rplist_ (s : ByteArray) (w : World) (hs : s.size ≤ 1000000) :
    Calls Tryz.prog 10 #[.string s] w (RetPl w (plL s.data.toList)) := by
  by_cases hds : s.data.toList = [45]
  · have hR := Lib.hid (show plL s.data.toList = ([], 0) by rw [hds]; rfl)
    have hse : s = ⟨#[45]⟩ := by apply ByteArray.ext; apply Array.toList_inj.1; exact hds
    have hsb : (s.toList == [45]) = true := by rw [hse, ByteArray.toList_eq]; rfl
    clear hds hse
    go_enter Tryz.func10, Tryz.ntmps10
    go_wp2
    go_ret2
    exact RetPl.none_ (Below.refl _ _) hR.out
  have hsb : (s.toList == [45]) = false := by
    rw [beq_eq_false_iff_ne]
    intro e
    exact hds (by rw [← e, ByteArray.toList_eq])
  have h45 := hds
  clear hds
  obtain ⟨L, hL⟩ : ∃ L, Hid (ptsB 44 s = L) := ⟨_, Lib.hid rfl⟩
  have hLl := ptsB_size 44 s
  rw [hL.out] at hLl
  obtain ⟨hL1, hL2⟩ := hLl
  have hLsz : Hid (∀ x ∈ L, x.size ≤ s.size) := Lib.hid (by rw [← hL.out]; intro x hx; exact ptsB_sz hx)
  have hptd : Hid (L.map dat = pts 44 [] s.data.toList) := Lib.hid (by rw [← hL.out]; exact ptsB_dat 44 s)
  go_enter Tryz.func10, Tryz.ntmps10
  go_wp2_with fail
  (with_reducible refine (rparts_ s 44 44 (Lib.hid rfl) _ (by omega) hL).mono ?_); rintro e w1 ⟨⟨A1, cap1, rfl, hr1, hcap1⟩, hb1⟩
  have hr1 := Lib.hid hr1
  have hb1 := Lib.hid hb1
  clear hL
  go_wp2
  go_loopw [4, 5, 6, 8] (fun l v u i wr => ∃ (k : Nat) (LST : ByteArray) (acc : List (ByteArray × ByteArray)), k ≤ L.length ∧ i = .int .i64 k ∧ l = .string LST ∧ Hid (acc.length = k) ∧ Below w1.heap.size w1 wr ∧ wr.ownsRow w1.heap.size 9 1 v k (Ssb (acc.map Prod.fst)) ∧ wr.ownsRow w1.heap.size 9 1 u k (Ssb (acc.map Prod.snd)) ∧ (v.ownBlock = none ∨ v.ownBlock ≠ u.ownBlock) ∧ Hid (PlRel (L.map dat) k (pO k LST) (acc.map dd)) ∧ Hid (LdP k LST acc) ∧ Hid (0 < k → LST.size ≤ 1000000)) (fun _ _ _ i _ => L.length - (intOf i).toNat)
  case atStart => exact ⟨0, ⟨#[]⟩, [], Nat.zero_le _, rfl, rfl, Lib.hid rfl, Below.refl _ _, World.ownsRow_nil _ _ _ _, World.ownsRow_nil _ _ _ _, .inl rfl, Lib.hid (PlRel.start _), Lib.hid (fun h => absurd h (by omega)), Lib.hid (fun h => absurd h (by omega))⟩
  case round =>
    obtain ⟨k, LST, acc, hkl, rfl, rfl, hal, hbl, hown, hown2, hne, hrl, hLd, hLs⟩ := hrel
    by_cases hkL : k < L.length
    case pos =>
      have i1 : (k : Int) < (L.length : Int) := by omega
      obtain ⟨bk, off, rfl, hbk, hcell⟩ := sbAt hr1.out rfl hkL
      have hcell := (hbl.cell (p := ⟨bk, off + k, none⟩) hbk).trans hcell
      have hbw := bt hb1.out hbl
      have hks : L[k].size ≤ 1000000 := by have := hLsz.out L[k] (List.getElem_mem hkL); omega
      rcases cut_cases 45 L[k].data.toList with ⟨hno, hc⟩ | ⟨a, t, hx, hno, hc⟩
      · have hd := Lib.hid (datDrop hkL)
        have hno9 := Lib.hid hno
        have hde := decL_no45 (no45_head hno)
        rcases hdg : digsL L[k].data.toList with _ | _
        · rw [hdg] at hde
          have Hde := Lib.hid hde
          have hR := Lib.hid (plL_bad h45 (hptd.out ▸ hrl.out.bad hd.out (runP_no1 hno hdg)))
          clear hc hno hde hdg hrl hd

          go_wp2_with fail
          (with_reducible refine (rparts1 L[k] _ hks hno9).mono ?_); rintro e w2 ⟨⟨b2, o2, c2, rfl, hlt2, hc0⟩, hb2⟩

          go_wp2
          go_quiet ((first | (go_at_call 34; exact Calls.quiet_of_same (rdecQ L[k] false _ (by omega) Hde))))

          go_wp2
          go_ret2
          exact RetPl.none_ (bt hb1.out (bd (bt hbl hb2) _)) hR.out
        · rw [hdg] at hde
          have Hde := Lib.hid hde
          have hrun := Lib.hid (runP_fst hno hdg)
          have hF9 := Lib.hid hdg
          have hE9 := Lib.hid hdg
          clear hc hno hde hdg

          obtain ⟨rg, hg⟩ : ∃ rg, gapB (pO k LST) (natL (dat L[k])) = rg := ⟨_, rfl⟩
          have Hg := Lib.hid hg
          clear hg

          go_wp2_with fail
          (with_reducible refine (rparts1 L[k] _ hks hno9).mono ?_); rintro e w2 ⟨⟨b2, o2, c2, rfl, hlt2, hc0⟩, hb2⟩

          go_wp2
          go_quiet ((first | (go_at_call 34; exact Calls.quiet_of_same (rdecQ L[k] true _ (by omega) Hde))))

          have hB2 := bt hbl hb2
          go_upto_region 12 with fail
          go_cut [74] (fun b wx => b = .bool (!rg) ∧ Below w2.heap.size w2 wx)
          case first =>
            by_cases hk0 : k = 0
            · have i0 : ¬ ((0 : Int) < (k : Int)) := by omega
              have g0 : decide ((0 : Int) < (k : Int)) = false := decide_eq_false i0
              have g1 : decide (0 < k) = false := decide_eq_false (by omega)
              have hrg : rg = true := by rw [← Hg.out]; unfold pO; rw [if_pos hk0]; rfl
              subst hrg
              clear hk0 hrl hrun hd
              go_wp2
              go_quiet (fail)
              go_wp2
              go_meet
              exact ⟨rfl, by first | exact bd (bd (Below.refl _ _) _) _ | exact bd (Below.refl _ _) _⟩
            · have i0 : (0 : Int) < (k : Int) := by omega
              have g0 : decide ((0 : Int) < (k : Int)) = true := decide_eq_true i0
              have g1 : decide (0 < k) = true := decide_eq_true (by omega)
              have hgy := gap_yes hLd.out (by omega) hF9.out
              have hld := (hLd.out (by omega)).1
              have hLs2 : LST.size ≤ 1000000 := hLs.out (by omega)
              have HNx := Lib.hid (fun W : World => rnext_ LST W hLs2 hld)
              rw [Hg.out] at hgy
              have Hgy := Lib.hid hgy
              clear hgy hrl hrun hd hld hk0
              go_wp2
              go_region_with ((first
                | (go_at_call 36; refine (HNx.out _).mono ?_; rintro e w8 ⟨⟨V, rfl, hV, hVs⟩, hb8⟩; have hc0 := (Below.cell hb8 (p := ⟨b2, o2, none⟩) hlt2).trans hc0)
                | (go_at_call 35; refine (rlessQ _ L[k] rg _ (by rw [hV]; exact Hgy)).mono ?_; rintro e w9 ⟨rfl, hw9⟩; subst hw9)))
              all_goals
                go_wp2_with fail
                go_meet
                exact ⟨rfl, bt (bd (Below.refl _ _) _) hb8⟩
          case rest =>
            cases rg
            · obtain ⟨rfl, hcut⟩ := hcut
              have hR := Lib.hid (plL_bad h45 (hptd.out ▸ hrl.out.gap hd.out hrun.out Hg.out))
              clear Hg hrl hrun hd hc0
              rw [Bool.not_false]

              go_wp2
              go_ret2
              exact RetPl.none_ (bt hb1.out (bt hB2 hcut)) hR.out
            · obtain ⟨rfl, hcut⟩ := hcut
              have hN := Lib.hid (hrl.out.go hd.out hrun.out Hg.out)
              have hN := Lib.hid (show PlRel (L.map dat) (k + 1) (pO (k + 1) L[k]) ((acc ++ [(L[k], L[k])]).map dd) by have h9 := hN.out; rw [List.map_append]; exact h9)
              have hc0 := (Below.cell hcut (p := ⟨b2, o2, none⟩) hlt2).trans hc0

              have hO1 := own_below (own_below hown hb2) hcut
              have hO2 := own_below (own_below hown2 hb2) hcut
              have hB3 := bt hB2 hcut
              clear Hg hrl hrun hd hcut hown hown2
              rw [Bool.not_true]

              go_wp2_with (at_builtin; refine wpList_ap2 strE2 (w0 := w1) (hO1.alloc _) (ba hB3 _) (hO2.alloc _) hne [.string L[k]] (alloc1_new _ _) ?_)
              intro g0 cap0 w9 ho0 hb9 hq9 hg9
              go_wp2_with (at_builtin; refine wpList_ap2 strE2 (w0 := w1) (hq9.alloc _) (ba hb9 _) (ho0.alloc _) (.inr hg9) [.string L[k]] (alloc1_new _ _) ?_)
              intro g1 cap1 w10 ho1 hb10 hq10 hg10
              go_wp2
              go_roundw
              case rel => exact ⟨k + 1, L[k], acc ++ [(L[k], L[k])], by omega, by go_num, rfl, Lib.hid (by rw [List.length_append, hal.out]; rfl), hb10, by simpa using hq10, by simpa using ho1, .inr hg10, hN, Lib.hid (LdP.next k acc hE9.out), Lib.hid (fun _ => by omega)⟩
              case measure => (simp [intOf]) <;> omega
      · have hlen := cut_len 45 L[k] a t true hc
        obtain ⟨F, hF⟩ : ∃ F, F = mkB a := ⟨_, rfl⟩
        obtain ⟨T, hT⟩ : ∃ T, T = mkB t := ⟨_, rfl⟩
        have hFd : a = F.data.toList := by rw [hF, mkB_dat]
        have hTd : t = T.data.toList := by rw [hT, mkB_dat]
        rw [← hF, ← hT] at hlen
        obtain ⟨hFs, hTs⟩ := hlen
        clear hF hT
        subst hFd hTd
        have hx9 := Lib.hid hx
        have hno9 := Lib.hid hno
        have hd := datDrop hkL
        unfold dat at hd
        rw [hx] at hd
        have hd := Lib.hid hd
        have hde := decL_no45 (no45_head hno)
        by_cases hnt : (45 : UInt8) ∈ T.data.toList
        · have hR := Lib.hid (plL_bad h45 (hptd.out ▸ hrl.out.bad hd.out (runP_no2 hno (.inr (.inl (no45_not hnt))))))
          have hnt9 := Lib.hid hnt
          clear hc hx hno hde hrl hd hnt

          go_wp2_with fail
          (with_reducible refine (rparts3 L[k] F T _ hks hno9 hnt9 hx9).mono ?_); rintro e w2 ⟨⟨A2, n2, c2, rfl, hn2⟩, hb2⟩

          have g2 : decide ((2 : Int) < (n2 : Int)) = true := decide_eq_true hn2
          have g3 : decide (2 < n2) = true := decide_eq_true (by omega)
          go_wp2
          go_quiet (fail)

          go_wp2
          go_ret2
          exact RetPl.none_ (bt hb1.out (bd (bt hbl hb2) _)) hR.out
        · have hnt9 := Lib.hid hnt
          have hdt := decL_no45 (no45_head hnt)
          rcases hdg : digsL F.data.toList with _ | _
          · rw [hdg] at hde
            have Hde := Lib.hid hde
            have hR := Lib.hid (plL_bad h45 (hptd.out ▸ hrl.out.bad hd.out (runP_no2 hno (.inl hdg))))
            clear hc hx hno hde hdg hrl hd hnt hdt

            go_wp2_with fail
            (with_reducible refine (rparts2 L[k] F T _ hks hno9 hnt9 hx9).mono ?_); rintro e w2 ⟨⟨b2, o2, c2, rfl, hlt2, hc0, hc1⟩, hb2⟩

            go_wp2
            go_quiet ((first | (go_at_call_of 34 (Value.string F); exact Calls.quiet_of_same (rdecQ F false _ (by omega) Hde))))

            go_wp2
            go_ret2
            exact RetPl.none_ (bt hb1.out (bd (bt hbl hb2) _)) hR.out
          · rw [hdg] at hde
            have Hde := Lib.hid hde
            rcases hdg2 : digsL T.data.toList with _ | _
            · rw [hdg2] at hdt
              have Hdt := Lib.hid hdt
              have hR := Lib.hid (plL_bad h45 (hptd.out ▸ hrl.out.bad hd.out (runP_no2 hno (.inr (.inl hdg2)))))
              clear hc hx hno hde hdg hrl hd hnt hdt hdg2

              go_wp2_with fail
              (with_reducible refine (rparts2 L[k] F T _ hks hno9 hnt9 hx9).mono ?_); rintro e w2 ⟨⟨b2, o2, c2, rfl, hlt2, hc0, hc1⟩, hb2⟩

              go_wp2
              go_quiet ((first | (go_at_call_of 34 (Value.string F); exact Calls.quiet_of_same (rdecQ F true _ (by omega) Hde)) | (go_at_call_of 34 (Value.string T); exact Calls.quiet_of_same (rdecQ T false _ (by omega) Hdt))))

              go_wp2
              go_ret2
              exact RetPl.none_ (bt hb1.out (bd (bt hbl hb2) _)) hR.out
            · rw [hdg2] at hdt
              have Hdt := Lib.hid hdt
              have hle := lt_dec hdg hdg2
              by_cases hlt : natL F.data.toList < natL T.data.toList
              · rw [decide_eq_true hlt] at hle
                have Hle := Lib.hid hle
                have hrun := Lib.hid (runP_snd hno hdg hdg2 hlt)
                have hF9 := Lib.hid hdg
                have hE9 := Lib.hid hdg2
                clear hc hx hno hde hdg hnt hdt hdg2 hle hlt

                obtain ⟨rg, hg⟩ : ∃ rg, gapB (pO k LST) (natL (dat F)) = rg := ⟨_, rfl⟩
                have Hg := Lib.hid hg
                clear hg

                go_wp2_with fail
                (with_reducible refine (rparts2 L[k] F T _ hks hno9 hnt9 hx9).mono ?_); rintro e w2 ⟨⟨b2, o2, c2, rfl, hlt2, hc0, hc1⟩, hb2⟩

                go_wp2
                go_quiet ((first | (go_at_call_of 34 (Value.string F); exact Calls.quiet_of_same (rdecQ F true _ (by omega) Hde)) | (go_at_call_of 34 (Value.string T); exact Calls.quiet_of_same (rdecQ T true _ (by omega) Hdt)) | (go_at_call 35; exact Calls.quiet_of_same (rlessQ F T true _ Hle))))

                have hB2 := bt hbl hb2
                go_upto_region 12 with fail
                go_cut [74] (fun b wx => b = .bool (!rg) ∧ Below w2.heap.size w2 wx)
                case first =>
                  by_cases hk0 : k = 0
                  · have i0 : ¬ ((0 : Int) < (k : Int)) := by omega
                    have g0 : decide ((0 : Int) < (k : Int)) = false := decide_eq_false i0
                    have g1 : decide (0 < k) = false := decide_eq_false (by omega)
                    have hrg : rg = true := by rw [← Hg.out]; unfold pO; rw [if_pos hk0]; rfl
                    subst hrg
                    clear hk0 hrl hrun hd
                    go_wp2
                    go_quiet (fail)
                    go_wp2
                    go_meet
                    exact ⟨rfl, by first | exact bd (bd (Below.refl _ _) _) _ | exact bd (Below.refl _ _) _⟩
                  · have i0 : (0 : Int) < (k : Int) := by omega
                    have g0 : decide ((0 : Int) < (k : Int)) = true := decide_eq_true i0
                    have g1 : decide (0 < k) = true := decide_eq_true (by omega)
                    have hgy := gap_yes hLd.out (by omega) hF9.out
                    have hld := (hLd.out (by omega)).1
                    have hLs2 : LST.size ≤ 1000000 := hLs.out (by omega)
                    have HNx := Lib.hid (fun W : World => rnext_ LST W hLs2 hld)
                    rw [Hg.out] at hgy
                    have Hgy := Lib.hid hgy
                    clear hgy hrl hrun hd hld hk0
                    go_wp2
                    go_region_with ((first
                      | (go_at_call 36; refine (HNx.out _).mono ?_; rintro e w8 ⟨⟨V, rfl, hV, hVs⟩, hb8⟩; have hc0 := (Below.cell hb8 (p := ⟨b2, o2, none⟩) hlt2).trans hc0)
                      | (go_at_call 35; refine (rlessQ _ F rg _ (by rw [hV]; exact Hgy)).mono ?_; rintro e w9 ⟨rfl, hw9⟩; subst hw9)))
                    all_goals
                      go_wp2_with fail
                      go_meet
                      exact ⟨rfl, bt (bd (Below.refl _ _) _) hb8⟩
                case rest =>
                  cases rg
                  · obtain ⟨rfl, hcut⟩ := hcut
                    have hR := Lib.hid (plL_bad h45 (hptd.out ▸ hrl.out.gap hd.out hrun.out Hg.out))
                    clear Hg hrl hrun hd hc0
                    rw [Bool.not_false]

                    go_wp2
                    go_ret2
                    exact RetPl.none_ (bt hb1.out (bt hB2 hcut)) hR.out
                  · obtain ⟨rfl, hcut⟩ := hcut
                    have hN := Lib.hid (hrl.out.go hd.out hrun.out Hg.out)
                    have hN := Lib.hid (show PlRel (L.map dat) (k + 1) (pO (k + 1) T) ((acc ++ [(F, T)]).map dd) by have h9 := hN.out; rw [List.map_append]; exact h9)
                    have hc0 := (Below.cell hcut (p := ⟨b2, o2, none⟩) hlt2).trans hc0
                    have hc1 := (Below.cell hcut (p := ⟨b2, o2 + 1, none⟩) hlt2).trans hc1

                    have hO1 := own_below (own_below hown hb2) hcut
                    have hO2 := own_below (own_below hown2 hb2) hcut
                    have hB3 := bt hB2 hcut
                    clear Hg hrl hrun hd hcut hown hown2
                    rw [Bool.not_true]

                    go_wp2_with (at_builtin; refine wpList_ap2 strE2 (w0 := w1) (hO1.alloc _) (ba hB3 _) (hO2.alloc _) hne [.string F] (alloc1_new _ _) ?_)
                    intro g0 cap0 w9 ho0 hb9 hq9 hg9
                    go_wp2_with (at_builtin; refine wpList_ap2 strE2 (w0 := w1) (hq9.alloc _) (ba hb9 _) (ho0.alloc _) (.inr hg9) [.string T] (alloc1_new _ _) ?_)
                    intro g1 cap1 w10 ho1 hb10 hq10 hg10
                    go_wp2
                    go_roundw
                    case rel => exact ⟨k + 1, T, acc ++ [(F, T)], by omega, by go_num, rfl, Lib.hid (by rw [List.length_append, hal.out]; rfl), hb10, by simpa using hq10, by simpa using ho1, .inr hg10, hN, Lib.hid (LdP.next k acc hE9.out), Lib.hid (fun _ => by omega)⟩
                    case measure => (simp [intOf]) <;> omega
              · rw [decide_eq_false hlt] at hle
                have Hle := Lib.hid hle
                have hR := Lib.hid (plL_bad h45 (hptd.out ▸ hrl.out.bad hd.out (runP_no2 hno (.inr (.inr hlt)))))
                clear hc hx hno hde hdg hrl hd hnt hdt hdg2 hle hlt

                go_wp2_with fail
                (with_reducible refine (rparts2 L[k] F T _ hks hno9 hnt9 hx9).mono ?_); rintro e w2 ⟨⟨b2, o2, c2, rfl, hlt2, hc0, hc1⟩, hb2⟩

                go_wp2
                go_quiet ((first | (go_at_call_of 34 (Value.string F); exact Calls.quiet_of_same (rdecQ F true _ (by omega) Hde)) | (go_at_call_of 34 (Value.string T); exact Calls.quiet_of_same (rdecQ T true _ (by omega) Hdt)) | (go_at_call 35; exact Calls.quiet_of_same (rlessQ F T false _ Hle))))

                go_wp2
                go_ret2
                exact RetPl.none_ (bt hb1.out (bd (bt hbl hb2) _)) hR.out
    case neg =>
      have i1 : ¬ ((k : Int) < (L.length : Int)) := by omega
      obtain ⟨hld, hll⟩ := hLd.out (by omega)
      have hps : runsP none (pts 44 [] s.data.toList) = some (acc.map dd) := by rw [← hptd.out]; exact hrl.out.done (by simp; omega)
      have hcm := (cmp_nat bigB.1 hld).1
      rw [bigB.2] at hcm
      have hbw := bt hb1.out hbl
      obtain ⟨D, hD⟩ : ∃ D, D = Dg 1000000000 := ⟨_, rfl⟩
      have hD9 := Lib.hid hD
      rw [dgBig] at hD
      by_cases hbig : 1000000000 < natL LST.data.toList
      · have Hr := Lib.hid (show decide (cmpI D.data.toList LST.data.toList < 0) = true by rw [hD]; exact decide_eq_true (hcm.2 hbig))
        have hR := Lib.hid (plL_rng h45 hps (by rw [hll]; exact hbig))
        clear hld hll hps hcm hbig hrl hLd hD
        go_wp2_with fail
        (with_reducible refine (rdigN 1000000000 D hD9 (by omega) (by omega) _).mono ?_); rintro e w6 ⟨rfl, hb6⟩
        go_wp2_with fail
        (with_reducible refine (rlessQ _ _ true _ Hr).mono ?_); rintro e w6 ⟨rfl, hw⟩; subst hw
        go_wp2
        go_ret2
        exact RetPl.none_ (bt hbw hb6) hR.out
      · have Hr := Lib.hid (show decide (cmpI D.data.toList LST.data.toList < 0) = false by rw [hD]; exact decide_eq_false (fun h9 => hbig (hcm.1 h9)))
        have hall := runsP_all _ _ _ hps
        have hK : Hid (∀ x ∈ acc, digsL x.1.data.toList = true ∧ digsL x.2.data.toList = true ∧ natL x.1.data.toList ≤ natL x.2.data.toList ∧ natL x.2.data.toList ≤ 1000000000) := Lib.hid (by
          intro x hx
          have hm : dd x ∈ acc.map dd := List.mem_map.2 ⟨x, hx, rfl⟩
          obtain ⟨j1, j2, j3⟩ := hall.2.1 _ hm
          have j4 := hall.2.2.1 _ hm
          rw [hll] at j4
          exact ⟨j1, j2, j3, Nat.le_trans j4 (by omega)⟩)
        have hX3 := Lib.hid (fun h3 => plL_long h45 hps (by rw [hll]; exact hbig) h3)
        have hX0 := Lib.hid (fun h3 => plL_ok h45 hps (by rw [hll]; exact hbig) h3)
        have hal' := hal.out
        obtain rfl : k = acc.length := hal'.symm
        have hLl : L.length = acc.length := by omega
        rw [hLl] at hr1 ⊢
        obtain ⟨A9, c9, rfl, hr9, hc9, hm9⟩ := own_sl hown
        obtain ⟨A8, c8, rfl, hr8, hc8, hm8⟩ := own_sl hown2
        clear hld hll hps hcm hbig hrl hLd hall hr1 hptd hown hown2 hne hD
        go_wp2_with fail
        (with_reducible refine (rdigN 1000000000 D hD9 (by omega) (by omega) _).mono ?_); rintro e w6 ⟨rfl, hb6⟩
        go_wp2_with fail
        (with_reducible refine (rlessQ _ _ false _ Hr).mono ?_); rintro e w6 ⟨rfl, hw⟩; subst hw
        have hb6w := Lib.hid (bt hbw hb6)
        have hr6 := Lib.hid ((hr9.go hb6))
        have hr5 := Lib.hid ((hr8.go hb6))
        clear hb6 hbw hbl hb1 hr9 hr8 hLs hLsz Hr i1
        go_wp2
        go_loopw [10, 11] (fun l i wr => ∃ (k : Nat) (out : List Int), k ≤ acc.length ∧ i = .int .i64 k ∧ Below w6.heap.size w6 wr ∧ wr.ownsRow w6.heap.size 3 1 l out.length (ivs out) ∧ out.length ≤ 500 ∧ Hid (out = numsP ((acc.map dd).take k))) (fun _ i _ => acc.length - (intOf i).toNat)
        case atStart => exact ⟨0, [], Nat.zero_le _, rfl, Below.refl _ _, World.ownsRow_nil _ _ _ _, by simp, Lib.hid rfl⟩
        case round =>
          obtain ⟨k, out, hka, rfl, hbl, hown, hol, hout⟩ := hrel
          by_cases hkl : k < acc.length
          case neg =>
            have i1 : ¬ ((k : Int) < (acc.length : Int)) := by omega
            have hR := Lib.hid (hX0.out (by have h9 := hout.out; rw [List.take_of_length_le (by simp; omega)] at h9; rw [← h9]; omega))
            have hO2 := Lib.hid (show ivs out = ivs (plL s.data.toList).1 ∧ out.length = (plL s.data.toList).1.length ∧ (plL s.data.toList).2 = 0 by
              rw [hR.out]; have h9 := hout.out; rw [List.take_of_length_le (by simp; omega)] at h9; rw [← h9]; exact ⟨rfl, rfl, rfl⟩)
            have hRb := Lib.hid (fun (v : Value) (W : World) (h : W.ownsRow w6.heap.size 3 1 v out.length (ivs out)) (hb : Below w.heap.size w W) => RetSl.of_own (w := w) h hb hO2.out.2.2 hO2.out.2.1 hO2.out.1)
            clear hR hO2 hX0 hX3 hK hout hr6 hr5
            go_wp2
            go_ret2
            exact hRb.out _ _ hown (bt hb6w.out hbl)
          case pos =>
            have i1 : (k : Int) < (acc.length : Int) := by omega
            obtain ⟨bk, off, rfl, hbk, hc1⟩ := sbAt hr6.out (by simp) (by simpa using hkl)
            obtain ⟨bj, ofj, rfl, hbj, hc2⟩ := sbAt hr5.out (by simp) (by simpa using hkl)
            have hc1 := (hbl.cell (p := ⟨bk, off + k, none⟩) hbk).trans hc1
            have hc2 := (hbl.cell (p := ⟨bj, ofj + k, none⟩) hbj).trans hc2
            rw [List.getElem_map] at hc1 hc2
            have hx := hK.out acc[k] (List.getElem_mem hkl)
            obtain ⟨F, hF⟩ : ∃ F, F = acc[k].1 := ⟨_, rfl⟩
            obtain ⟨E, hE⟩ : ∃ E, E = acc[k].2 := ⟨_, rfl⟩
            rw [← hF, ← hE] at hx
            rw [← hF] at hc1
            rw [← hE] at hc2
            obtain ⟨a, ha⟩ : ∃ a, a = natL F.data.toList := ⟨_, rfl⟩
            obtain ⟨b, hb⟩ : ∃ b, b = natL E.data.toList := ⟨_, rfl⟩
            obtain ⟨x1, x2, x3, x4⟩ := hx
            have t1 := Lib.hid (digs_intR x1 (by omega))
            have t2 := Lib.hid (digs_intR x2 x4)
            have s1 : F.size ≤ 10 := digs_short x1 (by omega)
            have s2 : E.size ≤ 10 := digs_short x2 x4
            rw [← ha] at t1 x3
            rw [← hb] at t2 x3 x4
            have htk : (acc.map dd).take (k + 1) = (acc.map dd).take k ++ [(F.data.toList, E.data.toList)] := by
              rw [List.take_add_one, List.getElem?_eq_getElem (by simpa using hkl), List.getElem_map, hF, hE]; rfl
            have hnR : numsR (F.data.toList, E.data.toList) = (List.range (b + 1 - a)).map fun i => ((a + i : Nat) : Int) := by unfold numsR; rw [ha, hb]
            have hout2 := Lib.hid (show numsP ((acc.map dd).take (k + 1)) = out ++ (List.range (b + 1 - a)).map fun i => ((a + i : Nat) : Int) by rw [htk, numsP_snoc, hnR, hout.out])
            have hX4 := Lib.hid (fun h5 : 500 < out.length + (b + 1 - a) => hX3.out (by
                have h9 := numsP_take (acc.map dd) (k + 1)
                rw [hout2.out] at h9
                simp at h9
                omega))
            clear hX0 hX3 hK hout hr6 hr5 hF hE x1 x2 ha hb htk hnR
            go_wp2_with fail
            (with_reducible refine (rintQ _ a _ (by omega) t1).mono ?_); rintro e w7 ⟨rfl, hb7⟩
            have hB7 := bt hbl hb7
            have hown7 := own_below hown hb7
            have hc2 := (hb7.cell (p := ⟨bj, ofj + k, none⟩) (Nat.lt_of_lt_of_le hbj hbl.size)).trans hc2
            go_wp2_with fail
            (with_reducible refine (rintQ _ b _ (by omega) t2).mono ?_); rintro e w8 ⟨rfl, hb8⟩
            have hB8 := bt hB7 hb8
            have hown9 := own_below hown7 hb8
            clear hown7 hown t1 t2 hB7 hb7 hb8 hbl hc1 hc2
            go_wp2
            go_loopw [10, 16] (fun l n wr => ∃ j : Nat, j ≤ b + 1 - a ∧ out.length + j ≤ 500 ∧ n = .int .i64 ((a + j : Nat) : Int) ∧ Below w6.heap.size w6 wr ∧ ∃ o2 : List Int, wr.ownsRow w6.heap.size 3 1 l o2.length (ivs o2) ∧ Hid (o2 = out ++ (List.range j).map fun i => ((a + i : Nat) : Int))) (fun _ n _ => b + 1 - (intOf n).toNat)
            case atStart => exact ⟨0, Nat.zero_le _, hol, rfl, hB8, out, hown9, Lib.hid (by simp)⟩
            case round =>
              clear hown9 hB8
              obtain ⟨j, hj, hj5, rfl, hbl, o2, hown, ho2⟩ := hrel
              have hol2 := Lib.hid (show o2.length = out.length + j by rw [ho2.out]; simp)
              have ho9 : o2.length ≤ 500 := by have := hol2.out; omega
              by_cases hjb : a + j ≤ b
              · have i3 : ((a + j : Nat) : Int) ≤ (b : Int) := by omega
                by_cases hfull : out.length + j = 500
                · have hR := Lib.hid (hX4.out (by omega))
                  obtain ⟨A7, c7, rfl, _, _, _⟩ := own_sl hown
                  have i4 : ((o2.length : Int) == 500) = true := by rw [hol2.out, hfull]; rfl
                  clear hown hX4 hfull
                  go_wp2
                  go_ret2
                  exact RetPl.none_ (bt hb6w.out hbl) hR.out
                · have i4 : ((o2.length : Int) == 500) = false := by rw [beq_eq_false_iff_ne, hol2.out]; omega
                  obtain ⟨A7, c7, rfl, _, _, _⟩ := own_sl hown
                  go_wp2_with (at_builtin; refine wpList_ap intEl (w0 := w6) (hown.alloc _) (ba hbl _) [.int .i64 ((a + j : Nat) : Int)] (alloc1_new _ _) ?_)
                  intro g0 cap0 w9 ho0 hb9 hg0
                  go_wp2
                  go_roundw
                  case rel => exact ⟨j + 1, by omega, by omega, by go_num, hb9, o2 ++ [((a + j : Nat) : Int)], by simpa using ho0, Lib.hid (by rw [ho2.out, List.range_succ, List.map_append, ← List.append_assoc]; rfl)⟩
                  case measure => (simp [intOf]) <;> omega
              · have i3 : ¬ (((a + j : Nat) : Int) ≤ (b : Int)) := by omega
                obtain rfl : j = b + 1 - a := by omega
                go_wp2
                go_roundw
                case rel => exact ⟨k + 1, o2, by omega, by go_num, hbl, hown, ho9, Lib.hid (by rw [ho2.out]; exact hout2.out.symm)⟩
                case measure => (simp [intOf]) <;> omega
end Go.Proofs.YtngbgchnbcfliaaGreatDoor
