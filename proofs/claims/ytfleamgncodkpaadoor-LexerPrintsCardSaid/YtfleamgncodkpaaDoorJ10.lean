/- Lexer: Print of the program, the walk. No condition. -/
import Derived.Test.YtfleamgncodkpaaDoorJ8
namespace Go.Proofs.YtfleamgncodkpaaDoor
open Go.RowKit
def sbT (l : List T9) (k : Nat) : List Value := sbs ((l.take k).map tx)
theorem chk9 (t : T9) (K F T N : Int) (S : ByteArray) (f : Nat → Bool) (ht : t = (K, F, T, N, S, f)) (c : Int) (hc : Hid (ck9 t = c)) (w : World) :
    Calls Tryd.prog 12 #[tkV K F T N S f] w fun e w' => e = .returned (.int .i64 c) ∧ Below w.heap.size w w' := by
  subst ht; exact chk_ K F T N S f c hc w
set_option maxRecDepth 100000 in
set_option maxHeartbeats 8000000 in
theorem pprint_ (l : List T9) (w : World) (A : Option Addr) (c : Nat) (hR : Reads w w.heap.size 9 A l.length (tks l)) (hcap : l.length ≤ 100000) (r : ByteArray × Nat × Int) (hr : Hid (prnL l = r)) (hW : LxW w) :
    Calls Tryd.prog 10 #[.slice A l.length c] w (RetPr w r) := by
  have HR := Lib.hid hR
  have HW := Lib.hid hW
  have hr0 := hr.out
  unfold prnL at hr0
  have HR0 := Lib.hid hr0
  clear hR hW hr0 hr
  go_enter Tryd.func10, Tryd.ntmps10
  go_wp2
  go_loopw [13] (fun i wr => ∃ k : Nat, k ≤ l.length ∧ i = .int .i64 (k : Int) ∧ Below w.heap.size w wr ∧ Hid (errL l 0 = errL (l.drop k) k)) (fun i _ => l.length - (intOf i).toNat)
  case atStart => exact ⟨0, Nat.zero_le _, rfl, Below.refl _ _, Lib.hid (by rw [List.drop_zero])⟩
  case round =>
    obtain ⟨k, hk, rfl, hbl, he⟩ := hrel
    by_cases hlt : k < l.length
    · have i1 : (k : Int) < (l.length : Int) := by omega
      have i0 : (0 : Int) ≤ (k : Int) := by omega
      have hst := errR hlt he.out
      have hrd := HR.out.below hbl
      obtain ⟨bk, off, rfl, hbk, c0, c1, c2, c3, c4, c5, c6, c7, c8⟩ := hrd.at9 hlt
      obtain ⟨K, F, T, N, S, f, ht⟩ : ∃ K F T N S f, l[k] = (K, F, T, N, S, f) := ⟨_, _, _, _, _, _, rfl⟩
      rw [ht] at c0 c1 c2 c3 c4 c5 c6 c7 c8 hst
      simp only at c0 c1 c2 c3 c4 c5 c6 c7 c8
      obtain ⟨x, hx⟩ : ∃ x, ck9 (K, F, T, N, S, f) = x := ⟨_, rfl⟩
      rw [hx] at hst
      have Hx := Lib.hid hx
      have hbkw : bk < wr.heap.size := Nat.lt_of_lt_of_le hbk hbl.size
      by_cases hx0 : x = 0
      · subst hx0
        have HS := Lib.hid (show errL l 0 = errL (l.drop (k + 1)) (k + 1) by rw [hst, if_neg (by simp)])
        clear hst he ht hx hrd
        go_wp2_with fail
        (with_reducible refine (chk9 _ K F T N S f rfl 0 Hx _).mono ?_); rintro e w3 ⟨rfl, hb3⟩
        have hB3 := bt (ba hbl _) hb3
        clear hb3 c0 c1 c2 c3 c4 c5 c6 c7 c8
        go_wp2
        go_roundw
        case rel => exact ⟨k + 1, by omega, by go_num, hB3, HS⟩
        case measure => (simp [intOf]) <;> omega
      · have HN := Lib.hid (show r = (⟨#[]⟩, k, x) by rw [← HR0.out, hst, if_pos hx0])
        have e1 : (x != 0) = true := by simpa using hx0
        clear hst he ht hx hrd hx0
        go_wp2_with fail
        (with_reducible refine (chk9 _ K F T N S f rfl x Hx _).mono ?_); rintro e w3 ⟨rfl, hb3⟩
        have hB3 := bt (ba hbl _) hb3
        clear hb3 c0 c1 c2 c3 c4 c5 c6 c7 c8
        go_wp2
        exact bodyPost_ret (v := .tuple #[.string ⟨#[]⟩, .int .i64 (k : Int), .int .i64 x]) (by simp [results, go_sem]) rfl (RetPr.of HN.out rfl hB3)
    · obtain rfl : k = l.length := by omega
      have hn : errL l 0 = none := by rw [he.out, List.drop_of_length_le (Nat.le_refl _)]; rfl
      have hok := errL_none hn
      rw [hn] at HR0
      clear he hlt hn
      by_cases h80 : 80 < l.length
      · have i1 : (80 : Int) < (l.length : Int) := by omega
        have HN := Lib.hid (show r = (⟨#[]⟩, 0, 3) by rw [← HR0.out]; simp only; rw [if_pos h80])
        clear h80 hok
        go_wp2
        exact bodyPost_ret (v := .tuple #[.string ⟨#[]⟩, .int .i64 0, .int .i64 3]) (by simp [results, go_sem]) rfl (RetPr.of HN.out rfl hbl)
      have i1 : ¬ ((80 : Int) < (l.length : Int)) := by omega
      have hr1 := HR0.out
      simp only at hr1
      rw [if_neg h80] at hr1
      have HR1 := Lib.hid hr1
      have HOk := Lib.hid hok
      clear hr1 HR0 hok
      go_wp2
      obtain ⟨w0, rfl⟩ : ∃ w0 : World, w0 = wr := ⟨_, rfl⟩
      go_loopw [8, 30] (fun v i wi => ∃ k : Nat, k ≤ l.length ∧ i = .int .i64 (k : Int) ∧ Below w.heap.size w wi ∧ wi.ownsRow w.heap.size 9 1 v k (sbT l k)) (fun _ i _ => l.length - (intOf i).toNat)
      case atStart => exact ⟨0, Nat.zero_le _, rfl, hbl, World.ownsRow_nil _ _ _ _⟩
      case round =>
        clear hbl
        obtain ⟨k, hk, rfl, hbl, hown⟩ := hrel
        by_cases hlt : k < l.length
        · have j1 : (k : Int) < (l.length : Int) := by omega
          have j0 : (0 : Int) ≤ (k : Int) := by omega
          have hrd := HR.out.below hbl
          obtain ⟨bk, off, rfl, hbk, c0, c1, c2, c3, c4, c5, c6, c7, c8⟩ := hrd.at9 hlt
          have hck := HOk.out l[k] (List.getElem_mem hlt)
          have hnx : sbT l (k + 1) = sbT l k ++ [.string (tx l[k])] := take_tx l k hlt
          obtain ⟨K, F, T, N, S, f, ht⟩ : ∃ K F T N S f, l[k] = (K, F, T, N, S, f) := ⟨_, _, _, _, _, _, rfl⟩
          rw [ht] at c0 c1 c2 c3 c4 c5 c6 c7 c8 hck hnx
          simp only at c0 c1 c2 c3 c4 c5 c6 c7 c8
          obtain ⟨hK, hN, hS⟩ := ck_kind hck
          simp only at hK hN hS
          obtain ⟨u, hu⟩ : ∃ u, tx9 K N S f = u := ⟨_, rfl⟩
          have hnx2 : sbT l (k + 1) = sbT l k ++ [.string u] := by rw [hnx, ← hu]
          have HT := Lib.hid (fun W hW => text_ K F T N S f hK (by omega) (by omega) u (Lib.hid hu) W hW)
          have HX := Lib.hid hnx2
          have HO := Lib.hid hown
          have hbkw : bk < wr.heap.size := Nat.lt_of_lt_of_le hbk hbl.size
          clear hnx hnx2 hck hrd ht hu hown hK hN
          go_wp2_with fail
          (with_reducible refine (HT.out _ (HW.out.below (by exact ba hbl _))).mono ?_); rintro e w3 ⟨rfl, hb3⟩
          have HO3 := Lib.hid (own_below (HO.out.alloc (tkO K F T N S f)) hb3)
          have HB3 := Lib.hid (bt (ba hbl (tkO K F T N S f)) hb3)
          clear hb3 c0 c1 c2 c3 c4 c5 c6 c7 c8 HO
          go_wp2_with (at_builtin; refine wpList_ap stEl (w0 := w) (by exact HO3.out.alloc _) (by exact ba HB3.out _) [.string u] (by exact alloc1_new _ _) ?_)
          intro g4 cap4 w4 hO4 hb4 _
          rw [← HX.out] at hO4
          have HO4 := Lib.hid hO4
          have HB4 := Lib.hid hb4
          clear hO4 hb4 HO3 HB3
          go_wp2
          go_roundw
          case rel => exact ⟨k + 1, by omega, by go_num, HB4.out, HO4.out⟩
          case measure => (simp [intOf]) <;> omega
        · obtain rfl : k = l.length := by omega
          unfold sbT at hown
          rw [List.take_of_length_le (Nat.le_refl _)] at hown
          obtain ⟨A', c', rfl, hrd, hcp, hcm⟩ := own_sl hown
          have hl10 : ∀ x ∈ l.map tx, x.size ≤ 10000 := fun x hx => by
            obtain ⟨t, ht, rfl⟩ := List.mem_map.1 hx
            exact tx_len (HOk.out t ht)
          obtain ⟨u, hu⟩ : ∃ u, joinT l = u := ⟨_, rfl⟩
          have hjoin : Calls Tryd.prog 18 #[.slice A' l.length c', .string ⟨#[32]⟩] wr fun e w' => e = .returned (.string u) ∧ Below wr.heap.size wr w' := by
            by_cases hz : l.length = 0
            · obtain rfl : l = [] := List.eq_nil_of_length_eq_zero hz
              have := join_none A' c' wr
              rw [← hu]
              exact this
            · have := join_ (l.map tx) wr A' c' (by rw [List.length_map]; exact hrd) (by rw [List.length_map]; omega) (by rw [List.length_map]; exact hcp) (by rw [List.length_map]; omega) hl10 u (Lib.hid (by rw [← hu]; unfold joinT; rw [List.map_map]; rfl))
              rw [List.length_map] at this
              exact this
          have HJ := Lib.hid hjoin
          have hr1 := HR1.out
          rw [hu] at hr1
          have HR2 := Lib.hid hr1
          clear hjoin hl10 hu hown hrd hcp hcm hlt hr1 HR1
          by_cases hm : 1000 < u.size
          · have j2 : (1000 : Int) < (u.size : Int) := by omega
            have HN := Lib.hid (show r = (⟨#[]⟩, 0, 3) by rw [← HR2.out, if_pos hm])
            clear hm
            go_wp2_with fail
            (with_reducible refine (HJ.out).mono ?_); rintro e w5 ⟨rfl, hb5⟩
            have hB5 := bt hbl hb5
            clear hb5
            go_wp2
            exact bodyPost_ret (v := .tuple #[.string ⟨#[]⟩, .int .i64 0, .int .i64 3]) (by simp [results, go_sem]) rfl (RetPr.of HN.out rfl hB5)
          · have j2 : ¬ ((1000 : Int) < (u.size : Int)) := by omega
            have HN := Lib.hid (show r = (u, 0, 0) by rw [← HR2.out, if_neg hm])
            clear hm
            go_wp2_with fail
            (with_reducible refine (HJ.out).mono ?_); rintro e w5 ⟨rfl, hb5⟩
            have hB5 := bt hbl hb5
            clear hb5
            go_wp2
            exact bodyPost_ret (v := .tuple #[.string u, .int .i64 0, .int .i64 0]) (by simp [results, go_sem]) rfl (RetPr.of HN.out rfl hB5)
end Go.Proofs.YtfleamgncodkpaaDoor
