/- Join of the reference. -/
import Derived.Test.YtoogemdcmnjpnaaDoorS14
namespace Go.Proofs.YtoogemdcmnjpnaaDoor
open Go.RowKit
set_option maxRecDepth 100000 in
set_option maxHeartbeats 1000000 in
theorem rjoin (w : World) (A : Option Addr) (c : Nat) (l : List Sc) (h : IsSc w A l) (hc : l.length ≤ c ∧ c ≤ 9223372036854775807) (k : Int) (hk1 : -9223372036854775808 ≤ k) (hk2 : k ≤ 9223372036854775807) :
    Calls Tryd.prog 32 #[.slice A l.length c, .int .i64 k] w (RetSl w 2 (scs (join l k)) (join l k).length (joinErr l k)) := by
  by_cases h0 : (chk l).2 = 0
  case neg =>
    have He := Lib.hid (show joinErr l k = (chk l).2 by simp [joinErr, h0])
    have Hl := Lib.hid (join_neg (l := l) (k := k) (by rw [He.out]; exact h0))
    have e0 : ((chk l).2 != 0) = true := by simp [h0]
    clear h0
    go_enter Tryd.func32, Tryd.ntmps32
    go_wp2_with fail
    (with_reducible refine (rcheck w A c l h).mono ?_); rintro e w1 ⟨rfl, hb1⟩
    go_wp2
    go_ret2
    exact RetSl.no hb1 He Hl
  have e0 : ((chk l).2 != 0) = false := by simp [h0]
  have h200 := chk_len h0
  by_cases hkr : k < 0 ∨ (l.length : Int) - 2 < k
  · have He := Lib.hid (show joinErr l k = 4 by simp [joinErr, h0, hkr])
    have Hl := Lib.hid (join_neg (l := l) (k := k) (by rw [He.out]; decide))
    clear h0
    have hkr3 : k < 0 ∨ (l.length : Int) - 1 ≤ k := by omega
    clear hkr
    rcases hkr3 with hkr | hkr
    all_goals
      go_enter Tryd.func32, Tryd.ntmps32
      go_wp2_with fail
      (with_reducible refine (rcheck w A c l h).mono ?_); rintro e w1 ⟨rfl, hb1⟩
      go_wp2
      all_goals
        go_ret2
        exact RetSl.no hb1 He Hl
  obtain ⟨n, rfl⟩ := Int.eq_ofNat_of_zero_le (show 0 ≤ k by omega)
  have hn : n + 1 < l.length := by omega
  have H0 := Lib.hid h0
  obtain ⟨b, off, K, s, rfl, hb, d1, d2, hd, hK1, hK4, hs1, _⟩ := scAtOk h.rd (by omega : n < l.length) H0
  obtain ⟨b', off', K', s', eA, hb', d1', d2', hd', hK1', hK4', hs1', _⟩ := scAtOk h.rd hn H0
  injection eA with eA
  injection eA with eb eo _
  subst eb eo
  have hat := atK_drop hd
  have hat' := atK_drop hd'
  have hi1 : (n : Int) < (l.length : Int) := by omega
  have hi0 : (0 : Int) ≤ (n : Int) := by omega
  have hj1 : (n : Int) + 1 < (l.length : Int) := by omega
  have hj0 : (0 : Int) ≤ (n : Int) + 1 := by omega
  have hjn : ((n : Int) + 1).toNat = n + 1 := by omega
  have hwrap : IntKind.i64.wrap ((n : Int) + 1) = (n : Int) + 1 := IntWalk.i64_in _ (by omega)
  go_enter Tryd.func32, Tryd.ntmps32
  go_wp2_with fail
  (with_reducible refine (rcheck w _ c l h).mono ?_); rintro e w1 ⟨rfl, hb1⟩
  have hb1s := hb1.size
  have hbw : b < w1.heap.size := by omega
  have c1 := (hb1.cell (p := ⟨b, off + n * 2, none⟩) (by simp; omega)).trans d1
  have c2 := (hb1.cell (p := ⟨b, off + n * 2 + 1, none⟩) (by simp; omega)).trans d2
  have c3 := (hb1.cell (p := ⟨b, off + (n + 1) * 2, none⟩) (by simp; omega)).trans d1'
  have c4 := (hb1.cell (p := ⟨b, off + (n + 1) * 2 + 1, none⟩) (by simp; omega)).trans d2'
  have hk3 : (n : Int) ≤ (l.length : Int) - 2 := by omega
  have hk4 : decide ((l.length : Int) - 1 ≤ (n : Int)) = false := by simp; omega
  have hk5 : (n : Int) < (l.length : Int) - 1 := by omega
  go_upto_region 6 with fail
  go_cut [8, 9] (fun s8 s9 wx => TwoAt w (K, s) (K', s') s8 s9 wx)
  case first =>
    go_region
    all_goals
      go_wp2_with fail
      go_meet
      first | exact (TwoAt.mk1 hb1).drew | exact (TwoAt.mk2 hb1).drew
  case rest =>
    obtain ⟨g, g', rfl, rfl, hbc, hg, hg', hx, hx'⟩ := hcut
    have k1 : wc.cell? ⟨g, 0, none⟩ = some (.int .i64 K) := by rw [Lib.cell_of_heap hx]; rfl
    have k2 : wc.cell? ⟨g, 1, none⟩ = some (.string s) := by rw [Lib.cell_of_heap hx]; rfl
    have k3 : wc.cell? ⟨g', 0, none⟩ = some (.int .i64 K') := by rw [Lib.cell_of_heap hx']; rfl
    have k4 : wc.cell? ⟨g', 1, none⟩ = some (.string s') := by rw [Lib.cell_of_heap hx']; rfl
    have hlt := heap_lt hx
    have hlt' := heap_lt hx'
    clear c1 c2 c3 c4 d1 d2 d1' d2' hx hx'
    have Hat := Lib.hid hat
    have Hat' := Lib.hid hat'
    have hkr2 : ¬ ((n : Int) < 0 ∨ (l.length : Int) - 2 < n) := hkr
    clear hat hat' hkr h0
    by_cases h1 : K = 1 ∧ K' = 1
    case neg =>
      have He := Lib.hid (show joinErr l n = 2 by
        unfold joinErr; rw [if_neg (by simpa using H0.out), if_neg hkr2, Int.toNat_natCast, Hat.out, Hat'.out, if_pos (by simp only; omega)])
      have Hl := Lib.hid (join_neg (l := l) (k := (n : Int)) (by rw [He.out]; decide))
      clear hkr2
      by_cases hK : K = 1
      · have e1 : (K != 1) = false := by simp [hK]
        have e2 : (K' != 1) = true := by rw [bne_iff_ne]; intro e; exact h1 ⟨hK, e⟩
        clear hK h1
        go_wp2
        go_ret2
        exact RetSl.no hbc He Hl
      · have e1 : (K != 1) = true := by simp [hK]
        clear hK h1
        go_wp2
        go_ret2
        exact RetSl.no hbc He Hl
    obtain ⟨hKa, hKb⟩ := h1
    have e1 : (K != 1) = false := by simp [hKa]
    have e2 : (K' != 1) = false := by simp [hKb]
    by_cases hss : 1100 < s.size + s'.size
    · have He := Lib.hid (show joinErr l n = 3 by
        unfold joinErr; rw [if_neg (by simpa using H0.out), if_neg hkr2, Int.toNat_natCast, Hat.out, Hat'.out, if_neg (by simp only; omega), if_pos (by simp only; omega)])
      have Hl := Lib.hid (join_neg (l := l) (k := (n : Int)) (by rw [He.out]; decide))
      have e3 : decide ((1100 : Int) < (s.size : Int) + (s'.size : Int)) = true := by simp; omega
      clear hkr2 hKa hKb
      go_wp2
      go_ret2
      exact RetSl.no hbc He Hl
    have He := Lib.hid (show joinErr l n = 0 by
      unfold joinErr; rw [if_neg (by simpa using H0.out), if_neg hkr2, Int.toNat_natCast, Hat.out, Hat'.out, if_neg (by simp only; omega), if_neg (by simp only; omega)])
    have Hl := Lib.hid (join_pos He.out)
    have e3 : decide ((1100 : Int) < (s.size : Int) + (s'.size : Int)) = false := by simp; omega
    have hadd : s.size + s'.size ≤ 9223372036854775807 := by omega
    have hadd2 : ¬ (9223372036854775807 < s.size + s'.size) := by omega
    clear hkr2 hKa hKb
    have h1 := h.below hbc
    have hto := sl_to scEl (by kernel_rfl) (some ⟨b, off, none⟩) l.length c (n : Int) n rfl (by omega) hc.1
    obtain ⟨A2, hfrom, hr2⟩ := sl_from scEl (by kernel_rfl) h1.rd ((n : Int) + 2) (n + 2) (by omega) hn hc.1
    have hwrap2 : IntKind.i64.wrap ((n : Int) + 2) = (n : Int) + 2 := IntWalk.i64_in _ (by omega)
    have hr1 := h1.rd.firsts (k := n) (by omega)
    rw [flat2_take] at hr1
    rw [flat2_drop] at hr2
    go_upto_region 11 with fail
    go_wp2_with (at_builtin; refine wpList_apr scEl (own_lit0 (w := wc)) ((Below.refl _ wc).alloc (Nat.le_refl _) _) (by exact hr1.al _) (scs_one _) ?_)
    intro v2 w2 hown2 hb2 hg2
    have c2 : w2.cell? ⟨g, 1, none⟩ = some (.string s) := (hb2.cell (p := ⟨g, 1, none⟩) hlt).trans k2
    have c4 : w2.cell? ⟨g', 1, none⟩ = some (.string s') := (hb2.cell (p := ⟨g', 1, none⟩) hlt').trans k4
    clear k1 k2 k3 k4
    go_wp2_with (at_builtin; refine wpList_ap scEl (w0 := wc) (hown2.alloc _) (ba hb2 _) (scs [(1, s ++ s')]) (by exact alloc1_new _ _) ?_ (h1 := scs_one _))
    intro g3 cap3 w3 hown3 hb3 hg3
    have hn3 : w3.ownsRow wc.heap.size 47 2 (.slice (some ⟨g3, 0, none⟩) (n + 1) cap3) (n + 1) (scs (l.take n ++ [(1, s ++ s')])) := by
      rw [scs_app]; exact hown3
    clear hown3 hg3
    go_wp2_with (at_builtin; refine wpList_apr scEl (w0 := wc) hn3 hb3 (by exact hr2.below hb3) (scs_one _) ?_)
    intro v4 w4 hown4 hb4 hg4
    have hB : Below w.heap.size w w4 := bt hbc hb4
    have hx : scs (l.take n ++ [(1, s ++ s')]) ++ scs (l.drop (n + 2)) = scs (join l n) := by
      rw [Hl.out, joinOk, Int.toNat_natCast, Hat.out, Hat'.out, ← scs_app, List.append_assoc]
      rfl
    have hlen : n + 1 + (l.length - (n + 2)) = (join l n).length := by
      rw [Hl.out, joinOk, Int.toNat_natCast]
      simp
      omega
    rw [hx, hlen] at hown4
    clear hx hlen
    go_wp2
    go_ret2
    exact RetSl.of_own hown4 hB He.out rfl rfl
end Go.Proofs.YtoogemdcmnjpnaaDoor
