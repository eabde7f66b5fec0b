/- Cut of the reference. -/
import Derived.Test.YtoogemdcmnjpnaaDoorS13
namespace Go.Proofs.YtoogemdcmnjpnaaDoor
open Go.RowKit
/-- a call lies in a box of its own -/
def OneAt (w : World) (x : Sc) (s8 : Value) (wx : World) : Prop := ∃ g : Nat, s8 = .pointer (some ⟨g, 0, none⟩) ∧ Below w.heap.size w wx ∧ w.heap.size ≤ g ∧ wx.heap[g]? = some (.cells #[scK x, scB x] 47 (0, 0))
theorem OneAt.mk {w w1 : World} {x : Sc} (hb : Below w.heap.size w w1) : OneAt w x (.pointer (some ⟨w1.heap.size, 0, none⟩)) (w1.alloc (.cells #[scK x, scB x] 47)) :=
  ⟨_, rfl, ba hb _, hb.size, alloc1_new _ _⟩
theorem own_lit0 {w : World} : (w.alloc (.cells #[] 47)).ownsRow w.heap.size 47 2 (.slice (some ⟨w.heap.size, 0, none⟩) 0 0) 0 [] :=
  World.ownsRow_lit w #[] 0 (Nat.le_refl _) (by unfold maxLen; omega) rfl
theorem scs_app (l m : List Sc) : scs (l ++ m) = scs l ++ scs m := flat2_append l m
set_option maxRecDepth 100000 in
set_option maxHeartbeats 1000000 in
theorem rcut (w : World) (A : Option Addr) (c : Nat) (l : List Sc) (h : IsSc w A l) (hc : l.length ≤ c ∧ c ≤ 9223372036854775807) (k a : Int) (hk1 : -9223372036854775808 ≤ k) (hk2 : k ≤ 9223372036854775807) (ha1 : -9223372036854775808 ≤ a) (ha2 : a ≤ 9223372036854775807) :
    Calls Tryd.prog 30 #[.slice A l.length c, .int .i64 k, .int .i64 a] w (RetSl w 2 (scs (cut l k a)) (cut l k a).length (cutErr l k a)) := by
  by_cases h0 : (chk l).2 = 0
  case neg =>
    have He := Lib.hid (show cutErr l k a = (chk l).2 by simp [cutErr, h0])
    have Hl := Lib.hid (cut_neg (l := l) (k := k) (a := a) (by rw [He.out]; exact h0))
    have e0 : ((chk l).2 != 0) = true := by simp [h0]
    clear h0
    go_enter Tryd.func30, Tryd.ntmps30
    go_wp2_with fail
    (with_reducible refine (rcheck w A c l h).mono ?_); rintro e w1 ⟨rfl, hb1⟩
    go_wp2
    go_ret2
    first | exact RetSl.no hb1 He Hl | exact RetSl.no (ba hb1 _) He Hl
  have e0 : ((chk l).2 != 0) = false := by simp [h0]
  have h200 := chk_len h0
  by_cases hkr : k < 0 ∨ (l.length : Int) ≤ k
  · have He := Lib.hid (show cutErr l k a = 4 by simp [cutErr, h0, hkr])
    have Hl := Lib.hid (cut_neg (l := l) (k := k) (a := a) (by rw [He.out]; decide))
    clear h0
    rcases hkr with hkr | hkr
    all_goals
      go_enter Tryd.func30, Tryd.ntmps30
      go_wp2_with fail
      (with_reducible refine (rcheck w A c l h).mono ?_); rintro e w1 ⟨rfl, hb1⟩
      go_wp2
      all_goals
        go_ret2
        first | exact RetSl.no hb1 He Hl | exact RetSl.no (ba hb1 _) He Hl
  obtain ⟨n, rfl⟩ := Int.eq_ofNat_of_zero_le (show 0 ≤ k by omega)
  have hn : n < l.length := by omega
  have H0 := Lib.hid h0
  obtain ⟨b, off, K, s, rfl, hb, d1, d2, hd, hK1, hK4, hs1, _⟩ := scAtOk h.rd hn H0
  have hat := atK_drop hd
  have hi1 : (n : Int) < (l.length : Int) := by omega
  have hi0 : (0 : Int) ≤ (n : Int) := by omega
  by_cases h1 : K = 1
  case neg =>
    have He := Lib.hid (show cutErr l n a = 2 by unfold cutErr; rw [if_neg (by simpa using h0), if_neg hkr, Int.toNat_natCast, hat, if_pos h1])
    have Hl := Lib.hid (cut_neg (l := l) (k := (n : Int)) (a := a) (by rw [He.out]; decide))
    have e1 : (K != 1) = true := by simp [h1]
    clear h0 hat h1 hkr
    go_enter Tryd.func30, Tryd.ntmps30
    go_wp2_with fail
    (with_reducible refine (rcheck w _ c l h).mono ?_); rintro e w1 ⟨rfl, hb1⟩
    have c1 := (hb1.cell (p := ⟨b, off + n * 2, none⟩) (by simp; omega)).trans d1
    have c2 := (hb1.cell (p := ⟨b, off + n * 2 + 1, none⟩) (by simp; omega)).trans d2
    go_wp2
    go_ret2
    first | exact RetSl.no hb1 He Hl | exact RetSl.no (ba hb1 _) He Hl
  have e1 : (K != 1) = false := by simp [h1]
  by_cases har : a < 0 ∨ (s.size : Int) < a
  · have He := Lib.hid (show cutErr l n a = 7 by unfold cutErr; rw [if_neg (by simpa using h0), if_neg hkr, Int.toNat_natCast, hat, if_neg (by simpa using h1), if_pos har])
    have Hl := Lib.hid (cut_neg (l := l) (k := (n : Int)) (a := a) (by rw [He.out]; decide))
    clear h0 hat h1 hkr
    rcases har with har | har
    all_goals
      go_enter Tryd.func30, Tryd.ntmps30
      go_wp2_with fail
      (with_reducible refine (rcheck w _ c l h).mono ?_); rintro e w1 ⟨rfl, hb1⟩
      have c1 := (hb1.cell (p := ⟨b, off + n * 2, none⟩) (by simp; omega)).trans d1
      have c2 := (hb1.cell (p := ⟨b, off + n * 2 + 1, none⟩) (by simp; omega)).trans d2
      go_wp2
      all_goals
        go_ret2
        first | exact RetSl.no hb1 He Hl | exact RetSl.no (ba hb1 _) He Hl
  obtain ⟨m, rfl⟩ := Int.eq_ofNat_of_zero_le (show 0 ≤ a by omega)
  have hms : m ≤ s.size := by omega
  by_cases hl200 : l.length = 200
  · have He := Lib.hid (show cutErr l n m = 3 by unfold cutErr; rw [if_neg (by simpa using h0), if_neg hkr, Int.toNat_natCast, hat, if_neg (by simpa using h1), if_neg har, if_pos hl200])
    have Hl := Lib.hid (cut_neg (l := l) (k := (n : Int)) (a := (m : Int)) (by rw [He.out]; decide))
    have e2 : decide ((200 : Int) ≤ (l.length : Int)) = true := by simp; omega
    clear h0 hat h1 hkr har hl200
    go_enter Tryd.func30, Tryd.ntmps30
    go_wp2_with fail
    (with_reducible refine (rcheck w _ c l h).mono ?_); rintro e w1 ⟨rfl, hb1⟩
    have c1 := (hb1.cell (p := ⟨b, off + n * 2, none⟩) (by simp; omega)).trans d1
    have c2 := (hb1.cell (p := ⟨b, off + n * 2 + 1, none⟩) (by simp; omega)).trans d2
    go_wp2
    go_ret2
    first | exact RetSl.no hb1 He Hl | exact RetSl.no (ba hb1 _) He Hl
  have He := Lib.hid (show cutErr l n m = 0 by unfold cutErr; rw [if_neg (by simpa using h0), if_neg hkr, Int.toNat_natCast, hat, if_neg (by simpa using h1), if_neg har, if_neg hl200])
  have Hl := Lib.hid (cut_pos He.out)
  have e2 : decide ((200 : Int) ≤ (l.length : Int)) = false := by simp; omega
  have hm1 : (m : Int) ≤ (s.size : Int) := by omega
  have hm0 : (0 : Int) ≤ (m : Int) := by omega
  have e3 : decide ((s.size : Int) < (m : Int)) = false := by simp; omega
  have hkl : decide ((l.length : Int) ≤ (n : Int)) = false := by simp; omega
  have Hat := Lib.hid hat
  have HK := Lib.hid h1
  clear h0 hat h1 hkr har hl200
  go_enter Tryd.func30, Tryd.ntmps30
  go_wp2_with fail
  (with_reducible refine (rcheck w _ c l h).mono ?_); rintro e w1 ⟨rfl, hb1⟩
  have hb1s := hb1.size
  have hbw : b < w1.heap.size := by omega
  have c1 := (hb1.cell (p := ⟨b, off + n * 2, none⟩) (by simp; omega)).trans d1
  have c2 := (hb1.cell (p := ⟨b, off + n * 2 + 1, none⟩) (by simp; omega)).trans d2
  go_upto_region 6 with fail
  go_cut [10] (fun s10 wx => OneAt w (K, s) s10 wx)
  case first =>
    go_wp2_with fail
    go_meet
    exact OneAt.mk hb1
  case rest =>
    obtain ⟨g, rfl, hbc, hg, hx⟩ := hcut
    have k1 : wc.cell? ⟨g, 0, none⟩ = some (.int .i64 K) := by rw [Lib.cell_of_heap hx]; rfl
    have k2 : wc.cell? ⟨g, 1, none⟩ = some (.string s) := by rw [Lib.cell_of_heap hx]; rfl
    have hlt := heap_lt hx
    have h1 := h.below hbc
    have hto := sl_to scEl (by kernel_rfl) (some ⟨b, off, none⟩) l.length c (n : Int) n rfl (by omega) hc.1
    obtain ⟨A2, hfrom, hr2⟩ := sl_from scEl (by kernel_rfl) h1.rd ((n : Int) + 1) (n + 1) (by omega) hn hc.1
    have hr1 := h1.rd.firsts (k := n) (by omega)
    rw [flat2_take] at hr1
    rw [flat2_drop] at hr2
    have hwrap : IntKind.i64.wrap ((n : Int) + 1) = (n : Int) + 1 := IntWalk.i64_in _ (by omega)
    clear c1 c2 d1 d2
    have Hx := Lib.hid hx
    clear hx
    go_upto_region 13 with fail
    go_wp2_with (at_builtin; refine wpList_apr scEl (own_lit0 (w := wc)) ((Below.refl _ wc).alloc (Nat.le_refl _) _) (by exact hr1.al _) (scs_one _) ?_)
    intro v2 w2 hown2 hb2 hg2
    have c1 : w2.cell? ⟨g, 1, none⟩ = some (.string s) := (hb2.cell (p := ⟨g, 1, none⟩) hlt).trans k2
    go_wp2_with fail
    go_region_held3 (fun w' => w'.cell? ⟨g, 1, none⟩ = some (.string s))
      (first | go_keep | exact (hb3.cell (p := ⟨g, 1, none⟩) hlt).trans k2)
      ((refine step_ap scEl (w0 := wc) (cs := scs [(1, s.extract 0 m), (1, s.extract m s.size)]) (h1 := scs_one _) (by exact hown2.alloc _) (by exact (ba hb2 _).drew) (by exact alloc1_new _ _) ?_; intro g3 cap3 w3 hown3 hb3 hg3))
    have hn3 : w3.ownsRow wc.heap.size 47 2 (.slice (some ⟨g3, 0, none⟩) (n + 2) cap3) (n + 2) (scs (l.take n ++ [(1, s.extract 0 m), (1, s.extract m s.size)])) := by
      rw [scs_app]; exact hown3
    clear hown3 hg3
    go_wp2_with (at_builtin; refine wpList_apr scEl (w0 := wc) hn3 hb3 (by exact hr2.below hb3) (scs_one _) ?_)
    intro v4 w4 hown4 hb4 hg4
    have hB : Below w.heap.size w w4 := bt hbc hb4
    have hx : scs (l.take n ++ [(1, s.extract 0 m), (1, s.extract m s.size)]) ++ scs (l.drop (n + 1)) = scs (cut l n m) := by
      rw [Hl.out, cutOk, Int.toNat_natCast, Int.toNat_natCast, Hat.out, ← scs_app, List.append_assoc]
      rfl
    have hlen : n + 2 + (l.length - (n + 1)) = (cut l n m).length := by
      rw [Hl.out, cutOk, Int.toNat_natCast, Int.toNat_natCast]
      simp
      omega
    rw [hx, hlen] at hown4
    clear hx hlen
    go_wp2
    go_ret2
    exact RetSl.of_own hown4 hB He.out rfl rfl
end Go.Proofs.YtoogemdcmnjpnaaDoor
