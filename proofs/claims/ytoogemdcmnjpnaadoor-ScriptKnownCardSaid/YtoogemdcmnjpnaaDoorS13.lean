/- Join of the script. -/
import Derived.Test.YtoogemdcmnjpnaaDoorS12
import Derived.Deep.DeepCutAuto
namespace Go.Proofs.YtoogemdcmnjpnaaDoor
open Go.RowKit
def joinErr (l : List Sc) (k : Int) : Int := if (chk l).2 ≠ 0 then (chk l).2 else if k < 0 ∨ (l.length : Int) - 2 < k then 4 else if (atK l k.toNat).1 ≠ 1 ∨ (atK l (k.toNat + 1)).1 ≠ 1 then 2 else if (1100 : Int) < (atK l k.toNat).2.size + (atK l (k.toNat + 1)).2.size then 3 else 0
def joinOk (l : List Sc) (k : Nat) : List Sc := l.take k ++ ((1, (atK l k).2 ++ (atK l (k + 1)).2) :: l.drop (k + 2))
def join (l : List Sc) (k : Int) : List Sc := if joinErr l k = 0 then joinOk l k.toNat else []
theorem join_pos {l : List Sc} {k : Int} (h : joinErr l k = 0) : join l k = joinOk l k.toNat := if_pos h
theorem join_neg {l : List Sc} {k : Int} (h : joinErr l k ≠ 0) : join l k = [] := if_neg h
/-- two calls lie in boxes of their own -/
def TwoAt (w : World) (x y : Sc) (s8 s9 : Value) (wx : World) : Prop := ∃ g g' : Nat, s8 = .pointer (some ⟨g, 0, none⟩) ∧ s9 = .pointer (some ⟨g', 0, none⟩) ∧ Below w.heap.size w wx ∧ w.heap.size ≤ g ∧ w.heap.size ≤ g' ∧
  wx.heap[g]? = some (.cells #[scK x, scB x] 47 (0, 0)) ∧ wx.heap[g']? = some (.cells #[scK y, scB y] 47 (0, 0))
theorem TwoAt.mk1 {w w1 : World} {x y : Sc} (hb : Below w.heap.size w w1) : TwoAt w x y (.pointer (some ⟨w1.heap.size, 0, none⟩)) (.pointer (some ⟨w1.heap.size + 1, 0, none⟩)) ((w1.alloc (.cells #[scK x, scB x] 47)).alloc (.cells #[scK y, scB y] 47)) :=
  ⟨_, _, rfl, rfl, ba (ba hb _) _, hb.size, by have := hb.size; omega, alloc_blk (alloc1_new _ _), alloc2_new _ _ _⟩
theorem TwoAt.mk2 {w w1 : World} {x y : Sc} (hb : Below w.heap.size w w1) : TwoAt w x y (.pointer (some ⟨w1.heap.size + 1, 0, none⟩)) (.pointer (some ⟨w1.heap.size, 0, none⟩)) ((w1.alloc (.cells #[scK y, scB y] 47)).alloc (.cells #[scK x, scB x] 47)) :=
  ⟨_, _, rfl, rfl, ba (ba hb _) _, by have := hb.size; omega, hb.size, alloc2_new _ _ _, alloc_blk (alloc1_new _ _)⟩
theorem TwoAt.drew {w w1 : World} {x y : Sc} {a b : Value} (h : TwoAt w x y a b w1) : TwoAt w x y a b w1.drew := by
  obtain ⟨g, g', h1, h2, h3, h4⟩ := h
  exact ⟨g, g', h1, h2, h3.drew, h4⟩
/-- what stands while the joined call is made -/
structure JoinS (w : World) (A A2 : Option Addr) (n n2 : Nat) (xs xs2 : List Value) (g g' : Nat) (s s' : ByteArray) (w' : World) : Prop where
  cutS : CutS w A A2 n n2 xs xs2 w'
  lt : g < w'.heap.size ∧ g' < w'.heap.size
  c : w'.cell? ⟨g, 1, none⟩ = some (.string s) ∧ w'.cell? ⟨g', 1, none⟩ = some (.string s')
theorem JoinS.go {w w1 w2 : World} {A A2 : Option Addr} {n n2 g g' : Nat} {xs xs2 : List Value} {s s' : ByteArray} (h : JoinS w A A2 n n2 xs xs2 g g' s s' w1) (hb : Below w1.heap.size w1 w2) : JoinS w A A2 n n2 xs xs2 g g' s s' w2 :=
  ⟨h.cutS.go hb, by have := hb.size; have := h.lt; omega, (hb.cell (p := ⟨g, 1, none⟩) h.lt.1).trans h.c.1, (hb.cell (p := ⟨g', 1, none⟩) h.lt.2).trans h.c.2⟩
theorem JoinS.al {w w1 : World} {A A2 : Option Addr} {n n2 g g' : Nat} {xs xs2 : List Value} {s s' : ByteArray} (h : JoinS w A A2 n n2 xs xs2 g g' s s' w1) (o : Obj) : JoinS w A A2 n n2 xs xs2 g g' s s' (w1.alloc o) :=
  h.go (Below.alloc (Below.refl _ w1) (Nat.le_refl _) o)
theorem JoinS.drew {w w1 : World} {A A2 : Option Addr} {n n2 g g' : Nat} {xs xs2 : List Value} {s s' : ByteArray} (h : JoinS w A A2 n n2 xs xs2 g g' s s' w1) : JoinS w A A2 n n2 xs xs2 g g' s s' w1.drew := ⟨h.cutS.drew, h.lt, h.c⟩
section
variable {w w1 w2 : World} {A A2 : Option Addr} {n n2 g g' : Nat} {xs xs2 : List Value} {s s' : ByteArray}
theorem JT.mk (h : JoinS w A A2 n n2 xs xs2 g g' s s' w1) : JoinS w A A2 n n2 xs xs2 g g' s s' w1 ∧ w1.cell? ⟨g, 1, none⟩ = some (.string s) ∧ w1.cell? ⟨g', 1, none⟩ = some (.string s') := ⟨h, h.c⟩
theorem JT.r1 (h : JoinS w A A2 n n2 xs xs2 g g' s s' w1 ∧ w1.cell? ⟨g, 1, none⟩ = some (.string s) ∧ w1.cell? ⟨g', 1, none⟩ = some (.string s')) : Reads w1 w1.heap.size 2 A n xs := h.1.cutS.r1
theorem JT.r2 (h : JoinS w A A2 n n2 xs xs2 g g' s s' w1 ∧ w1.cell? ⟨g, 1, none⟩ = some (.string s) ∧ w1.cell? ⟨g', 1, none⟩ = some (.string s')) : Reads w1 w1.heap.size 2 A2 n2 xs2 := h.1.cutS.r2
theorem JT.bel (h : JoinS w A A2 n n2 xs xs2 g g' s s' w1 ∧ w1.cell? ⟨g, 1, none⟩ = some (.string s) ∧ w1.cell? ⟨g', 1, none⟩ = some (.string s')) : Below w.heap.size w w1 := h.1.cutS.bel
theorem JT.go (h : JoinS w A A2 n n2 xs xs2 g g' s s' w1 ∧ w1.cell? ⟨g, 1, none⟩ = some (.string s) ∧ w1.cell? ⟨g', 1, none⟩ = some (.string s')) (hb : Below w1.heap.size w1 w2) : JoinS w A A2 n n2 xs xs2 g g' s s' w2 ∧ w2.cell? ⟨g, 1, none⟩ = some (.string s) ∧ w2.cell? ⟨g', 1, none⟩ = some (.string s') := JT.mk (h.1.go hb)
theorem JT.al (h : JoinS w A A2 n n2 xs xs2 g g' s s' w1 ∧ w1.cell? ⟨g, 1, none⟩ = some (.string s) ∧ w1.cell? ⟨g', 1, none⟩ = some (.string s')) (o : Obj) : JoinS w A A2 n n2 xs xs2 g g' s s' (w1.alloc o) ∧ (w1.alloc o).cell? ⟨g, 1, none⟩ = some (.string s) ∧ (w1.alloc o).cell? ⟨g', 1, none⟩ = some (.string s') := JT.mk (h.1.al o)
end
set_option maxRecDepth 100000 in
set_option maxHeartbeats 800000 in
theorem sjoin (w : World) (A : Option Addr) (c : Nat) (l : List Sc) (h : IsSc w A l) (hc : l.length ≤ c ∧ c ≤ 9223372036854775807) (k : Int) (hk1 : -9223372036854775808 ≤ k) (hk2 : k ≤ 9223372036854775807) :
    Calls Tryd.prog 31 #[.slice A l.length c, .int .i64 k] w (RetSl w 2 (scs (join l k)) (join l k).length (joinErr l k)) := by
  by_cases h0 : (chk l).2 = 0
  case neg =>
    have He := Lib.hid (show joinErr l k = (chk l).2 by simp [joinErr, h0])
    have Hl := Lib.hid (join_neg (l := l) (k := k) (by rw [He.out]; exact h0))
    have e0 : ((chk l).2 != 0) = true := by simp [h0]
    clear h0
    go_enter Tryd.func31, Tryd.ntmps31
    go_wp2_with fail
    (with_reducible refine (scheck w A c l h).mono ?_); rintro e w1 ⟨rfl, hb1⟩
    go_wp2
    go_ret2
    exact RetSl.no hb1 He Hl
  have e0 : ((chk l).2 != 0) = false := by simp [h0]
  have h200 := chk_len h0
  by_cases hkr : k < 0 ∨ (l.length : Int) - 2 < k
  · have He := Lib.hid (show joinErr l k = 4 by simp [joinErr, h0, hkr])
    have Hl := Lib.hid (join_neg (l := l) (k := k) (by rw [He.out]; decide))
    clear h0
    rcases hkr with hkr | hkr
    all_goals
      go_enter Tryd.func31, Tryd.ntmps31
      go_wp2_with fail
      (with_reducible refine (scheck w A c l h).mono ?_); rintro e w1 ⟨rfl, hb1⟩
      go_wp2
      all_goals
        go_ret2
        exact RetSl.no hb1 He Hl
  obtain ⟨n, rfl⟩ := Int.eq_ofNat_of_zero_le (show 0 ≤ k by omega)
  have hn : n + 1 < l.length := by omega
  have H0 := Lib.hid h0
  obtain ⟨b, off, K, s, rfl, hb, d1, d2, hd, hK1, hK4, hs1, _⟩ := scAtOk h.rd (by omega : n < l.length) H0
  obtain ⟨b', off', K', s', eA, hb', d1', d2', hd', hK1', hK4', hs1', _⟩ := scAtOk h.rd hn H0
  injection eA with eA
  injection eA with eb eo _
  subst eb eo
  have hat := atK_drop hd
  have hat' := atK_drop hd'
  have hi1 : (n : Int) < (l.length : Int) := by omega
  have hi0 : (0 : Int) ≤ (n : Int) := by omega
  have hj1 : (n : Int) + 1 < (l.length : Int) := by omega
  have hj0 : (0 : Int) ≤ (n : Int) + 1 := by omega
  have hjn : ((n : Int) + 1).toNat = n + 1 := by omega
  have hwrap : IntKind.i64.wrap ((n : Int) + 1) = (n : Int) + 1 := IntWalk.i64_in _ (by omega)
  go_enter Tryd.func31, Tryd.ntmps31
  go_wp2_with fail
  (with_reducible refine (scheck w _ c l h).mono ?_); rintro e w1 ⟨rfl, hb1⟩
  have hb1s := hb1.size
  have hbw : b < w1.heap.size := by omega
  have c1 := (hb1.cell (p := ⟨b, off + n * 2, none⟩) (by simp; omega)).trans d1
  have c2 := (hb1.cell (p := ⟨b, off + n * 2 + 1, none⟩) (by simp; omega)).trans d2
  have c3 := (hb1.cell (p := ⟨b, off + (n + 1) * 2, none⟩) (by simp; omega)).trans d1'
  have c4 := (hb1.cell (p := ⟨b, off + (n + 1) * 2 + 1, none⟩) (by simp; omega)).trans d2'
  have hk3 : (n : Int) ≤ (l.length : Int) - 2 := by omega
  have hk4 : decide ((l.length : Int) - 2 < (n : Int)) = false := by simp; omega
  go_upto_region 6 with fail
  go_cut [8, 9] (fun s8 s9 wx => TwoAt w (K, s) (K', s') s8 s9 wx)
  case first =>
    go_region
    all_goals
      go_wp2_with fail
      go_meet
      first | exact (TwoAt.mk1 hb1).drew | exact (TwoAt.mk2 hb1).drew
  case rest =>
    obtain ⟨g, g', rfl, rfl, hbc, hg, hg', hx, hx'⟩ := hcut
    have k1 : wc.cell? ⟨g, 0, none⟩ = some (.int .i64 K) := by rw [Lib.cell_of_heap hx]; rfl
    have k2 : wc.cell? ⟨g, 1, none⟩ = some (.string s) := by rw [Lib.cell_of_heap hx]; rfl
    have k3 : wc.cell? ⟨g', 0, none⟩ = some (.int .i64 K') := by rw [Lib.cell_of_heap hx']; rfl
    have k4 : wc.cell? ⟨g', 1, none⟩ = some (.string s') := by rw [Lib.cell_of_heap hx']; rfl
    have hlt := heap_lt hx
    have hlt' := heap_lt hx'
    clear c1 c2 c3 c4 d1 d2 d1' d2' hx hx'
    have Hat := Lib.hid hat
    have Hat' := Lib.hid hat'
    have hkr2 : ¬ ((n : Int) < 0 ∨ (l.length : Int) - 2 < n) := hkr
    clear hat hat' hkr h0
    by_cases h1 : K = 1 ∧ K' = 1
    case neg =>
      have He := Lib.hid (show joinErr l n = 2 by
        unfold joinErr; rw [if_neg (by simpa using H0.out), if_neg hkr2, Int.toNat_natCast, Hat.out, Hat'.out, if_pos (by simp only; omega)])
      have Hl := Lib.hid (join_neg (l := l) (k := (n : Int)) (by rw [He.out]; decide))
      clear hkr2
      by_cases hK : K = 1
      · have e1 : (K != 1) = false := by simp [hK]
        have e2 : (K' != 1) = true := by rw [bne_iff_ne]; intro e; exact h1 ⟨hK, e⟩
        clear hK h1
        go_wp2
        go_ret2
        exact RetSl.no hbc He Hl
      · have e1 : (K != 1) = true := by simp [hK]
        clear hK h1
        go_wp2
        go_ret2
        exact RetSl.no hbc He Hl
    obtain ⟨hKa, hKb⟩ := h1
    have e1 : (K != 1) = false := by simp [hKa]
    have e2 : (K' != 1) = false := by simp [hKb]
    by_cases hss : 1100 < s.size + s'.size
    · have He := Lib.hid (show joinErr l n = 3 by
        unfold joinErr; rw [if_neg (by simpa using H0.out), if_neg hkr2, Int.toNat_natCast, Hat.out, Hat'.out, if_neg (by simp only; omega), if_pos (by simp only; omega)])
      have Hl := Lib.hid (join_neg (l := l) (k := (n : Int)) (by rw [He.out]; decide))
      have e3 : decide ((1100 : Int) < (s.size : Int) + (s'.size : Int)) = true := by simp; omega
      clear hkr2 hKa hKb
      go_wp2
      go_ret2
      exact RetSl.no hbc He Hl
    have He := Lib.hid (show joinErr l n = 0 by
      unfold joinErr; rw [if_neg (by simpa using H0.out), if_neg hkr2, Int.toNat_natCast, Hat.out, Hat'.out, if_neg (by simp only; omega), if_neg (by simp only; omega)])
    have Hl := Lib.hid (join_pos He.out)
    have e3 : decide ((1100 : Int) < (s.size : Int) + (s'.size : Int)) = false := by simp; omega
    have hadd : s.size + s'.size ≤ 9223372036854775807 := by omega
    have hadd2 : ¬ (9223372036854775807 < s.size + s'.size) := by omega
    clear hkr2 hKa hKb
    have h1 := h.below hbc
    have hto := sl_to scEl (by kernel_rfl) (some ⟨b, off, none⟩) l.length c (n : Int) n rfl (by omega) hc.1
    obtain ⟨A2, hfrom, hr2⟩ := sl_from scEl (by kernel_rfl) h1.rd ((n : Int) + 2) (n + 2) (by omega) hn hc.1
    have hwrap2 : IntKind.i64.wrap ((n : Int) + 2) = (n : Int) + 2 := IntWalk.i64_in _ (by omega)
    have hS : JoinS w (some ⟨b, off, none⟩) A2 n (l.length - (n + 2)) (scs (l.take n)) (scs (l.drop (n + 2))) g g' s s' wc := ⟨⟨hbc, by
      have := h1.rd.firsts (k := n) (by omega)
      rwa [flat2_take] at this, by rwa [flat2_drop] at hr2⟩, ⟨hlt, hlt'⟩, ⟨k2, k4⟩⟩
    go_wp2
    go_region_held3 (fun w' => JoinS w (some ⟨b, off, none⟩) A2 n (l.length - (n + 2)) (scs (l.take n)) (scs (l.drop (n + 2))) g g' s s' w' ∧ w'.cell? ⟨g, 1, none⟩ = some (.string s) ∧ w'.cell? ⟨g', 1, none⟩ = some (.string s'))
      (with_reducible (first | exact JT.mk (JoinS.drew hS) | exact JT.al (by assumption) _ | exact JT.go (by assumption) hb2 | exact JT.go (by assumption) hb3))
      ((first
        | (go_at_call 45; refine (sfeed _ _).mono ?_; rintro e w2 ⟨rfl, hb2⟩)
        | (go_at_call 44
           refine (concat3 _ _ _ _ _ _ _ _ _ _ _ (l.take n) [(1, s ++ s')] (l.drop (n + 2)) (by exact alloc2_new _ _ _) (by simp; omega) rfl (by simp) (by with_reducible exact JT.r1 (by assumption)) (by exact (reads_blkN (cs := scs [(1, s ++ s')]) (alloc1_new _ _) rfl).al _) (by with_reducible exact JT.r2 (by assumption)) (by show n + 1 + (l.length - (n + 2)) ≤ 1000000; omega)).mono ?_
           rintro e w3 ⟨v3, rfl, hb3, hown3⟩)))
    have hB : Below w.heap.size w w3 := by with_reducible exact JT.bel (by assumption)
    have hx : l.take n ++ ([(1, s ++ s')] ++ l.drop (n + 2)) = join l n := by
      rw [Hl.out, joinOk, Int.toNat_natCast, Hat.out, Hat'.out]
      rfl
    rw [hx] at hown3
    clear hx
    go_wp2
    go_ret2
    exact RetSl.of_own hown3 hB He.out rfl rfl
end Go.Proofs.YtoogemdcmnjpnaaDoor
