/- Cut of the script. -/
import Derived.Test.YtoogemdcmnjpnaaDoorS11
import Derived.Deep.RegionWith
import Derived.IntWalk
namespace Go.Proofs.YtoogemdcmnjpnaaDoor
open Go.RowKit
def atK (l : List Sc) (k : Nat) : Sc := l.getD k (0, ⟨#[]⟩)
def cutErr (l : List Sc) (k a : Int) : Int := if (chk l).2 ≠ 0 then (chk l).2 else if k < 0 ∨ (l.length : Int) ≤ k then 4 else if (atK l k.toNat).1 ≠ 1 then 2 else if a < 0 ∨ ((atK l k.toNat).2.size : Int) < a then 7 else if l.length = 200 then 3 else 0
def cutOk (l : List Sc) (k a : Nat) : List Sc := l.take k ++ ((1, (atK l k).2.extract 0 a) :: (1, (atK l k).2.extract a (atK l k).2.size) :: l.drop (k + 1))
def cut (l : List Sc) (k a : Int) : List Sc := if cutErr l k a = 0 then cutOk l k.toNat a.toNat else []
theorem cut_pos {l : List Sc} {k a : Int} (h : cutErr l k a = 0) : cut l k a = cutOk l k.toNat a.toNat := if_pos h
theorem cut_neg {l : List Sc} {k a : Int} (h : cutErr l k a ≠ 0) : cut l k a = [] := if_neg h
theorem RetSl.no {w w' : World} {l : List Sc} {err : Int} (hb : Below w.heap.size w w') {e : Int} (he : Hid (err = e)) (hl : Hid (l = [])) : RetSl w 2 (scs l) l.length err (.returned (.tuple #[.slice none 0 0, .int .i64 e])) w' := by
  rw [he.out]
  exact RetSl.nil hb (by rw [hl.out]; rfl) (by rw [hl.out]; rfl)
theorem sfeed (s : ByteArray) (w : World) :
    Calls Tryd.prog 45 #[.string s] w fun e w' => e = .returned (.agg #[.int .i64 1, .string s]) ∧ Below w.heap.size w w' := by
  go_enter Tryd.func45, Tryd.ntmps45
  go_wp2
  exact bodyPost_ret (v := .agg #[.int .i64 1, .string s]) (by simp [results, Tryd.results45, go_sem]) rfl ⟨rfl, (Below.refl _ _).alloc (Nat.le_refl _) _⟩
theorem atK_drop {l : List Sc} {k : Nat} {x : Sc} (h : Hid (l.drop k = x :: l.drop (k + 1))) : atK l k = x := by
  unfold atK
  have : (l.drop k)[0]? = some x := by rw [h.out]; rfl
  rw [List.getElem?_drop, Nat.add_zero] at this
  rw [List.getD_eq_getElem?_getD, this]
  rfl
/-- what stands while the parts are made -/
structure CutS (w : World) (A A2 : Option Addr) (n n2 : Nat) (xs xs2 : List Value) (w' : World) : Prop where
  bel : Below w.heap.size w w'
  r1 : Reads w' w'.heap.size 2 A n xs
  r2 : Reads w' w'.heap.size 2 A2 n2 xs2
theorem CutS.go {w w1 w2 : World} {A A2 : Option Addr} {n n2 : Nat} {xs xs2 : List Value} (h : CutS w A A2 n n2 xs xs2 w1) (hb : Below w1.heap.size w1 w2) : CutS w A A2 n n2 xs xs2 w2 := ⟨bt h.bel hb, h.r1.go hb, h.r2.go hb⟩
theorem CutS.al {w w1 : World} {A A2 : Option Addr} {n n2 : Nat} {xs xs2 : List Value} (h : CutS w A A2 n n2 xs xs2 w1) (o : Obj) : CutS w A A2 n n2 xs xs2 (w1.alloc o) := ⟨ba h.bel o, h.r1.al o, h.r2.al o⟩
theorem CutS.drew {w w1 : World} {A A2 : Option Addr} {n n2 : Nat} {xs xs2 : List Value} (h : CutS w A A2 n n2 xs xs2 w1) : CutS w A A2 n n2 xs xs2 w1.drew := ⟨h.bel.drew, h.r1, h.r2⟩

set_option maxRecDepth 100000 in
set_option maxHeartbeats 800000 in
theorem scut (w : World) (A : Option Addr) (c : Nat) (l : List Sc) (h : IsSc w A l) (hc : l.length ≤ c ∧ c ≤ 9223372036854775807) (k a : Int) (hk1 : -9223372036854775808 ≤ k) (hk2 : k ≤ 9223372036854775807) (ha1 : -9223372036854775808 ≤ a) (ha2 : a ≤ 9223372036854775807) :
    Calls Tryd.prog 29 #[.slice A l.length c, .int .i64 k, .int .i64 a] w (RetSl w 2 (scs (cut l k a)) (cut l k a).length (cutErr l k a)) := by
  by_cases h0 : (chk l).2 = 0
  case neg =>
    have He := Lib.hid (show cutErr l k a = (chk l).2 by simp [cutErr, h0])
    have Hl := Lib.hid (cut_neg (l := l) (k := k) (a := a) (by rw [He.out]; exact h0))
    have e0 : ((chk l).2 != 0) = true := by simp [h0]
    clear h0
    go_enter Tryd.func29, Tryd.ntmps29
    go_wp2_with fail
    (with_reducible refine (scheck w A c l h).mono ?_); rintro e w1 ⟨rfl, hb1⟩
    go_wp2
    go_ret2
    exact RetSl.no hb1 He Hl
  have e0 : ((chk l).2 != 0) = false := by simp [h0]
  have h200 := chk_len h0
  by_cases hkr : k < 0 ∨ (l.length : Int) ≤ k
  · have He := Lib.hid (show cutErr l k a = 4 by simp [cutErr, h0, hkr])
    have Hl := Lib.hid (cut_neg (l := l) (k := k) (a := a) (by rw [He.out]; decide))
    clear h0
    rcases hkr with hkr | hkr
    all_goals
      go_enter Tryd.func29, Tryd.ntmps29
      go_wp2_with fail
      (with_reducible refine (scheck w A c l h).mono ?_); rintro e w1 ⟨rfl, hb1⟩
      go_wp2
      all_goals
        go_ret2
        exact RetSl.no hb1 He Hl
  obtain ⟨n, rfl⟩ := Int.eq_ofNat_of_zero_le (show 0 ≤ k by omega)
  have hn : n < l.length := by omega
  have H0 := Lib.hid h0
  obtain ⟨b, off, K, s, rfl, hb, d1, d2, hd, hK1, hK4, hs1, _⟩ := scAtOk h.rd hn H0
  have hat := atK_drop hd
  have hi1 : (n : Int) < (l.length : Int) := by omega
  have hi0 : (0 : Int) ≤ (n : Int) := by omega
  by_cases h1 : K = 1
  case neg =>
    have He := Lib.hid (show cutErr l n a = 2 by unfold cutErr; rw [if_neg (by simpa using h0), if_neg hkr, Int.toNat_natCast, hat, if_pos h1])
    have Hl := Lib.hid (cut_neg (l := l) (k := (n : Int)) (a := a) (by rw [He.out]; decide))
    have e1 : (K != 1) = true := by simp [h1]
    clear h0 hat h1 hkr
    go_enter Tryd.func29, Tryd.ntmps29
    go_wp2_with fail
    (with_reducible refine (scheck w _ c l h).mono ?_); rintro e w1 ⟨rfl, hb1⟩
    have c1 := (hb1.cell (p := ⟨b, off + n * 2, none⟩) (by simp; omega)).trans d1
    go_wp2
    go_ret2
    exact RetSl.no hb1 He Hl
  have e1 : (K != 1) = false := by simp [h1]
  by_cases har : a < 0 ∨ (s.size : Int) < a
  · have He := Lib.hid (show cutErr l n a = 7 by unfold cutErr; rw [if_neg (by simpa using h0), if_neg hkr, Int.toNat_natCast, hat, if_neg (by simpa using h1), if_pos har])
    have Hl := Lib.hid (cut_neg (l := l) (k := (n : Int)) (a := a) (by rw [He.out]; decide))
    clear h0 hat h1 hkr
    rcases har with har | har
    all_goals
      go_enter Tryd.func29, Tryd.ntmps29
      go_wp2_with fail
      (with_reducible refine (scheck w _ c l h).mono ?_); rintro e w1 ⟨rfl, hb1⟩
      have c1 := (hb1.cell (p := ⟨b, off + n * 2, none⟩) (by simp; omega)).trans d1
      have c2 := (hb1.cell (p := ⟨b, off + n * 2 + 1, none⟩) (by simp; omega)).trans d2
      go_wp2
      all_goals
        go_ret2
        exact RetSl.no hb1 He Hl
  obtain ⟨m, rfl⟩ := Int.eq_ofNat_of_zero_le (show 0 ≤ a by omega)
  have hms : m ≤ s.size := by omega
  by_cases hl200 : l.length = 200
  · have He := Lib.hid (show cutErr l n m = 3 by unfold cutErr; rw [if_neg (by simpa using h0), if_neg hkr, Int.toNat_natCast, hat, if_neg (by simpa using h1), if_neg har, if_pos hl200])
    have Hl := Lib.hid (cut_neg (l := l) (k := (n : Int)) (a := (m : Int)) (by rw [He.out]; decide))
    have e2 : ((l.length : Int) == 200) = true := by simp [hl200]
    clear h0 hat h1 hkr har hl200
    go_enter Tryd.func29, Tryd.ntmps29
    go_wp2_with fail
    (with_reducible refine (scheck w _ c l h).mono ?_); rintro e w1 ⟨rfl, hb1⟩
    have c1 := (hb1.cell (p := ⟨b, off + n * 2, none⟩) (by simp; omega)).trans d1
    have c2 := (hb1.cell (p := ⟨b, off + n * 2 + 1, none⟩) (by simp; omega)).trans d2
    go_wp2
    go_ret2
    exact RetSl.no hb1 He Hl
  have He := Lib.hid (show cutErr l n m = 0 by unfold cutErr; rw [if_neg (by simpa using h0), if_neg hkr, Int.toNat_natCast, hat, if_neg (by simpa using h1), if_neg har, if_neg hl200])
  have Hl := Lib.hid (cut_pos He.out)
  have e2 : ((l.length : Int) == 200) = false := by rw [beq_eq_false_iff_ne]; omega
  have Hat := Lib.hid hat
  have HK := Lib.hid h1
  clear h0 hat h1 hkr har hl200
  go_enter Tryd.func29, Tryd.ntmps29
  go_wp2_with fail
  (with_reducible refine (scheck w _ c l h).mono ?_); rintro e w1 ⟨rfl, hb1⟩
  have c1 := (hb1.cell (p := ⟨b, off + n * 2, none⟩) (by simp; omega)).trans d1
  have c2 := (hb1.cell (p := ⟨b, off + n * 2 + 1, none⟩) (by simp; omega)).trans d2
  have h1 := h.below hb1
  have hn0 : (0 : Int) ≤ (n : Int) + 1 := by omega
  have hn1 : (n : Int) + 1 ≤ (l.length : Int) := by omega
  have hn3 : (n : Int) ≤ (c : Int) := by omega
  have hto := sl_to scEl (by kernel_rfl) (some ⟨b, off, none⟩) l.length c (n : Int) n rfl (by omega) hc.1
  obtain ⟨A2, hfrom, hr2⟩ := sl_from scEl (by kernel_rfl) h1.rd ((n : Int) + 1) (n + 1) (by omega) hn hc.1
  have hm1 : (m : Int) ≤ (s.size : Int) := by omega
  have hm0 : (0 : Int) ≤ (m : Int) := by omega
  have hwrap : IntKind.i64.wrap ((n : Int) + 1) = (n : Int) + 1 := IntWalk.i64_in _ (by omega)
  go_wp2
  have hS : CutS w (some ⟨b, off, none⟩) A2 n (l.length - (n + 1)) (scs (l.take n)) (scs (l.drop (n + 1))) w1 := ⟨hb1, by
    have := h1.rd.firsts (k := n) (by omega)
    rwa [flat2_take] at this, by rwa [flat2_drop] at hr2⟩
  go_region_held3 (CutS w (some ⟨b, off, none⟩) A2 n (l.length - (n + 1)) (scs (l.take n)) (scs (l.drop (n + 1)))) (with_reducible (first | assumption | exact CutS.drew (by assumption) | exact CutS.al (by assumption) _ | exact CutS.go (by assumption) hb2 | exact CutS.go (by assumption) hb3))
    ((first
      | (go_at_call 45; refine (sfeed _ _).mono ?_; rintro e w2 ⟨rfl, hb2⟩)
      | (go_at_call 44
         refine (concat3 _ _ _ _ _ _ _ _ _ _ _ (l.take n) [(1, s.extract 0 m), (1, s.extract m s.size)] (l.drop (n + 1)) (by exact alloc2_new _ _ _) (by simp; omega) rfl (by simp) (by with_reducible exact CutS.r1 (by assumption)) (by exact (reads_blkN (cs := scs [(1, s.extract 0 m), (1, s.extract m s.size)]) (alloc1_new _ _) rfl).al _) (by with_reducible exact CutS.r2 (by assumption)) (by show n + 2 + (l.length - (n + 1)) ≤ 1000000; omega)).mono ?_
         rintro e w3 ⟨v3, rfl, hb3, hown3⟩)))
  have hB : Below w.heap.size w w3 := by with_reducible exact CutS.bel (by assumption)
  have hx : l.take n ++ ([(1, s.extract 0 m), (1, s.extract m s.size)] ++ l.drop (n + 1)) = cut l n m := by
    rw [Hl.out, cutOk, Int.toNat_natCast, Int.toNat_natCast, Hat.out]
    rfl
  rw [hx] at hown3
  clear hx
  go_wp2
  go_ret2
  exact RetSl.of_own hown3 hB He.out rfl rfl
end Go.Proofs.YtoogemdcmnjpnaaDoor
