/- ScriptPublic: for every two scripts and every string the law returns true. No condition. -/
import Derived.Test.YtoogemdcmnjpnaaDoorS10
namespace Go.Proofs.YtoogemdcmnjpnaaDoor
open Go.RowKit
theorem scErr_shp {x y : Sc} (h1 : x.1 = y.1) (h2 : (x.2.size : Int) = y.2.size) : scErr x = scErr y := by
  have h3 : x.2.size = y.2.size := by omega
  unfold scErr
  rw [h1, h3]
theorem chkFrom_shp : ∀ {a b : List Sc} (i : Nat), shp a = shp b → chkFrom i a = chkFrom i b
  | [], [], _, _ => rfl
  | [], _ :: _, _, h => by simp [shp] at h
  | _ :: _, [], _, h => by simp [shp] at h
  | x :: r, y :: t, i, h => by
    simp only [shp, List.map_cons, List.cons.injEq, Prod.mk.injEq] at h
    obtain ⟨⟨h1, h2⟩, h3⟩ := h
    rw [chkFrom, chkFrom, scErr_shp h1 h2, chkFrom_shp (i + 1) h3]
theorem chk_shp {a b : List Sc} (h : shp a = shp b) : chk a = chk b := by
  have hl : a.length = b.length := by rw [← shp_length, h, shp_length]
  unfold chk
  rw [hl, chkFrom_shp 0 h]
theorem maskFrom_shp {s : ByteArray} : ∀ (a : Nat) (l : List Sc), shp (maskFrom s a l) = shp l
  | _, [] => rfl
  | a, x :: r => by
    have := maskFrom_shp (s := s) (a + x.2.size) r
    simp only [shp, maskFrom, List.map_cons, List.cons.injEq, Prod.mk.injEq, true_and] at *
    refine ⟨?_, this⟩
    show ((cyc s a x.2.size).toArray.size : Int) = _
    simp [cyc_length]
theorem maskFrom_eq {s : ByteArray} : ∀ (a : Nat) (l m : List Sc), shp l = shp m → maskFrom s a l = maskFrom s a m
  | _, [], [], _ => rfl
  | _, [], _ :: _, h => by simp [shp] at h
  | _, _ :: _, [], h => by simp [shp] at h
  | a, x :: r, y :: t, h => by
    simp only [shp, List.map_cons, List.cons.injEq, Prod.mk.injEq] at h
    obtain ⟨⟨h1, h2⟩, h3⟩ := h
    have h2' : x.2.size = y.2.size := by omega
    rw [maskFrom, maskFrom, h1, h2', maskFrom_eq _ r t h3]
theorem mask_shp {l : List Sc} {s : ByteArray} (h : maskErr l s = 0) : shp (mask l s) = shp l := by rw [mask_pos h, maskFrom_shp]
theorem mask_iff {l m : List Sc} {s : ByteArray} (h : maskErr l s = 0) (h' : maskErr m s = 0) : mask l s = mask m s ↔ shp l = shp m := by
  constructor
  · intro e; rw [← mask_shp h, ← mask_shp h', e]
  · intro e; rw [mask_pos h, mask_pos h', maskFrom_eq 0 l m e]
theorem sizes_shp {a b : List Sc} (h : shp a = shp b) (hb : Sizes b) : Sizes a := by
  intro x hx
  have : (x.1, (x.2.size : Int)) ∈ shp b := by rw [← h]; exact List.mem_map.2 ⟨x, hx, rfl⟩
  obtain ⟨y, hy, e⟩ := List.mem_map.1 this
  injection e with _ e
  have := hb y hy
  omega
theorem ssame' (w : World) (A A' : Option Addr) (c c' : Nat) (l m : List Sc) (h : IsSc w A l) (h' : IsSc w A' m) {q : Bool} {e0 : Int} (hr : Hid (same l m = (q, e0))) :
    Calls Tryd.prog 25 #[.slice A l.length c, .slice A' m.length c'] w fun e w' => e = .returned (.tuple #[.bool q, .int .i64 e0]) ∧ Below w.heap.size w w' := by
  have := ssame w A A' c c' l m h h'
  rw [hr.out] at this
  exact this
theorem smask' (w : World) (A : Option Addr) (c : Nat) (l : List Sc) (h : IsSc w A l) (s : ByteArray) (hs2 : s.size ≤ 1000) {e0 : Int} (hr : Hid (maskErr l s = e0)) :
    Calls Tryd.prog 14 #[.slice A l.length c, .string s] w (RetSl w 2 (scs (mask l s)) (mask l s).length e0) := by
  have := smask w A c l h s hs2
  rw [hr.out] at this
  exact this
theorem equal_dec (w : World) (A A' : Option Addr) (c c' : Nat) (l m : List Sc) (h : Reads w w.heap.size 2 A l.length (scs l)) (h' : Reads w w.heap.size 2 A' m.length (scs m)) (hl : l.length ≤ 9223372036854775807) {q : Bool} (hq : Hid (decide (l = m) = q)) :
    Calls Tryd.prog 18 #[.slice A l.length c, .slice A' m.length c'] w fun e w' => e = .returned (.bool q) ∧ Below w.heap.size w w' := by
  have := equal_ w A A' c c' l m h h' hl
  rw [hq.out] at this
  exact this
theorem same_bad {l m : List Sc} (h : (chk l).2 ≠ 0) : same l m = (false, (chk l).2) := by unfold same; rw [if_pos h]
theorem same_bad2 {l m : List Sc} (h : (chk l).2 = 0) (h' : (chk m).2 ≠ 0) : same l m = (false, (chk m).2) := by unfold same; rw [if_neg (by simpa using h), if_pos h']
theorem same_ok {l m : List Sc} (h : (chk l).2 = 0) (h' : (chk m).2 = 0) : same l m = (decide (shp l = shp m), 0) := by
  unfold same; rw [if_neg (by simpa using h), if_neg (by simpa using h'), shape_pos h, shape_pos h']
set_option maxRecDepth 100000 in
set_option maxHeartbeats 2000000 in
theorem scriptPublic_walk (w : World) (A : Option Addr) (c : Nat) (l : List Sc) (h : IsSc w A l) (_hc : l.length ≤ c ∧ c ≤ 9223372036854775807) (A' : Option Addr) (c' : Nat) (m : List Sc) (h' : IsSc w A' m) (_hc' : m.length ≤ c' ∧ c' ≤ 9223372036854775807) (s : ByteArray) (_hs : s.size ≤ 140737488351232) (hE : Esc w) :
    Calls Tryd.prog 5 #[.slice A l.length c, .slice A' m.length c', .string s] w fun e w' => e = .returned (.bool true) ∧ Below w.heap.size w w' := by
  have toAwake : ∀ w1, Below w.heap.size w w1 → Esc w1 := fun w1 hb => hE.below hb
  have HT := Lib.hid toAwake
  clear toAwake
  by_cases hf : farB l = true
  · go_enter Tryd.func5, Tryd.ntmps5
    go_wp2_with fail
    (with_reducible refine (far w A c l h).mono ?_); rintro e w1 ⟨rfl, rfl⟩
    go_wp2_with fail
    (with_reducible refine (awake _ hE).mono ?_); rintro e w1 ⟨rfl, hb1⟩
    go_wp2
    go_ret
    exact ⟨rfl, hb1⟩
  have hf2 : farB l = false := by simpa using hf
  have hl := farB_len hf2
  clear hf
  by_cases hf : farB m = true
  · go_enter Tryd.func5, Tryd.ntmps5
    go_wp2_with fail
    (with_reducible refine (far w A c l h).mono ?_); rintro e w1 ⟨rfl, rfl⟩
    go_wp2_with fail
    (with_reducible refine (far w A' c' m h').mono ?_); rintro e w1 ⟨rfl, rfl⟩
    go_wp2_with fail
    (with_reducible refine (awake _ hE).mono ?_); rintro e w1 ⟨rfl, hb1⟩
    go_wp2
    go_ret
    exact ⟨rfl, hb1⟩
  have hf3 : farB m = false := by simpa using hf
  have hml := farB_len hf3
  clear hf
  by_cases hs300 : 300 < s.size
  · go_enter Tryd.func5, Tryd.ntmps5
    go_wp2_with fail
    (with_reducible refine (far w A c l h).mono ?_); rintro e w1 ⟨rfl, rfl⟩
    go_wp2_with fail
    (with_reducible refine (far w A' c' m h').mono ?_); rintro e w1 ⟨rfl, rfl⟩
    go_wp2_with fail
    (with_reducible refine (awake _ hE).mono ?_); rintro e w1 ⟨rfl, hb1⟩
    go_wp2
    go_ret
    exact ⟨rfl, hb1⟩
  by_cases h0 : (chk l).2 = 0
  case neg =>
    have hll := Lib.hid (same_bad (m := l) h0)
    have hlm := Lib.hid (same_bad (m := m) h0)
    obtain ⟨qo, eo, hml2⟩ : ∃ q e0, Hid (same m l = (q, e0)) := ⟨_, _, Lib.hid rfl⟩
    have e0 : ((chk l).2 != 0) = true := by simp [h0]
    have e1 : ((chk l).2 == 0) = false := by simp [h0]
    generalize (chk l).2 = e at *
    clear h0
    go_enter Tryd.func5, Tryd.ntmps5
    go_wp2_with fail
    (with_reducible refine (far w A c l h).mono ?_); rintro e w1 ⟨rfl, rfl⟩
    go_wp2_with fail
    (with_reducible refine (far w A' c' m h').mono ?_); rintro e w1 ⟨rfl, rfl⟩
    go_wp2_with fail
    (with_reducible refine (ssame' w A A c c l l h h hll).mono ?_); rintro e w1 ⟨rfl, hb1⟩
    go_wp2_with fail
    (with_reducible refine (ssame' w1 A A' c c' l m (h.below hb1) (h'.below hb1) hlm).mono ?_); rintro e w2 ⟨rfl, hb2⟩
    have hB2 := bt hb1 hb2
    go_wp2_with fail
    (with_reducible refine (ssame' w2 A' A c' c m l (h'.below hB2) (h.below hB2) hml2).mono ?_); rintro e w3 ⟨rfl, hb3⟩
    have hB3 := bt hB2 hb3
    go_wp2_with fail
    (with_reducible refine (awake _ (HT.out _ hB3)).mono ?_); rintro e w4 ⟨rfl, hb4⟩
    have hB4 := bt hB3 hb4
    go_wp2
    go_ret
    exact ⟨rfl, hB4⟩
  have hll := Lib.hid (same_ok h0 h0)
  by_cases h1 : (chk m).2 = 0
  case neg =>
    have hlm := Lib.hid (same_bad2 h0 h1)
    have hml2 := Lib.hid (same_bad (m := l) h1)
    have e0 : ((chk m).2 != 0) = true := by simp [h1]
    have e1 : ((chk m).2 == 0) = false := by simp [h1]
    have hll2 : Hid (same l l = (true, 0)) := Lib.hid (by rw [hll.out, decide_eq_true rfl])
    generalize (chk m).2 = e at *
    clear h0 h1 hll
    go_enter Tryd.func5, Tryd.ntmps5
    go_wp2_with fail
    (with_reducible refine (far w A c l h).mono ?_); rintro e w1 ⟨rfl, rfl⟩
    go_wp2_with fail
    (with_reducible refine (far w A' c' m h').mono ?_); rintro e w1 ⟨rfl, rfl⟩
    go_wp2_with fail
    (with_reducible refine (ssame' w A A c c l l h h hll2).mono ?_); rintro e w1 ⟨rfl, hb1⟩
    go_wp2_with fail
    (with_reducible refine (ssame' w1 A A' c c' l m (h.below hb1) (h'.below hb1) hlm).mono ?_); rintro e w2 ⟨rfl, hb2⟩
    have hB2 := bt hb1 hb2
    go_wp2_with fail
    (with_reducible refine (ssame' w2 A' A c' c m l (h'.below hB2) (h.below hB2) hml2).mono ?_); rintro e w3 ⟨rfl, hb3⟩
    have hB3 := bt hB2 hb3
    go_wp2_with fail
    (with_reducible refine (awake _ (HT.out _ hB3)).mono ?_); rintro e w4 ⟨rfl, hb4⟩
    have hB4 := bt hB3 hb4
    go_wp2
    go_ret
    exact ⟨rfl, hB4⟩
  have hll2 : Hid (same l l = (true, 0)) := Lib.hid (by rw [hll.out, decide_eq_true rfl])
  obtain ⟨q, hq⟩ : ∃ q : Bool, Hid (decide (shp l = shp m) = q) := ⟨_, Lib.hid rfl⟩
  have hlm : Hid (same l m = (q, 0)) := Lib.hid (by rw [same_ok h0 h1, hq.out])
  have hml2 : Hid (same m l = (q, 0)) := Lib.hid (by
    rw [same_ok h1 h0, ← hq.out]
    congr 1
    rw [Bool.eq_iff_iff]; simp [eq_comm])
  clear hll
  by_cases hs : s.size = 0
  · have hE1 : s.toList.isEmpty = true := by rw [(toList_nil s).2 hs]; rfl
    have hE2 : s.toList = [] := (toList_nil s).2 hs
    have hm1 := Lib.hid (show maskErr l s = 2 by simp [maskErr, h0, hs])
    have hm2 := Lib.hid (show maskErr m s = 2 by simp [maskErr, h1, hs])
    clear h0 h1 hs
    go_enter Tryd.func5, Tryd.ntmps5
    go_wp2_with fail
    (with_reducible refine (far w A c l h).mono ?_); rintro e w1 ⟨rfl, rfl⟩
    go_wp2_with fail
    (with_reducible refine (far w A' c' m h').mono ?_); rintro e w1 ⟨rfl, rfl⟩
    go_wp2_with fail
    (with_reducible refine (ssame' w A A c c l l h h hll2).mono ?_); rintro e w1 ⟨rfl, hb1⟩
    go_wp2_with fail
    (with_reducible refine (ssame' w1 A A' c c' l m (h.below hb1) (h'.below hb1) hlm).mono ?_); rintro e w2 ⟨rfl, hb2⟩
    have hB2 := bt hb1 hb2
    go_wp2_with fail
    (with_reducible refine (ssame' w2 A' A c' c m l (h'.below hB2) (h.below hB2) hml2).mono ?_); rintro e w3 ⟨rfl, hb3⟩
    have hB3 := bt hB2 hb3
    go_wp2_with fail
    (with_reducible refine (smask' w3 A c l (h.below hB3) s (by omega) hm1).mono ?_); rintro e w4 ⟨A4, c4, rfl, hb4, hr4, _, _⟩
    have hB4 := bt hB3 hb4
    go_wp2_with fail
    (with_reducible refine (smask' w4 A' c' m (h'.below hB4) s (by omega) hm2).mono ?_); rintro e w5 ⟨A5, c5, rfl, hb5, hr5, _, _⟩
    have hB5 := bt hB4 hb5
    go_wp2_with fail
    (with_reducible refine (awake _ (HT.out _ hB5)).mono ?_); rintro e w6 ⟨rfl, hb6⟩
    have hB6 := bt hB5 hb6
    go_wp2
    go_ret
    exact ⟨rfl, hB6⟩
  · have hE1 : s.toList.isEmpty = false := by
      rw [Bool.eq_false_iff]; intro e
      exact hs ((toList_nil s).1 (List.isEmpty_iff.1 e))
    have hE2 : ¬ s.toList = [] := fun e => hs ((toList_nil s).1 e)
    have hm1 := Lib.hid (show maskErr l s = 0 by simp [maskErr, h0, hs])
    have hm2 := Lib.hid (show maskErr m s = 0 by simp [maskErr, h1, hs])
    have hsh := Lib.hid (mask_shp hm1.out)
    have hch : Hid ((chk (mask l s)).2 = 0) := Lib.hid (by rw [chk_shp hsh.out]; exact h0)
    have hal : Hid (same (mask l s) l = (true, 0)) := Lib.hid (by rw [same_ok hch.out h0, hsh.out, decide_eq_true rfl])
    have heq : Hid (decide (mask l s = mask m s) = q) := Lib.hid (by
      rw [← hq.out, Bool.eq_iff_iff]; simp [mask_iff hm1.out hm2.out])
    have hlen := mask_len (l := l) (s := s)
    clear h0 h1 hs
    go_enter Tryd.func5, Tryd.ntmps5
    go_wp2_with fail
    (with_reducible refine (far w A c l h).mono ?_); rintro e w1 ⟨rfl, rfl⟩
    go_wp2_with fail
    (with_reducible refine (far w A' c' m h').mono ?_); rintro e w1 ⟨rfl, rfl⟩
    go_wp2_with fail
    (with_reducible refine (ssame' w A A c c l l h h hll2).mono ?_); rintro e w1 ⟨rfl, hb1⟩
    go_wp2_with fail
    (with_reducible refine (ssame' w1 A A' c c' l m (h.below hb1) (h'.below hb1) hlm).mono ?_); rintro e w2 ⟨rfl, hb2⟩
    have hB2 := bt hb1 hb2
    go_wp2_with fail
    (with_reducible refine (ssame' w2 A' A c' c m l (h'.below hB2) (h.below hB2) hml2).mono ?_); rintro e w3 ⟨rfl, hb3⟩
    have hB3 := bt hB2 hb3
    have eqq : (q != q) = false := by simp
    have eqq2 : (q == q) = true := by simp
    go_wp2_with fail
    (with_reducible refine (smask' w3 A c l (h.below hB3) s (by omega) hm1).mono ?_); rintro e w4 ⟨A4, c4, rfl, hb4, hr4, _, _⟩
    have hB4 := bt hB3 hb4
    go_wp2_with fail
    (with_reducible refine (smask' w4 A' c' m (h'.below hB4) s (by omega) hm2).mono ?_); rintro e w5 ⟨A5, c5, rfl, hb5, hr5, _, _⟩
    have hB5 := bt hB4 hb5
    have hr4 := hr4.go hb5
    have ha : IsSc w5 A4 (mask l s) := ⟨hr4, by omega, sizes_shp hsh.out h.sz⟩
    go_wp2_with fail
    (with_reducible refine (ssame' w5 A4 A c4 c (mask l s) l ha (h.below hB5) hal).mono ?_); rintro e w6 ⟨rfl, hb6⟩
    have hB6 := bt hB5 hb6
    have hr4 := hr4.go hb6
    have hr5 := hr5.go hb6
    go_wp2_with fail
    (with_reducible refine (equal_dec w6 A4 A5 c4 c5 _ _ hr4 hr5 (by omega) heq).mono ?_); rintro e w7 ⟨rfl, hb7⟩
    have hB7 := bt hB6 hb7
    go_wp2_with fail
    (with_reducible refine (awake _ (HT.out _ hB7)).mono ?_); rintro e w8 ⟨rfl, hb8⟩
    have hB8 := bt hB7 hb8
    go_wp2
    go_ret
    exact ⟨rfl, hB8⟩
end Go.Proofs.YtoogemdcmnjpnaaDoor
