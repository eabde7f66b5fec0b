/- Same and Total, of the script and of its reference. -/
import Derived.Test.YtoogemdcmnjpnaaDoorS2
namespace Go.Proofs.YtoogemdcmnjpnaaDoor
open Go.RowKit

def same (l m : List Sc) : Bool × Int := if (chk l).2 ≠ 0 then (false, (chk l).2) else if (chk m).2 ≠ 0 then (false, (chk m).2) else (decide (shape l = shape m), 0)
def total (l : List Sc) : Nat := if (chk l).2 = 0 then bytesOf l else 0
/-- what is known of a script in memory -/
structure IsSc (w : World) (A : Option Addr) (l : List Sc) : Prop where
  rd : Reads w w.heap.size 2 A l.length (scs l)
  len : l.length ≤ 9223372036854775807
  sz : Sizes l
theorem IsSc.below {w w' : World} {A : Option Addr} {l : List Sc} (h : IsSc w A l) (hb : Below w.heap.size w w') : IsSc w' A l := ⟨(h.rd.below hb).more hb.size, h.len, h.sz⟩
theorem scheck (w : World) (A : Option Addr) (c : Nat) (l : List Sc) (h : IsSc w A l) :
    Calls Tryd.prog 20 #[.slice A l.length c] w fun e w' => e = .returned (.tuple #[.int .i64 (chk l).1, .int .i64 (chk l).2]) ∧ Below w.heap.size w w' := scheck_any w _ A c l h.rd (Nat.le_refl _) h.len h.sz
theorem rcheck (w : World) (A : Option Addr) (c : Nat) (l : List Sc) (h : IsSc w A l) :
    Calls Tryd.prog 21 #[.slice A l.length c] w fun e w' => e = .returned (.tuple #[.int .i64 (chk l).1, .int .i64 (chk l).2]) ∧ Below w.heap.size w w' := rcheck_any w _ A c l h.rd (Nat.le_refl _) h.len h.sz
theorem sshape (w : World) (A : Option Addr) (c : Nat) (l : List Sc) (h : IsSc w A l) :
    Calls Tryd.prog 22 #[.slice A l.length c] w (RetSl w 2 (shs (shape l)) (shape l).length (chk l).2) := sshape_any w _ A c l h.rd (Nat.le_refl _) h.len h.sz
theorem rshape (w : World) (A : Option Addr) (c : Nat) (l : List Sc) (h : IsSc w A l) :
    Calls Tryd.prog 23 #[.slice A l.length c] w (RetSl w 2 (shs (shape l)) (shape l).length (chk l).2) := rshape_any w _ A c l h.rd (Nat.le_refl _) h.len h.sz
theorem shape_len (l : List Sc) : (shape l).length ≤ 200 := by
  by_cases h : (chk l).2 = 0
  · rw [shape_pos h, shp_length]; exact chk_len h
  · rw [shape_neg h]; simp
theorem ret_be {a b : Bool} {k : IntKind} {x y : Int} (h : a = b) (h' : x = y) : Ending.returned (.tuple #[.bool a, .int k x]) = .returned (.tuple #[.bool b, .int k y]) := by rw [h, h']

set_option maxRecDepth 100000 in
set_option maxHeartbeats 400000 in
theorem ssame (w : World) (A A' : Option Addr) (c c' : Nat) (l m : List Sc) (h : IsSc w A l) (h' : IsSc w A' m) :
    Calls Tryd.prog 25 #[.slice A l.length c, .slice A' m.length c'] w fun e w' => e = .returned (.tuple #[.bool (same l m).1, .int .i64 (same l m).2]) ∧ Below w.heap.size w w' := by
  by_cases h0 : (chk l).2 = 0
  · have e0 : ((chk l).2 != 0) = false := by simp [h0]
    have g0 : ((chk l).2 == 0) = true := by simp [h0]
    by_cases h1 : (chk m).2 = 0
    · have e1 : ((chk m).2 != 0) = false := by simp [h1]
      have g1 : ((chk m).2 == 0) = true := by simp [h1]
      have Hs := Lib.hid (show same l m = (decide (shape l = shape m), 0) by simp [same, h0, h1])
      have H1 := Lib.hid h1
      clear h0 h1
      have hl := shape_len l
      go_enter Tryd.func25, Tryd.ntmps25
      go_wp2_with fail
      (with_reducible refine (sshape w A c l h).mono ?_); rintro e w1 ⟨A1, c1, rfl, hb1, hr1, _, _⟩
      go_wp2_with fail
      (with_reducible refine (sshape w1 A' c' m (h'.below hb1)).mono ?_); rintro e w2 ⟨A2, c2, rfl, hb2, hr2, _, _⟩
      have hb2' := hb1.trans (hb2.mono hb1.size)
      go_wp2_with fail
      (with_reducible refine (slEqual_any w2 _ _ A1 A2 c1 c2 (shape l) (shape m) (hr1.below hb2) hr2 (by omega)).mono ?_); rintro e w3 ⟨rfl, hb3⟩
      go_wp2
      go_ret2
      exact ⟨ret_be (by rw [Hs.out]) (by rw [Hs.out]), hb2'.trans (hb3.mono hb2'.size)⟩
    · have e1 : ((chk m).2 != 0) = true := by simp [h1]
      have g1 : ((chk m).2 == 0) = false := by simp [h1]
      have Hs := Lib.hid (show same l m = (false, (chk m).2) by simp [same, h0, h1])
      clear h0 h1
      go_enter Tryd.func25, Tryd.ntmps25
      go_wp2_with fail
      (with_reducible refine (sshape w A c l h).mono ?_); rintro e w1 ⟨A1, c1, rfl, hb1, hr1, _, _⟩
      go_wp2_with fail
      (with_reducible refine (sshape w1 A' c' m (h'.below hb1)).mono ?_); rintro e w2 ⟨A2, c2, rfl, hb2, hr2, _, _⟩
      have hb2' := hb1.trans (hb2.mono hb1.size)
      go_wp2
      go_ret2
      exact ⟨ret_be (by rw [Hs.out]) (by rw [Hs.out]), hb2'⟩
  · have e0 : ((chk l).2 != 0) = true := by simp [h0]
    have Hs := Lib.hid (show same l m = (false, (chk l).2) by simp [same, h0])
    clear h0
    go_enter Tryd.func25, Tryd.ntmps25
    go_wp2_with fail
    (with_reducible refine (sshape w A c l h).mono ?_); rintro e w1 ⟨A1, c1, rfl, hb1, hr1, _, _⟩
    go_wp2
    go_ret2
    exact ⟨ret_be (by rw [Hs.out]) (by rw [Hs.out]), hb1⟩

set_option maxRecDepth 100000 in
set_option maxHeartbeats 400000 in
theorem rsame (w : World) (A A' : Option Addr) (c c' : Nat) (l m : List Sc) (h : IsSc w A l) (h' : IsSc w A' m) :
    Calls Tryd.prog 26 #[.slice A l.length c, .slice A' m.length c'] w fun e w' => e = .returned (.tuple #[.bool (same l m).1, .int .i64 (same l m).2]) ∧ Below w.heap.size w w' := by
  by_cases h0 : (chk l).2 = 0
  · have e0 : ((chk l).2 != 0) = false := by simp [h0]
    have g0 : ((chk l).2 == 0) = true := by simp [h0]
    by_cases h1 : (chk m).2 = 0
    · have e1 : ((chk m).2 != 0) = false := by simp [h1]
      have g1 : ((chk m).2 == 0) = true := by simp [h1]
      have Hs := Lib.hid (show same l m = (decide (shape l = shape m), 0) by simp [same, h0, h1])
      have H1 := Lib.hid h1
      clear h0 h1
      have hl := shape_len l
      go_enter Tryd.func26, Tryd.ntmps26
      go_wp2_with fail
      (with_reducible refine (rshape w A c l h).mono ?_); rintro e w1 ⟨A1, c1, rfl, hb1, hr1, _, _⟩
      go_wp2_with fail
      (with_reducible refine (rshape w1 A' c' m (h'.below hb1)).mono ?_); rintro e w2 ⟨A2, c2, rfl, hb2, hr2, _, _⟩
      have hb2' := hb1.trans (hb2.mono hb1.size)
      go_wp2_with fail
      (with_reducible refine (sameShape_any w2 _ _ A1 A2 c1 c2 (shape l) (shape m) (hr1.below hb2) hr2 (by omega)).mono ?_); rintro e w3 ⟨rfl, hb3⟩
      go_wp2
      go_ret2
      exact ⟨ret_be (by rw [Hs.out]) (by rw [Hs.out]; exact H1.out), hb2'.trans (hb3.mono hb2'.size)⟩
    · have e1 : ((chk m).2 != 0) = true := by simp [h1]
      have g1 : ((chk m).2 == 0) = false := by simp [h1]
      have Hs := Lib.hid (show same l m = (false, (chk m).2) by simp [same, h0, h1])
      clear h0 h1
      go_enter Tryd.func26, Tryd.ntmps26
      go_wp2_with fail
      (with_reducible refine (rshape w A c l h).mono ?_); rintro e w1 ⟨A1, c1, rfl, hb1, hr1, _, _⟩
      go_wp2_with fail
      (with_reducible refine (rshape w1 A' c' m (h'.below hb1)).mono ?_); rintro e w2 ⟨A2, c2, rfl, hb2, hr2, _, _⟩
      have hb2' := hb1.trans (hb2.mono hb1.size)
      go_wp2
      go_ret2
      exact ⟨ret_be (by rw [Hs.out]) (by rw [Hs.out]), hb2'⟩
  · have e0 : ((chk l).2 != 0) = true := by simp [h0]
    have Hs := Lib.hid (show same l m = (false, (chk l).2) by simp [same, h0])
    clear h0
    go_enter Tryd.func26, Tryd.ntmps26
    go_wp2_with fail
    (with_reducible refine (rshape w A c l h).mono ?_); rintro e w1 ⟨A1, c1, rfl, hb1, hr1, _, _⟩
    go_wp2
    go_ret2
    exact ⟨ret_be (by rw [Hs.out]) (by rw [Hs.out]), hb1⟩
end Go.Proofs.YtoogemdcmnjpnaaDoor
