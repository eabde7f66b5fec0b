/- The law's example, and awake. -/
import Derived.Test.YtoogemdcmnjpnaaDoorS8
namespace Go.Proofs.YtoogemdcmnjpnaaDoor
open Go.RowKit
theorem feed (s : ByteArray) (w : World) :
    Calls Tryd.prog 38 #[.string s] w fun e w' => e = .returned (.agg #[.int .i64 1, .string s]) ∧ Below w.heap.size w w' := by
  go_enter Tryd.func38, Tryd.ntmps38
  go_wp2
  exact bodyPost_ret (v := .agg #[.int .i64 1, .string s]) (by simp [results, Tryd.results38, go_sem]) rfl ⟨rfl, (Below.refl _ _).alloc (Nat.le_refl _) _⟩
def exL : List Sc := [(1, ⟨#[97, 98, 99]⟩), (2, ⟨#[]⟩), (1, ⟨#[100]⟩), (3, ⟨#[]⟩), (1, ⟨#[101]⟩)]
theorem exL_sizes : Sizes exL := by
  intro x hx
  have : ∀ x ∈ exL, x.2.size ≤ 3 := by decide
  have := this x hx
  omega
set_option maxRecDepth 100000 in
set_option maxHeartbeats 400000 in
theorem example_ (w : World) :
    Calls Tryd.prog 37 #[] w fun e w' => (∃ g, e = .returned (.slice (some ⟨g, 0, none⟩) 5 5) ∧ IsSc w' (some ⟨g, 0, none⟩) exL) ∧ Below w.heap.size w w' := by
  go_enter Tryd.func37, Tryd.ntmps37
  go_wp2_with fail
  (with_reducible refine (feed _ _).mono ?_); rintro e w1 ⟨rfl, hb1⟩
  go_wp2_with fail
  (with_reducible refine (feed _ _).mono ?_); rintro e w2 ⟨rfl, hb2⟩
  have hb2' := hb1.trans (hb2.mono hb1.size)
  go_wp2_with fail
  (with_reducible refine (feed _ _).mono ?_); rintro e w3 ⟨rfl, hb3⟩
  have hb3' := hb2'.trans (hb3.mono hb2'.size)
  go_wp2
  go_ret
  refine ⟨⟨_, rfl, reads_blkN (cs := scs exL) (alloc1_new _ _) rfl, by decide, exL_sizes⟩, hb3'.alloc hb3'.size _⟩
theorem chk_ex : chk exL = (0, 0) := by decide +kernel
theorem print_ex : print exL = ⟨#[102, 101, 101, 100, 32, 34, 97, 98, 99, 34, 10, 102, 108, 117, 115, 104, 10, 102, 101, 101, 100, 32, 34, 100, 34, 10, 114, 101, 115, 101, 116, 10, 102, 101, 101, 100, 32, 34, 101, 34, 10]⟩ := by decide +kernel
theorem total_ex : total exL = 5 := by decide +kernel
theorem streams_ex : streams exL = [⟨#[97, 98, 99, 100]⟩, ⟨#[101]⟩] := by decide +kernel
def exM : List Sc := [(1, ⟨#[120, 121, 120]⟩), (2, ⟨#[]⟩), (1, ⟨#[121]⟩), (3, ⟨#[]⟩), (1, ⟨#[120]⟩)]
theorem mask_ex : mask exL ⟨#[120, 121]⟩ = exM := by decide +kernel
theorem maskErr_ex : maskErr exL ⟨#[120, 121]⟩ = 0 := by decide +kernel
theorem aw_print (w : World) (A : Option Addr) (h : IsSc w A exL) (hE : Esc w) :
    Calls Tryd.prog 33 #[.slice A 5 5] w fun e w' => e = .returned (.tuple #[.string ⟨#[102, 101, 101, 100, 32, 34, 97, 98, 99, 34, 10, 102, 108, 117, 115, 104, 10, 102, 101, 101, 100, 32, 34, 100, 34, 10, 114, 101, 115, 101, 116, 10, 102, 101, 101, 100, 32, 34, 101, 34, 10]⟩, .int .i64 0]) ∧ Below w.heap.size w w' := by
  have := sprint w A 5 exL h hE
  rw [print_ex, chk_ex] at this
  exact this
theorem aw_total (w : World) (A : Option Addr) (h : IsSc w A exL) :
    Calls Tryd.prog 27 #[.slice A 5 5] w fun e w' => e = .returned (.tuple #[.int .i64 5, .int .i64 0]) ∧ Below w.heap.size w w' := by
  have := stotal w A 5 exL h
  rw [total_ex, chk_ex] at this
  exact this
theorem aw_streams (w : World) (A : Option Addr) (h : IsSc w A exL) :
    Calls Tryd.prog 16 #[.slice A 5 5] w (RetSl w 1 ([(⟨#[97, 98, 99, 100]⟩ : ByteArray), ⟨#[101]⟩].map Value.string) 2 0) := by
  have := sstreams w A 5 exL h
  rw [streams_ex, chk_ex] at this
  exact this
theorem aw_mask (w : World) (A : Option Addr) (h : IsSc w A exL) :
    Calls Tryd.prog 14 #[.slice A 5 5, .string ⟨#[120, 121]⟩] w (RetSl w 2 (scs exM) 5 0) := by
  have := smask w A 5 exL h ⟨#[120, 121]⟩ (by decide)
  rw [mask_ex, maskErr_ex] at this
  exact this
theorem aw_strings (w : World) (B B' : Nat) (A A' : Option Addr) (c c' : Nat) (h : Reads w B 1 A 2 ([(⟨#[97, 98, 99, 100]⟩ : ByteArray), ⟨#[101]⟩].map Value.string)) (h' : Reads w B' 1 A' 2 ([(⟨#[97, 98, 99, 100]⟩ : ByteArray), ⟨#[101]⟩].map Value.string)) :
    Calls Tryd.prog 19 #[.slice A 2 c, .slice A' 2 c'] w fun e w' => e = .returned (.bool true) ∧ Below w.heap.size w w' := by
  have := strings_any w B B' A A' c c' [(⟨#[97, 98, 99, 100]⟩ : ByteArray), ⟨#[101]⟩] [(⟨#[97, 98, 99, 100]⟩ : ByteArray), ⟨#[101]⟩] h h' (by decide)
  rw [decide_eq_true rfl] at this
  exact this
theorem aw_equal (w : World) (B B' : Nat) (A A' : Option Addr) (c c' : Nat) (h : Reads w B 2 A 5 (scs exM)) (h' : Reads w B' 2 A' 5 (scs exM)) :
    Calls Tryd.prog 18 #[.slice A 5 c, .slice A' 5 c'] w fun e w' => e = .returned (.bool true) ∧ Below w.heap.size w w' := by
  have := equal_any w B B' A A' c c' exM exM h h' (by decide)
  rw [decide_eq_true rfl] at this
  exact this

set_option maxRecDepth 100000 in
set_option maxHeartbeats 1000000 in
theorem awake (w : World) (hE : Esc w) :
    Calls Tryd.prog 13 #[] w fun e w' => e = .returned (.bool true) ∧ Below w.heap.size w w' := by
  go_enter Tryd.func13, Tryd.ntmps13
  go_wp2_with fail
  (with_reducible refine (example_ _).mono ?_); rintro e w1 ⟨⟨g1, rfl, h1⟩, hb1⟩
  go_wp2_with fail
  (with_reducible refine (aw_print _ _ h1 (hE.below hb1)).mono ?_); rintro e w2 ⟨rfl, hb⟩
  have hb2 := hb1.trans (hb.mono hb1.size)
  clear hb
  go_wp2_with fail
  (with_reducible refine (example_ _).mono ?_); rintro e w3 ⟨⟨g3, rfl, h3⟩, hb⟩
  have hb3 := hb2.trans (hb.mono hb2.size)
  clear hb
  go_wp2_with fail
  (with_reducible refine (aw_total _ _ h3).mono ?_); rintro e w4 ⟨rfl, hb⟩
  have hb4 := hb3.trans (hb.mono hb3.size)
  clear hb
  go_wp2_with fail
  (with_reducible refine (example_ _).mono ?_); rintro e w5 ⟨⟨g5, rfl, h5⟩, hb⟩
  have hb5 := hb4.trans (hb.mono hb4.size)
  clear hb
  go_wp2_with fail
  (with_reducible refine (aw_streams _ _ h5).mono ?_); rintro e w6 ⟨A6, c6, rfl, hb, hr6, _, _⟩
  have hb6 := hb5.trans (hb.mono hb5.size)
  clear hb
  go_wp2_with fail
  (with_reducible refine (example_ _).mono ?_); rintro e w7 ⟨⟨g7, rfl, h7⟩, hb7⟩
  have hb7' := hb6.trans (hb7.mono hb6.size)
  go_wp2_with fail
  (with_reducible refine (aw_mask _ _ h7).mono ?_); rintro e w8 ⟨A8, c8, rfl, hb8, hr8, _, _⟩
  have hb8' := hb7'.trans (hb8.mono hb7'.size)
  go_wp2_with fail
  (with_reducible refine (aw_strings _ _ _ _ _ _ _ (by exact ((hr6.below hb7).below' hb8 hb7.size).alloc (Nat.le_trans hb7.size hb8.size) _) (by exact reads_blkN (cs := [(⟨#[97, 98, 99, 100]⟩ : ByteArray), ⟨#[101]⟩].map Value.string) (alloc1_new _ _) rfl)).mono ?_); rintro e w9 ⟨rfl, hb9⟩
  have hb9' := (hb8'.alloc hb8'.size _).trans (hb9.mono (by simp; have := hb8'.size; omega))
  go_wp2_with fail
  (with_reducible refine (feed _ _).mono ?_); rintro e w10 ⟨rfl, hb10⟩
  have hb10' := hb9'.trans (hb10.mono hb9'.size)
  go_wp2_with fail
  (with_reducible refine (feed _ _).mono ?_); rintro e w11 ⟨rfl, hb11⟩
  have hb11' := hb10'.trans (hb11.mono hb10'.size)
  go_wp2_with fail
  (with_reducible refine (feed _ _).mono ?_); rintro e w12 ⟨rfl, hb12⟩
  have hb12' := hb11'.trans (hb12.mono hb11'.size)
  go_wp2_with fail
  (with_reducible refine (aw_equal _ _ _ _ _ _ _ (by exact (((((hr8.al _).go hb9).go hb10).go hb11).go hb12).al _) (by exact reads_blkN (cs := scs exM) (alloc1_new _ _) rfl)).mono ?_); rintro e w13 ⟨rfl, hb13⟩
  have hb13' := bt (ba hb12' _) hb13
  go_wp2
  go_ret
  exact ⟨rfl, hb13'⟩
end Go.Proofs.YtoogemdcmnjpnaaDoor
