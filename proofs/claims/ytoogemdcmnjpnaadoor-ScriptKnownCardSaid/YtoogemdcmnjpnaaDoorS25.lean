/- The document's examples: what the functions return there. -/
import Derived.Test.YtoogemdcmnjpnaaDoorScriptBack
namespace Go.Proofs.YtoogemdcmnjpnaaDoor
open Go.RowKit
def exK : List Sc := [(1, ⟨#[97, 98, 99]⟩), (2, ⟨#[]⟩), (4, ⟨#[]⟩), (1, ⟨#[100]⟩), (3, ⟨#[]⟩), (1, ⟨#[101]⟩)]
def exC : List Sc := [(1, ⟨#[97]⟩), (1, ⟨#[98, 99]⟩), (2, ⟨#[]⟩), (1, ⟨#[100]⟩), (3, ⟨#[]⟩), (1, ⟨#[101]⟩)]
def exX : List Sh := [(1, 3), (2, 0), (1, 1), (3, 0), (1, 1)]
theorem exK_sizes : Sizes exK := by
  intro x hx
  have : ∀ x ∈ exK, x.2.size ≤ 3 := by decide
  have := this x hx
  omega
theorem exC_sizes : Sizes exC := by
  intro x hx
  have : ∀ x ∈ exC, x.2.size ≤ 3 := by decide
  have := this x hx
  omega
theorem kn_shape (w : World) (A : Option Addr) (h : IsSc w A exL) : Calls Tryd.prog 22 #[.slice A 5 5] w (RetSl w 2 (shs exX) 5 0) := by
  have := sshape w A 5 exL h
  have e : shape exL = exX := by decide +kernel
  rw [e, chk_ex] at this
  exact this
theorem kn_streams (w : World) (A : Option Addr) (c : Nat) (h : IsSc w A exK) : Calls Tryd.prog 16 #[.slice A 6 c] w (RetSl w 1 [.string ⟨#[97, 98, 99]⟩] 1 0) := by
  have := sstreams w A c exK h
  have e : streams exK = [⟨#[97, 98, 99]⟩] := by decide +kernel
  have e2 : (chk exK).2 = 0 := by decide +kernel
  rw [e, e2] at this
  exact this
theorem kn_cut (w : World) (A : Option Addr) (h : IsSc w A exL) : Calls Tryd.prog 29 #[.slice A 5 5, .int .i64 0, .int .i64 1] w (RetSl w 2 (scs exC) 6 0) := by
  have := scut w A 5 exL h (by decide) 0 1 (by decide) (by decide) (by decide) (by decide)
  have e : cut exL 0 1 = exC := by decide +kernel
  have e2 : cutErr exL 0 1 = 0 := by decide +kernel
  rw [e, e2] at this
  exact this
theorem kn_cut1 (w : World) (A : Option Addr) (h : IsSc w A exL) : Calls Tryd.prog 29 #[.slice A 5 5, .int .i64 1, .int .i64 0] w (RetSl w 2 [] 0 2) := by
  have := scut w A 5 exL h (by decide) 1 0 (by decide) (by decide) (by decide) (by decide)
  have e : cut exL 1 0 = [] := by decide +kernel
  have e2 : cutErr exL 1 0 = 2 := by decide +kernel
  rw [e, e2] at this
  exact this
theorem kn_cut4 (w : World) (A : Option Addr) (h : IsSc w A exL) : Calls Tryd.prog 29 #[.slice A 5 5, .int .i64 0, .int .i64 4] w (RetSl w 2 [] 0 7) := by
  have := scut w A 5 exL h (by decide) 0 4 (by decide) (by decide) (by decide) (by decide)
  have e : cut exL 0 4 = [] := by decide +kernel
  have e2 : cutErr exL 0 4 = 7 := by decide +kernel
  rw [e, e2] at this
  exact this
theorem kn_join (w : World) (A : Option Addr) (h : IsSc w A exL) : Calls Tryd.prog 31 #[.slice A 5 5, .int .i64 0] w (RetSl w 2 [] 0 2) := by
  have := sjoin w A 5 exL h (by decide) 0 (by decide) (by decide)
  have e : join exL 0 = [] := by decide +kernel
  have e2 : joinErr exL 0 = 2 := by decide +kernel
  rw [e, e2] at this
  exact this
theorem kn_back (w : World) (A : Option Addr) (c : Nat) (hc : 6 ≤ c ∧ c ≤ 9223372036854775807) (h : IsSc w A exC) : Calls Tryd.prog 31 #[.slice A 6 c, .int .i64 0] w (RetSl w 2 (scs exL) 5 0) := by
  have := sjoin w A c exC h hc 0 (by decide) (by decide)
  have e : join exC 0 = exL := by decide +kernel
  have e2 : joinErr exC 0 = 0 := by decide +kernel
  rw [e, e2] at this
  exact this
def tx1 : ByteArray := ⟨#[102, 101, 101, 100, 32, 97, 98, 99, 10]⟩
def tx2 : ByteArray := ⟨#[102, 108, 117, 115, 104, 32, 49, 10]⟩
def tx3 : ByteArray := ⟨#[102, 101, 101, 100, 32, 34, 92, 110, 34, 10]⟩
theorem kn_parse1 (w : World) (hE : Esc w) (hm : ML w) : Calls Tryd.prog 35 #[.string ⟨#[102, 101, 101, 100, 32, 97, 98, 99, 10]⟩] w fun e w' => (∃ A c, e = .returned (.tuple #[.slice A 0 c, .int .i64 1, .int .i64 6])) ∧ Below w.heap.size w w' := by
  have e : parse tx1 = ([], 1, 6) := by decide +kernel
  refine (sparseB tx1 w (by decide) hE hm (Lib.hid e)).mono ?_
  rintro e w' ⟨A, c, h, hb, _⟩
  exact ⟨⟨A, c, h⟩, hb⟩
theorem kn_parse2 (w : World) (hE : Esc w) (hm : ML w) : Calls Tryd.prog 35 #[.string ⟨#[102, 108, 117, 115, 104, 32, 49, 10]⟩] w fun e w' => (∃ A c, e = .returned (.tuple #[.slice A 0 c, .int .i64 1, .int .i64 6])) ∧ Below w.heap.size w w' := by
  have e : parse tx2 = ([], 1, 6) := by decide +kernel
  refine (sparseB tx2 w (by decide) hE hm (Lib.hid e)).mono ?_
  rintro e w' ⟨A, c, h, hb, _⟩
  exact ⟨⟨A, c, h⟩, hb⟩
theorem kn_parse3 (w : World) (hE : Esc w) (hm : ML w) : Calls Tryd.prog 35 #[.string ⟨#[102, 101, 101, 100, 32, 34, 92, 110, 34, 10]⟩] w fun e w' => ∃ A c, e = .returned (.tuple #[.slice A 1 c, .int .i64 0, .int .i64 0]) ∧ Below w.heap.size w w' ∧ Reads w' w'.heap.size 2 A 1 (scs [(1, ⟨#[10]⟩)]) ∧ 1 ≤ c ∧ c ≤ 9223372036854775807 := by
  have e : parse tx3 = ([(1, ⟨#[10]⟩)], 0, 0) := by decide +kernel
  exact sparseB tx3 w (by decide) hE hm (Lib.hid e)
end Go.Proofs.YtoogemdcmnjpnaaDoor
