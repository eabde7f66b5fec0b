/- Contracts where the script is in order, in short. -/
import Derived.Test.YtoogemdcmnjpnaaDoorS16
namespace Go.Proofs.YtoogemdcmnjpnaaDoor
open Go.RowKit
theorem sizes_ok {l : List Sc} (h : (chk l).2 = 0) : Sizes l := by
  intro x hx
  have := scErr_iff.1 (chk_ok h x hx)
  omega
theorem isSc_of {w : World} {A : Option Addr} {l : List Sc} (hr : Reads w w.heap.size 2 A l.length (scs l)) (h0 : Hid ((chk l).2 = 0)) : IsSc w A l := ⟨hr, by have := chk_len h0.out; omega, sizes_ok h0.out⟩
theorem sstreams' (w : World) (A : Option Addr) (c : Nat) (l : List Sc) (h : IsSc w A l) (h0 : Hid ((chk l).2 = 0)) {st : List ByteArray} (hst : Hid (streams l = st)) :
    Calls Tryd.prog 16 #[.slice A l.length c] w (RetSl w 1 (st.map Value.string) st.length 0) := by
  have := sstreams w A c l h
  rw [h0.out, hst.out] at this
  exact this
theorem stotal' (w : World) (A : Option Addr) (c : Nat) (l : List Sc) (h : IsSc w A l) (h0 : Hid ((chk l).2 = 0)) {n : Nat} (hn : Hid (total l = n)) :
    Calls Tryd.prog 27 #[.slice A l.length c] w fun e w' => e = .returned (.tuple #[.int .i64 (n : Int), .int .i64 0]) ∧ Below w.heap.size w w' := by
  have := stotal w A c l h
  rw [h0.out, hn.out] at this
  exact this
theorem sshape' (w : World) (A : Option Addr) (c : Nat) (l : List Sc) (h : IsSc w A l) (h0 : Hid ((chk l).2 = 0)) {n : Nat} (hn : Hid (l.length = n)) :
    Calls Tryd.prog 22 #[.slice A l.length c] w (RetSl w 2 (shs (shp l)) n 0) := by
  have := sshape w A c l h
  rw [h0.out, shape_pos h0.out, shp_length] at this
  rw [hn.out] at this
  rw [← hn.out] at this ⊢
  exact this
theorem scut' (w : World) (A : Option Addr) (c : Nat) (l : List Sc) (h : IsSc w A l) (hc : l.length ≤ c ∧ c ≤ 9223372036854775807) (k a : Int) (hk1 : -9223372036854775808 ≤ k) (hk2 : k ≤ 9223372036854775807) (ha1 : -9223372036854775808 ≤ a) (ha2 : a ≤ 9223372036854775807)
    {m : List Sc} {n : Nat} {e : Int} (hm : Hid (cut l k a = m)) (hn : Hid (m.length = n)) (he : Hid (cutErr l k a = e)) :
    Calls Tryd.prog 29 #[.slice A l.length c, .int .i64 k, .int .i64 a] w (RetSl w 2 (scs m) n e) := by
  have := scut w A c l h hc k a hk1 hk2 ha1 ha2
  rw [hm.out, hn.out, he.out] at this
  exact this
theorem sjoin' (w : World) (A : Option Addr) (c : Nat) (l : List Sc) (h : IsSc w A l) (hc : l.length ≤ c ∧ c ≤ 9223372036854775807) (k : Int) (hk1 : -9223372036854775808 ≤ k) (hk2 : k ≤ 9223372036854775807)
    {m : List Sc} {n : Nat} {e : Int} (hm : Hid (join l k = m)) (hn : Hid (m.length = n)) (he : Hid (joinErr l k = e)) :
    Calls Tryd.prog 31 #[.slice A l.length c, .int .i64 k] w (RetSl w 2 (scs m) n e) := by
  have := sjoin w A c l h hc k hk1 hk2
  rw [hm.out, hn.out, he.out] at this
  exact this
end Go.Proofs.YtoogemdcmnjpnaaDoor
