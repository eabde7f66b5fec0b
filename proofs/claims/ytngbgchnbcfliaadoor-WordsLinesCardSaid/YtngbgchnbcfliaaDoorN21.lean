/- words: lines, as the law looks at Lines. No condition. -/
import Derived.Test.YtngbgchnbcfliaaDoorN20
import Derived.BigQuiet
namespace Go.Proofs.YtngbgchnbcfliaaDoor
open Go.RowKit
theorem linesL_len (s : ByteArray) : (linesL s).1.length ≤ 5000 := by
  unfold linesL
  split
  · simp
  split
  · simp
  split
  · simp
  split
  · simp
  · rename_i h; exact Nat.not_lt.1 h
theorem ssAt {w : World} {B n k : Nat} {A : Option Addr} {L : List ByteArray} (h : Reads w B 1 A n (Ss L)) (hk : k < L.length) :
    ∃ b off x, A = some ⟨b, off, none⟩ ∧ b < B ∧ w.cell? ⟨b, off + k, none⟩ = some (.string x) ∧ Hid (L[k]? = some x) := by
  have h1 := h.1
  simp at h1
  obtain ⟨b, off, e, hb, hc⟩ := h.2 (by omega)
  refine ⟨b, off, L[k], e, hb, hc k _ ?_, Lib.hid (List.getElem?_eq_getElem hk)⟩
  simp [hk]
set_option maxRecDepth 100000 in
set_option maxHeartbeats 1000000 in
theorem linesE (s : ByteArray) (w : World) (hM : ML w) (hsz : s.size ≤ 1000000000) :
    Calls Tryd.prog 26 #[.string s] w fun e w' => e = .returned (.bool true) ∧ Below w.heap.size w w' := by
  have hlen := linesL_len s
  have c1 := lines_ s
  have c2 := rlines_ s
  generalize linesL s = r at *
  obtain ⟨L, er⟩ := r
  simp only at hlen
  have H1 := Lib.hid c1
  have H2 := Lib.hid c2
  clear c1 c2
  go_enter Tryd.func26, Tryd.ntmps26
  go_wp2_with fail
  (with_reducible refine (H1.out _ hM hsz).mono ?_); rintro e w1 ⟨A1, c1, rfl, hb1, hr1, _, _⟩
  go_wp2_with fail
  (with_reducible refine (H2.out _ hsz).mono ?_); rintro e w2 ⟨A2, c2, rfl, hb2, hr2, _, _⟩
  have hB2 := Lib.hid (bt hb1 hb2)
  have hR1 := Lib.hid (hr1.go hb2)
  have hR2 := Lib.hid hr2
  clear hr1 hr2 hb1 hb2
  go_wp2
  go_loopw [7] (fun i wr => ∃ k : Nat, k ≤ L.length ∧ i = .int .i64 k ∧ Below w2.heap.size w2 wr) (fun i _ => L.length - (intOf i).toNat)
  case atStart => exact ⟨0, Nat.zero_le _, rfl, Below.refl _ _⟩
  case round =>
    obtain ⟨k, hk, rfl, hbw⟩ := hrel
    by_cases hlt : k < L.length
    · have i1 : (k : Int) < (L.length : Int) := by omega
      have i0 : (0 : Int) ≤ (k : Int) := by omega
      obtain ⟨b, off, x, rfl, hb, d1, hx⟩ := ssAt (hR1.out.below hbw) hlt
      obtain ⟨b', off', y, rfl, hb', d2, hy⟩ := ssAt (hR2.out.below hbw) hlt
      obtain rfl : x = y := Option.some.inj (hx.out.symm.trans hy.out)
      clear hx hy
      go_wp2
      go_quiet (fail)
      go_wp2
      go_roundw
      case rel => exact ⟨k + 1, by omega, by go_num, bt hbw (drewN_below _ _)⟩
      case measure => simp [intOf]; omega
    · have i1 : ¬ ((k : Int) < (L.length : Int)) := by omega
      go_wp2
      go_ret
      exact ⟨rfl, bt hB2.out hbw⟩
end Go.Proofs.YtngbgchnbcfliaaDoor
