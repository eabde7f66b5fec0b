/- words: Join of the reference; far. No condition. -/
import Derived.Test.YtngbgchnbcfliaaGreatDoorN17
import Derived.Test.YtngbgchnbcfliaaGreatDoorW2
namespace Go.Proofs.YtngbgchnbcfliaaGreatDoor
open Go.RowKit
def bigP (l : List Fd) : Bool := l.any fun f => decide (2100 < f.1.length)
def sumP (l : List Fd) : Nat := (l.map fun f => f.1.length).sum
def farP (l : List Fd) : Bool := decide (70 < l.length) || bigP l || decide (12000 < sumP l)
theorem sumP_snoc (l : List Fd) (f : Fd) : sumP (l ++ [f]) = sumP l + f.1.length := by simp [sumP]
theorem sumP_le (l : List Fd) (h : bigP l = false) : sumP l ≤ 2100 * l.length := by
  induction l with
  | nil => simp [sumP]
  | cons x r ih =>
    simp only [bigP, List.any_cons, Bool.or_eq_false_iff, decide_eq_false_iff_not] at h
    have := ih h.2
    simp only [sumP, List.map_cons, List.sum_cons, List.length_cons] at this ⊢
    omega
set_option maxRecDepth 100000 in
set_option maxHeartbeats 1000000 in
theorem far_ (w : World) (A : Option Addr) (c : Nat) (l : List Fd) (h : Reads w w.heap.size 2 A l.length (fds l)) :
    Calls Tryz.prog 16 #[.slice A l.length c] w fun e w' => e = .returned (.bool (farP l)) ∧ w' = w := by
  by_cases h5 : 70 < l.length
  · have hR := Lib.hid (show farP l = true by unfold farP; simp [h5])
    have i5 : (70 : Int) < (l.length : Int) := by omega
    clear h h5
    go_enter Tryz.func16, Tryz.ntmps16
    go_wp2
    go_ret
    exact ⟨ret_bool hR.out.symm, rfl⟩
  have i5 : ¬ ((70 : Int) < (l.length : Int)) := by omega
  have HR := Lib.hid h
  clear h
  go_enter Tryz.func16, Tryz.ntmps16
  go_wp2
  go_loopw [3, 4] (fun n i wr => ∃ k : Nat, k ≤ l.length ∧ i = .int .i64 k ∧ n = .int .i64 (sumP (l.take k) : Int) ∧ Hid (bigP (l.take k) = false) ∧ wr = w) (fun _ i _ => l.length - (intOf i).toNat)
  case atStart => exact ⟨0, Nat.zero_le _, rfl, rfl, Lib.hid rfl, rfl⟩
  case round =>
    obtain ⟨k, hk, rfl, rfl, hbg, rfl⟩ := hrel
    by_cases hlt : k < l.length
    · have i1 : (k : Int) < (l.length : Int) := by omega
      obtain ⟨b, off, F, q, rfl, hb, d1, d2, hd⟩ := fdAt HR.out hlt
      have htk := Lib.hid (take_snocF hd.out)
      have hfl : F.data.toList.length = F.size := by simp
      have hsl := sumP_le _ hbg.out
      rw [List.length_take] at hsl
      have hsm := Lib.hid (show sumP (l.take (k + 1)) = sumP (l.take k) + F.size by rw [htk.out, sumP_snoc, hfl])
      by_cases h2 : 2100 < F.size
      · have hR := Lib.hid (show farP l = true by
          have : bigP l = true := any_take (k := k + 1) (show (l.take (k + 1)).any _ = true by rw [htk.out, List.any_append]; simp [h2])
          unfold farP; rw [this]; simp)
        have i2 : (2100 : Int) < (F.size : Int) := by omega
        clear hfl h2 hsl
        go_wp2
        go_ret
        exact ⟨ret_bool hR.out.symm, rfl⟩
      · have i2 : ¬ ((2100 : Int) < (F.size : Int)) := by omega
        have hb2 := Lib.hid (show bigP (l.take (k + 1)) = false by
          have h3 := hbg.out
          unfold bigP at h3 ⊢
          rw [htk.out, List.any_append, h3]; simp; omega)
        have hs9 : sumP (l.take k) ≤ 2100 * 70 := by omega
        obtain ⟨M, hM⟩ : ∃ M, M = sumP (l.take k) := ⟨_, rfl⟩
        rw [← hM] at hs9 hsm ⊢
        clear hfl h2 hsl hM
        go_wp2
        go_roundw
        case rel => exact ⟨k + 1, by omega, by go_num, by rw [hsm.out]; push_cast; rfl, hb2, trivial⟩
        case measure => simp [intOf]; omega
    · have i1 : ¬ ((k : Int) < (l.length : Int)) := by omega
      obtain rfl : k = l.length := by omega
      rw [List.take_length] at hbg ⊢
      obtain ⟨M, hM⟩ : ∃ M, M = sumP l := ⟨_, rfl⟩
      rw [← hM]
      by_cases h3 : 12000 < M
      · have hR := Lib.hid (show farP l = true by unfold farP; rw [← hM]; simp [h3])
        have i3 : (12000 : Int) < (M : Int) := by omega
        go_wp2
        go_ret
        exact ⟨ret_bool (by rw [hR.out]; first | rfl | (simp; omega)), rfl⟩
      · have hR := Lib.hid (show farP l = false by unfold farP; rw [← hM, hbg.out]; simp; omega)
        have i3 : ¬ ((12000 : Int) < (M : Int)) := by omega
        go_wp2
        go_ret
        exact ⟨ret_bool (by rw [hR.out]; first | rfl | (simp; omega)), rfl⟩
end Go.Proofs.YtngbgchnbcfliaaGreatDoor
