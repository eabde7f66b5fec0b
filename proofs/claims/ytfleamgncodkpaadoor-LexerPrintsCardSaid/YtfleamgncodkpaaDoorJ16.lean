/- Lexer: far. No condition. -/
import Derived.Test.YtfleamgncodkpaaDoorJ13
import Derived.Test.YtfleamgncodkpaaDoorJ15
import Derived.Deep.DeepCutAuto
namespace Go.Proofs.YtfleamgncodkpaaDoor
open Go.RowKit
theorem bytes_self (s : ByteArray) : (s == s) = true := by
  rcases s with ⟨d⟩
  show (d == d) = true
  simp
/-- what far answers -/
def FarR (l : List T9) (w : World) (e : Ending) (w' : World) : Prop := ∃ b, e = .returned (.bool b) ∧ (b = false → l.length ≤ 100) ∧ Below w.heap.size w w'
set_option maxRecDepth 100000 in
set_option maxHeartbeats 4000000 in
theorem far_ (l : List T9) (w : World) (A : Option Addr) (c : Nat) (hR : Reads w w.heap.size 9 A l.length (tks l)) (hcap : l.length ≤ 9223372036854775807) (hS : ∀ t ∈ l, t.2.2.2.2.1.size ≤ 140737488351232) :
    Calls Tryd.prog 8 #[.slice A l.length c] w (FarR l w) := by
  have HR := Lib.hid hR
  have HS := Lib.hid hS
  clear hR hS
  go_enter Tryd.func8, Tryd.ntmps8
  go_wp2
  go_loopw [3, 4] (fun s i wr => ∃ k n : Nat, k ≤ l.length ∧ k ≤ 200 ∧ i = .int .i64 (k : Int) ∧ s = .int .i64 (n : Int) ∧ n ≤ k * 140737488351232 ∧ wr = w) (fun _ i _ => 200 - (intOf i).toNat)
  case atStart => exact ⟨0, 0, Nat.zero_le _, by omega, rfl, rfl, by omega, rfl⟩
  case round =>
    obtain ⟨k, n, hk, hk2, rfl, rfl, hn, hw⟩ := hrel
    subst hw
    by_cases hlt : k < l.length ∧ k < 200
    case pos =>
      obtain ⟨hlt, h200⟩ := hlt
      have i1 : (k : Int) < (l.length : Int) := by omega
      have i2 : (k : Int) < 200 := by omega
      have i0 : (0 : Int) ≤ (k : Int) := by omega
      obtain ⟨bk, off, rfl, hbk, c0, c1, c2, c3, c4, c5, c6, c7, c8⟩ := HR.out.at9 hlt
      have hz := HS.out l[k] (List.getElem_mem hlt)
      generalize l[k].2.2.2.2.1 = S at *
      have hn1 : (n : Int) + (S.size : Int) ≤ 9223372036854775807 := by omega
      go_wp2
      go_roundw
      case rel => exact ⟨k + 1, n + S.size, by omega, by omega, by go_num, by go_num, by omega, trivial⟩
      case measure => (simp [intOf]) <;> omega
    by_cases h100 : 100 < l.length
    · have j1 : (100 : Int) < (l.length : Int) := by omega
      by_cases h1 : k < l.length
      · have i1 : (k : Int) < (l.length : Int) := by omega
        have i2 : ¬ ((k : Int) < 200) := by omega
        go_wp2
        go_ret
        exact ⟨true, rfl, fun h => absurd h (by decide), Below.refl _ _⟩
      · have i1 : ¬ ((k : Int) < (l.length : Int)) := by omega
        go_wp2
        go_ret
        exact ⟨true, rfl, fun h => absurd h (by decide), Below.refl _ _⟩
    have j1 : ¬ ((100 : Int) < (l.length : Int)) := by omega
    have i1 : ¬ ((k : Int) < (l.length : Int)) := by omega
    have h3 : l.length ≤ 100 := by omega
    by_cases h4 : 4000 < n
    · have j2 : (4000 : Int) < (n : Int) := by omega
      go_wp2
      go_ret
      exact ⟨true, rfl, fun _ => h3, Below.refl _ _⟩
    · have j2 : ¬ ((4000 : Int) < (n : Int)) := by omega
      go_wp2
      go_ret
      exact ⟨false, rfl, fun _ => h3, Below.refl _ _⟩
theorem errL_some {l : List T9} {i q : Nat} {e : Int} (h : errL l i = some (q, e)) : e ≠ 0 := by
  induction l generalizing i with
  | nil => cases h
  | cons x r ih =>
    unfold errL at h
    by_cases hx : ck9 x ≠ 0
    · rw [if_pos hx] at h
      simp only [Option.some.injEq, Prod.mk.injEq] at h
      rw [← h.2]; exact hx
    · rw [if_neg hx] at h
      exact ih h
theorem prnL_cases {l : List T9} {s : ByteArray} {q : Nat} {e : Int} (h : prnL l = (s, q, e)) : (e ≠ 0 ∧ s = ⟨#[]⟩) ∨ (e = 0 ∧ q = 0 ∧ s = joinT l ∧ errL l 0 = none ∧ l.length ≤ 80 ∧ (joinT l).size ≤ 1000) := by
  unfold prnL at h
  rcases he : errL l 0 with _ | ⟨i, x⟩
  · rw [he] at h
    simp only at h
    by_cases h1 : 80 < l.length
    · rw [if_pos h1] at h
      simp only [Prod.mk.injEq] at h
      exact .inl ⟨by rw [← h.2.2]; decide, h.1.symm⟩
    rw [if_neg h1] at h
    by_cases h2 : 1000 < (joinT l).size
    · rw [if_pos h2] at h
      simp only [Prod.mk.injEq] at h
      exact .inl ⟨by rw [← h.2.2]; decide, h.1.symm⟩
    rw [if_neg h2] at h
    simp only [Prod.mk.injEq] at h
    exact .inr ⟨h.2.2.symm, h.2.1.symm, h.1.symm, rfl, by omega, by omega⟩
  · rw [he] at h
    simp only [Prod.mk.injEq] at h
    exact .inl ⟨by rw [← h.2.2]; exact errL_some he, h.1.symm⟩
end Go.Proofs.YtfleamgncodkpaaDoor
