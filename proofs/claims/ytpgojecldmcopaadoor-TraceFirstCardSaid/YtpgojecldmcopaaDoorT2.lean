/- Traces: Check of the program and of its reference. -/
import Derived.Test.YtpgojecldmcopaaDoorT1
namespace Go.Proofs.YtpgojecldmcopaaDoor
open Go.RowKit
theorem ret_tuple2 {a b c d : Int} (h1 : a = c) (h2 : b = d) : Ending.returned (.tuple #[.int .i64 a, .int .i64 b]) = .returned (.tuple #[.int .i64 c, .int .i64 d]) := by rw [h1, h2]
theorem goodE_ok {cells K a : Int} (h : goodE cells (K, a) = 0) : (K = 1 ∨ K = 2) ∧ 0 ≤ a ∧ a < cells := by
  unfold goodE at h
  by_cases h1 : K = 1 ∨ K = 2
  · rw [if_pos h1] at h
    by_cases h2 : a < 0 ∨ cells ≤ a
    · rw [if_pos h2] at h; omega
    · exact ⟨h1, by omega, by omega⟩
  · rw [if_neg h1] at h; omega
theorem goodE_arg {cells K a : Int} (h : ¬ (K = 1 ∨ K = 2)) : goodE cells (K, a) = 2 := by unfold goodE; rw [if_neg h]
theorem goodE_range {cells K a : Int} (h : K = 1 ∨ K = 2) (h2 : a < 0 ∨ cells ≤ a) : goodE cells (K, a) = 7 := by unfold goodE; rw [if_pos h, if_pos h2]
abbrev evV (x : Ev) : Value := .agg #[.int .i32 x.1, .int .i32 x.2]
abbrev evO (x : Ev) : Obj := .cells #[.int .i32 x.1, .int .i32 x.2] 30 (0, 0)
set_option maxRecDepth 100000 in
set_option maxHeartbeats 2000000 in
theorem check_ (w : World) (A : Option Addr) (c : Nat) (l : List Ev) (h : Reads w w.heap.size 2 A l.length (evs l)) (ho : Ok32 l) (hl : l.length ≤ 9223372036854775807) (cells : Int) :
    Calls Tryd.prog 14 #[.slice A l.length c, .int .i64 cells] w fun e w' => e = .returned (.tuple #[.int .i64 (chkT l cells).1, .int .i64 (chkT l cells).2]) ∧ Below w.heap.size w w' := by
  generalize hx : chkT l cells = x
  unfold chkT at hx
  by_cases h0 : cells < 1 ∨ 65536 < cells
  · rw [if_pos h0] at hx
    have Hx := Lib.hid hx.symm
    clear hx h
    go_enter Tryd.func14, Tryd.ntmps14
    go_wp2
    all_goals first | (exfalso; omega) | skip
    all_goals
      go_ret2
      exact ⟨by rw [Hx.out]; rfl, Below.refl _ _⟩
  rw [if_neg h0] at hx
  obtain ⟨q1, q2⟩ : 1 ≤ cells ∧ cells ≤ 65536 := by omega
  clear h0
  by_cases h1 : 8388608 < l.length
  · rw [if_pos h1] at hx
    have Hx := Lib.hid hx.symm
    clear hx h
    go_enter Tryd.func14, Tryd.ntmps14
    go_wp2
    all_goals first | (exfalso; omega) | skip
    all_goals
      go_ret2
      exact ⟨by rw [Hx.out]; rfl, Below.refl _ _⟩
  rw [if_neg h1] at hx
  have Hx := Lib.hid hx.symm
  have h1' : l.length ≤ 8388608 := by omega
  clear hx h1
  go_enter Tryd.func14, Tryd.ntmps14
  go_wp2
  all_goals first | (exfalso; omega) | skip
  go_loopw [21] (fun i wr => ∃ k : Nat, k ≤ l.length ∧ i = .int .i64 k ∧ ChkRel cells l k ∧ Below w.heap.size w wr) (fun i _ => l.length - (intOf i).toNat)
  case atStart => exact ⟨0, Nat.zero_le _, rfl, ChkRel.start cells l, Below.refl _ _⟩
  case round =>
    obtain ⟨k, hk, rfl, hr, hbl⟩ := hrel
    by_cases hlt : k < l.length
    · have hR := h.go hbl
      obtain ⟨b, off, K, a, rfl, hb, d1, d2, hd⟩ := evAt hR hlt
      have hw := wrap_i32 (ho _ (mem_dropE hd)).2
      simp only at hw
      have hB := ba hbl (evO (K, a))
      by_cases hK : K = 1 ∨ K = 2
      · by_cases ha : a < 0 ∨ cells ≤ a
        · have HS := Lib.hid (hr.stop hd (goodE_range hK ha) (by decide))
          clear hr hd
          rcases hK with rfl | rfl
          all_goals
            go_wp2
            all_goals first | (exfalso; omega) | skip
            all_goals
              go_ret2
              exact ⟨by rw [Hx.out, HS.out]; rfl, hB⟩
        · have hr2 := hr.step hd (by unfold goodE; rw [if_pos hK, if_neg ha])
          clear hr hd
          rcases hK with rfl | rfl
          all_goals
            go_wp2
            all_goals first | (exfalso; omega) | skip
            go_roundw
            case rel => exact ⟨k + 1, by omega, by go_num, hr2, hB⟩
            case measure => simp [intOf]; omega
      · have HS := Lib.hid (hr.stop hd (goodE_arg hK) (by decide))
        have e1 : (K != 1) = true := by simp; omega
        have e2 : (K != 2) = true := by simp; omega
        clear hr hd hK
        go_wp2
        go_ret2
        exact ⟨by rw [Hx.out, HS.out]; rfl, hB⟩
    · have HS := Lib.hid (hr.done (by omega))
      go_wp2
      go_ret2
      exact ⟨by rw [Hx.out, HS.out]; rfl, hbl⟩
end Go.Proofs.YtpgojecldmcopaaDoor
