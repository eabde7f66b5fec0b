/- Lexer: Check of the reference. Printed by genrchk.py. No condition. -/
import Derived.Test.YtfleamgncodkpaaDoorJ4
namespace Go.Proofs.YtfleamgncodkpaaDoor
open Go.RowKit
theorem bytes_ne {s : ByteArray} (h : s ≠ ⟨#[]⟩) : (s.toList == []) = false := by
  rw [ByteArray.toList_eq, beq_eq_false_iff_ne]
  intro e
  apply h
  apply ByteArray.ext
  apply Array.toList_inj.1
  rw [e]
set_option maxRecDepth 100000 in
set_option maxHeartbeats 8000000 in
theorem rchk_ (K F T N : Int) (S : ByteArray) (f : Nat → Bool) (c : Int) (hc : Hid (ckT K N S f = c)) (w : World) :
    Calls Tryd.prog 13 #[tkV K F T N S f] w fun e w' => e = .returned (.int .i64 c) ∧ Below w.heap.size w w' := by
  have hB0 : Below w.heap.size w (w.alloc (tkO K F T N S f)) := ba (Below.refl _ _) _
  obtain ⟨⟨c0, c1, c2, c3, c4, c5, c6, c7, c8⟩, _, _⟩ := bx9 (alloc1_new w (tkO K F T N S f))
  obtain ⟨W0, hW0⟩ : ∃ W0, W0 = w.alloc (tkO K F T N S f) := ⟨_, rfl⟩
  rw [← hW0] at hB0 c0 c1 c2 c3 c4 c5 c6 c7 c8
  have HW0 := Lib.hid hW0
  have HB0 := Lib.hid hB0
  clear hW0 hB0
  have HS := Lib.hid (show stQ (((wK f 0 : Nat) : Int), ((wK f 1 : Nat) : Int), ((wK f 2 : Nat) : Int), ((wK f 3 : Nat) : Int)) (0, 0, 0, 0) = sQ f (fun _ => false) by
    have h := stQ_sets f (fun _ => false)
    rw [i4_no] at h
    exact h)
  by_cases h1 : K < 1
  · have i1 : K < 1 := h1
    have HC := Lib.hid (show 2 = c by rw [← hc.out]; unfold ckT; rw [if_pos (.inl h1)])
    clear hc HS
    go_enter Tryd.func13, Tryd.ntmps13
    go_upto_region 1 with fail
    rw [← HW0.out]
    go_wp2
    go_ret
    exact ⟨ret_int (by rw [HC.out]), HB0.out⟩
  by_cases h6 : 6 < K
  · have i1 : ¬ (K < 1) := h1
    have i2 : 6 < K := h6
    have HC := Lib.hid (show 2 = c by rw [← hc.out]; unfold ckT; rw [if_pos (.inr (.inl h6))])
    clear hc HS
    go_enter Tryd.func13, Tryd.ntmps13
    go_upto_region 1 with fail
    rw [← HW0.out]
    go_wp2
    go_ret
    exact ⟨ret_int (by rw [HC.out]), HB0.out⟩
  rcases (show K = 1 ∨ K = 2 ∨ K = 3 ∨ K = 4 ∨ K = 5 ∨ K = 6 by omega) with rfl | rfl | rfl | rfl | rfl | rfl
  · clear h1 h6
    by_cases hn : N = 0
    case neg =>
      have m1 : (N != 0) = true := by rw [bne_iff_ne]; exact hn
      have HC := Lib.hid (show 2 = c by rw [← hc.out]; unfold ckT; rw [if_pos (.inr (.inr (.inl ⟨by decide, hn⟩)))])
      clear hc HS
      go_enter Tryd.func13, Tryd.ntmps13
      go_upto_region 1 with fail
      rw [← HW0.out]
      go_wp2
      go_ret
      exact ⟨ret_int (by rw [HC.out]), HB0.out⟩
    subst hn
    by_cases hs : S = ⟨#[]⟩
    case neg =>
      have m2 : (S.toList == []) = false := bytes_ne hs
      have HC := Lib.hid (show 2 = c by rw [← hc.out]; unfold ckT; rw [if_pos (.inr (.inr (.inr (.inl ⟨by decide, by decide, hs⟩))))])
      clear hc HS
      go_enter Tryd.func13, Tryd.ntmps13
      go_upto_region 1 with fail
      rw [← HW0.out]
      go_wp2
      go_ret
      exact ⟨ret_int (by rw [HC.out]), HB0.out⟩
    subst hs
    rcases hqs : sQ f (fun _ => false) with _ | _
    case false =>
      have m3 : stQ (((wK f 0 : Nat) : Int), ((wK f 1 : Nat) : Int), ((wK f 2 : Nat) : Int), ((wK f 3 : Nat) : Int)) (0, 0, 0, 0) = false := by rw [HS.out]; exact hqs
      have HC := Lib.hid (show 2 = c by rw [← hc.out]; unfold ckT; rw [if_pos (.inr (.inr (.inr (.inr ⟨by decide, hqs⟩))))])
      clear hc HS hqs
      go_enter Tryd.func13, Tryd.ntmps13
      go_upto_region 1 with fail
      rw [← HW0.out]
      go_wp2
      go_ret
      exact ⟨ret_int (by rw [HC.out]), HB0.out⟩
    have m3 : stQ (((wK f 0 : Nat) : Int), ((wK f 1 : Nat) : Int), ((wK f 2 : Nat) : Int), ((wK f 3 : Nat) : Int)) (0, 0, 0, 0) = true := by rw [HS.out]; exact hqs
    have HC := Lib.hid (show 0 = c by rw [← hc.out]; unfold ckT; rw [if_neg (by rintro (h | h | ⟨h, h2⟩ | ⟨h, h3, h2⟩ | ⟨h, h2⟩) <;> first | exact absurd rfl h | exact absurd rfl h3 | exact absurd rfl h2 | (rw [hqs] at h2; cases h2) | omega), if_neg (by rintro (h | h) <;> exact absurd h (by decide)), if_neg (by decide)])
    clear hc HS hqs
    go_enter Tryd.func13, Tryd.ntmps13
    go_upto_region 1 with fail
    rw [← HW0.out]
    go_wp2
    go_ret
    exact ⟨ret_int (by rw [HC.out]), HB0.out⟩
  · clear h1 h6
    by_cases hn : N = 0
    case neg =>
      have m1 : (N != 0) = true := by rw [bne_iff_ne]; exact hn
      have HC := Lib.hid (show 2 = c by rw [← hc.out]; unfold ckT; rw [if_pos (.inr (.inr (.inl ⟨by decide, hn⟩)))])
      clear hc HS
      go_enter Tryd.func13, Tryd.ntmps13
      go_upto_region 1 with fail
      rw [← HW0.out]
      go_wp2
      go_ret
      exact ⟨ret_int (by rw [HC.out]), HB0.out⟩
    subst hn
    by_cases hs : S = ⟨#[]⟩
    case neg =>
      have m2 : (S.toList == []) = false := bytes_ne hs
      have HC := Lib.hid (show 2 = c by rw [← hc.out]; unfold ckT; rw [if_pos (.inr (.inr (.inr (.inl ⟨by decide, by decide, hs⟩))))])
      clear hc HS
      go_enter Tryd.func13, Tryd.ntmps13
      go_upto_region 1 with fail
      rw [← HW0.out]
      go_wp2
      go_ret
      exact ⟨ret_int (by rw [HC.out]), HB0.out⟩
    subst hs
    rcases hqs : sQ f (fun _ => false) with _ | _
    case false =>
      have m3 : stQ (((wK f 0 : Nat) : Int), ((wK f 1 : Nat) : Int), ((wK f 2 : Nat) : Int), ((wK f 3 : Nat) : Int)) (0, 0, 0, 0) = false := by rw [HS.out]; exact hqs
      have HC := Lib.hid (show 2 = c by rw [← hc.out]; unfold ckT; rw [if_pos (.inr (.inr (.inr (.inr ⟨by decide, hqs⟩))))])
      clear hc HS hqs
      go_enter Tryd.func13, Tryd.ntmps13
      go_upto_region 1 with fail
      rw [← HW0.out]
      go_wp2
      go_ret
      exact ⟨ret_int (by rw [HC.out]), HB0.out⟩
    have m3 : stQ (((wK f 0 : Nat) : Int), ((wK f 1 : Nat) : Int), ((wK f 2 : Nat) : Int), ((wK f 3 : Nat) : Int)) (0, 0, 0, 0) = true := by rw [HS.out]; exact hqs
    have HC := Lib.hid (show 0 = c by rw [← hc.out]; unfold ckT; rw [if_neg (by rintro (h | h | ⟨h, h2⟩ | ⟨h, h3, h2⟩ | ⟨h, h2⟩) <;> first | exact absurd rfl h | exact absurd rfl h3 | exact absurd rfl h2 | (rw [hqs] at h2; cases h2) | omega), if_neg (by rintro (h | h) <;> exact absurd h (by decide)), if_neg (by decide)])
    clear hc HS hqs
    go_enter Tryd.func13, Tryd.ntmps13
    go_upto_region 1 with fail
    rw [← HW0.out]
    go_wp2
    go_ret
    exact ⟨ret_int (by rw [HC.out]), HB0.out⟩
  · clear h1 h6
    by_cases hs : S = ⟨#[]⟩
    case neg =>
      have m2 : (S.toList == []) = false := bytes_ne hs
      have HC := Lib.hid (show 2 = c by rw [← hc.out]; unfold ckT; rw [if_pos (.inr (.inr (.inr (.inl ⟨by decide, by decide, hs⟩))))])
      clear hc HS
      go_enter Tryd.func13, Tryd.ntmps13
      go_upto_region 1 with fail
      rw [← HW0.out]
      go_wp2
      go_ret
      exact ⟨ret_int (by rw [HC.out]), HB0.out⟩
    subst hs
    rcases hqs : sQ f (fun _ => false) with _ | _
    case false =>
      have m3 : stQ (((wK f 0 : Nat) : Int), ((wK f 1 : Nat) : Int), ((wK f 2 : Nat) : Int), ((wK f 3 : Nat) : Int)) (0, 0, 0, 0) = false := by rw [HS.out]; exact hqs
      have HC := Lib.hid (show 2 = c by rw [← hc.out]; unfold ckT; rw [if_pos (.inr (.inr (.inr (.inr ⟨by decide, hqs⟩))))])
      clear hc HS hqs
      go_enter Tryd.func13, Tryd.ntmps13
      go_upto_region 1 with fail
      rw [← HW0.out]
      go_wp2
      go_ret
      exact ⟨ret_int (by rw [HC.out]), HB0.out⟩
    have m3 : stQ (((wK f 0 : Nat) : Int), ((wK f 1 : Nat) : Int), ((wK f 2 : Nat) : Int), ((wK f 3 : Nat) : Int)) (0, 0, 0, 0) = true := by rw [HS.out]; exact hqs
    by_cases hn : N < 0
    · have i1 : N < 0 := hn
      have HC := Lib.hid (show 7 = c by rw [← hc.out]; unfold ckT; rw [if_neg (by rintro (h | h | ⟨h, h2⟩ | ⟨h, h3, h2⟩ | ⟨h, h2⟩) <;> first | exact absurd rfl h | exact absurd rfl h3 | exact absurd rfl h2 | (rw [hqs] at h2; cases h2) | omega), if_pos (.inl hn)])
      clear hc HS hqs
      go_enter Tryd.func13, Tryd.ntmps13
      go_upto_region 1 with fail
      rw [← HW0.out]
      go_wp2
      go_ret
      exact ⟨ret_int (by rw [HC.out]), HB0.out⟩
    by_cases hn2 : 999999999 < N
    · have i1 : ¬ (N < 0) := hn
      have i2 : 999999999 < N := hn2
      have HC := Lib.hid (show 7 = c by rw [← hc.out]; unfold ckT; rw [if_neg (by rintro (h | h | ⟨h, h2⟩ | ⟨h, h3, h2⟩ | ⟨h, h2⟩) <;> first | exact absurd rfl h | exact absurd rfl h3 | exact absurd rfl h2 | (rw [hqs] at h2; cases h2) | omega), if_pos (.inr hn2)])
      clear hc HS hqs
      go_enter Tryd.func13, Tryd.ntmps13
      go_upto_region 1 with fail
      rw [← HW0.out]
      go_wp2
      go_ret
      exact ⟨ret_int (by rw [HC.out]), HB0.out⟩
    have i1 : ¬ (N < 0) := hn
    have i2 : ¬ (999999999 < N) := hn2
    have HC := Lib.hid (show 0 = c by rw [← hc.out]; unfold ckT; rw [if_neg (by rintro (h | h | ⟨h, h2⟩ | ⟨h, h3, h2⟩ | ⟨h, h2⟩) <;> first | exact absurd rfl h | exact absurd rfl h3 | exact absurd rfl h2 | (rw [hqs] at h2; cases h2) | omega), if_neg (by rintro (h | h) <;> omega), if_neg (by decide)])
    clear hc HS hqs
    go_enter Tryd.func13, Tryd.ntmps13
    go_upto_region 1 with fail
    rw [← HW0.out]
    go_wp2
    go_ret
    exact ⟨ret_int (by rw [HC.out]), HB0.out⟩
  · clear h1 h6
    by_cases hn : N = 0
    case neg =>
      have m1 : (N != 0) = true := by rw [bne_iff_ne]; exact hn
      have HC := Lib.hid (show 2 = c by rw [← hc.out]; unfold ckT; rw [if_pos (.inr (.inr (.inl ⟨by decide, hn⟩)))])
      clear hc HS
      go_enter Tryd.func13, Tryd.ntmps13
      go_upto_region 1 with fail
      rw [← HW0.out]
      go_wp2
      go_ret
      exact ⟨ret_int (by rw [HC.out]), HB0.out⟩
    subst hn
    rcases hqs : sQ f (fun _ => false) with _ | _
    case false =>
      have m3 : stQ (((wK f 0 : Nat) : Int), ((wK f 1 : Nat) : Int), ((wK f 2 : Nat) : Int), ((wK f 3 : Nat) : Int)) (0, 0, 0, 0) = false := by rw [HS.out]; exact hqs
      have HC := Lib.hid (show 2 = c by rw [← hc.out]; unfold ckT; rw [if_pos (.inr (.inr (.inr (.inr ⟨by decide, hqs⟩))))])
      clear hc HS hqs
      go_enter Tryd.func13, Tryd.ntmps13
      go_upto_region 1 with fail
      rw [← HW0.out]
      go_wp2
      go_ret
      exact ⟨ret_int (by rw [HC.out]), HB0.out⟩
    have m3 : stQ (((wK f 0 : Nat) : Int), ((wK f 1 : Nat) : Int), ((wK f 2 : Nat) : Int), ((wK f 3 : Nat) : Int)) (0, 0, 0, 0) = true := by rw [HS.out]; exact hqs
    by_cases hz : 2000 < S.size
    · have i1 : (2000 : Int) < (S.size : Int) := by omega
      have HC := Lib.hid (show 3 = c by rw [← hc.out]; unfold ckT; rw [if_neg (by rintro (h | h | ⟨h, h2⟩ | ⟨h, h3, h2⟩ | ⟨h, h2⟩) <;> first | exact absurd rfl h | exact absurd rfl h3 | exact absurd rfl h2 | (rw [hqs] at h2; cases h2) | omega), if_neg (by rintro (h | h) <;> exact absurd h (by decide)), if_pos hz])
      clear hc HS hqs
      go_enter Tryd.func13, Tryd.ntmps13
      go_upto_region 1 with fail
      rw [← HW0.out]
      go_wp2
      go_ret
      exact ⟨ret_int (by rw [HC.out]), HB0.out⟩
    have i1 : ¬ ((2000 : Int) < (S.size : Int)) := by omega
    have HC := Lib.hid (show 0 = c by rw [← hc.out]; unfold ckT; rw [if_neg (by rintro (h | h | ⟨h, h2⟩ | ⟨h, h3, h2⟩ | ⟨h, h2⟩) <;> first | exact absurd rfl h | exact absurd rfl h3 | exact absurd rfl h2 | (rw [hqs] at h2; cases h2) | omega), if_neg (by rintro (h | h) <;> exact absurd h (by decide)), if_neg hz])
    clear hc HS hqs
    go_enter Tryd.func13, Tryd.ntmps13
    go_upto_region 1 with fail
    rw [← HW0.out]
    go_wp2
    go_ret
    exact ⟨ret_int (by rw [HC.out]), HB0.out⟩
  · clear h1 h6
    by_cases hn : N = 0
    case neg =>
      have m1 : (N != 0) = true := by rw [bne_iff_ne]; exact hn
      have HC := Lib.hid (show 2 = c by rw [← hc.out]; unfold ckT; rw [if_pos (.inr (.inr (.inl ⟨by decide, hn⟩)))])
      clear hc HS
      go_enter Tryd.func13, Tryd.ntmps13
      go_upto_region 1 with fail
      rw [← HW0.out]
      go_wp2
      go_ret
      exact ⟨ret_int (by rw [HC.out]), HB0.out⟩
    subst hn
    rcases hqs : sQ f (fun _ => false) with _ | _
    case false =>
      have m3 : stQ (((wK f 0 : Nat) : Int), ((wK f 1 : Nat) : Int), ((wK f 2 : Nat) : Int), ((wK f 3 : Nat) : Int)) (0, 0, 0, 0) = false := by rw [HS.out]; exact hqs
      have HC := Lib.hid (show 2 = c by rw [← hc.out]; unfold ckT; rw [if_pos (.inr (.inr (.inr (.inr ⟨by decide, hqs⟩))))])
      clear hc HS hqs
      go_enter Tryd.func13, Tryd.ntmps13
      go_upto_region 1 with fail
      rw [← HW0.out]
      go_wp2
      go_ret
      exact ⟨ret_int (by rw [HC.out]), HB0.out⟩
    have m3 : stQ (((wK f 0 : Nat) : Int), ((wK f 1 : Nat) : Int), ((wK f 2 : Nat) : Int), ((wK f 3 : Nat) : Int)) (0, 0, 0, 0) = true := by rw [HS.out]; exact hqs
    by_cases hz : 2000 < S.size
    · have i1 : (2000 : Int) < (S.size : Int) := by omega
      have HC := Lib.hid (show 3 = c by rw [← hc.out]; unfold ckT; rw [if_neg (by rintro (h | h | ⟨h, h2⟩ | ⟨h, h3, h2⟩ | ⟨h, h2⟩) <;> first | exact absurd rfl h | exact absurd rfl h3 | exact absurd rfl h2 | (rw [hqs] at h2; cases h2) | omega), if_neg (by rintro (h | h) <;> exact absurd h (by decide)), if_pos hz])
      clear hc HS hqs
      go_enter Tryd.func13, Tryd.ntmps13
      go_upto_region 1 with fail
      rw [← HW0.out]
      go_wp2
      go_ret
      exact ⟨ret_int (by rw [HC.out]), HB0.out⟩
    have i1 : ¬ ((2000 : Int) < (S.size : Int)) := by omega
    have HC := Lib.hid (show 0 = c by rw [← hc.out]; unfold ckT; rw [if_neg (by rintro (h | h | ⟨h, h2⟩ | ⟨h, h3, h2⟩ | ⟨h, h2⟩) <;> first | exact absurd rfl h | exact absurd rfl h3 | exact absurd rfl h2 | (rw [hqs] at h2; cases h2) | omega), if_neg (by rintro (h | h) <;> exact absurd h (by decide)), if_neg hz])
    clear hc HS hqs
    go_enter Tryd.func13, Tryd.ntmps13
    go_upto_region 1 with fail
    rw [← HW0.out]
    go_wp2
    go_ret
    exact ⟨ret_int (by rw [HC.out]), HB0.out⟩
  · clear h1 h6
    by_cases hn : N = 0
    case neg =>
      have m1 : (N != 0) = true := by rw [bne_iff_ne]; exact hn
      have HC := Lib.hid (show 2 = c by rw [← hc.out]; unfold ckT; rw [if_pos (.inr (.inr (.inl ⟨by decide, hn⟩)))])
      clear hc HS
      go_enter Tryd.func13, Tryd.ntmps13
      go_upto_region 1 with fail
      rw [← HW0.out]
      go_wp2
      go_ret
      exact ⟨ret_int (by rw [HC.out]), HB0.out⟩
    subst hn
    by_cases hs : S = ⟨#[]⟩
    case neg =>
      have m2 : (S.toList == []) = false := bytes_ne hs
      have HC := Lib.hid (show 2 = c by rw [← hc.out]; unfold ckT; rw [if_pos (.inr (.inr (.inr (.inl ⟨by decide, by decide, hs⟩))))])
      clear hc HS
      go_enter Tryd.func13, Tryd.ntmps13
      go_upto_region 1 with fail
      rw [← HW0.out]
      go_wp2
      go_ret
      exact ⟨ret_int (by rw [HC.out]), HB0.out⟩
    subst hs
    have HC := Lib.hid (show 0 = c by rw [← hc.out]; unfold ckT; rw [if_neg (by rintro (h | h | ⟨h, h2⟩ | ⟨h, h3, h2⟩ | ⟨h, h2⟩) <;> first | exact absurd rfl h | exact absurd rfl h3 | exact absurd rfl h2 | (rw [hqs] at h2; cases h2) | omega), if_neg (by rintro (h | h) <;> exact absurd h (by decide)), if_neg (by decide)])
    clear hc HS
    go_enter Tryd.func13, Tryd.ntmps13
    go_upto_region 1 with fail
    rw [← HW0.out]
    go_wp2
    go_ret
    exact ⟨ret_int (by rw [HC.out]), HB0.out⟩
end Go.Proofs.YtfleamgncodkpaaDoor
