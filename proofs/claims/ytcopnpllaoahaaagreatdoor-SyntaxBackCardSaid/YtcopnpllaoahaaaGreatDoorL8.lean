/- Lexer: Check of the reference. Printed by genrchk.py. No condition. Lexer: Print of the reference. No condition. -/
import Derived.Test.YtcopnpllaoahaaaGreatDoorJ4
import Derived.Test.YtcopnpllaoahaaaGreatDoorN16
namespace Go.Proofs.YtcopnpllaoahaaaGreatDoor
open Go.RowKit
theorem bytes_ne {s : ByteArray} (h : s ≠ ⟨#[]⟩) : (s.toList == []) = false := by
  rw [ByteArray.toList_eq, beq_eq_false_iff_ne]
  intro e
  apply h
  apply ByteArray.ext
  apply Array.toList_inj.1
  rw [e]
set_option maxRecDepth 100000 in
set_option maxHeartbeats 8000000 in
theorem rchk_ (K F T N : Int) (S : ByteArray) (f : Nat → Bool) (c : Int) (hc : Hid (ckT K N S f = c)) (w : World) :
    Calls Tryz.prog 53 #[tkV K F T N S f] w fun e w' => e = .returned (.int .i64 c) ∧ Below w.heap.size w w' := by
  have hB0 : Below w.heap.size w (w.alloc (tkO K F T N S f)) := ba (Below.refl _ _) _
  obtain ⟨⟨c0, c1, c2, c3, c4, c5, c6, c7, c8⟩, _, _⟩ := bx9 (alloc1_new w (tkO K F T N S f))
  obtain ⟨W0, hW0⟩ : ∃ W0, W0 = w.alloc (tkO K F T N S f) := ⟨_, rfl⟩
  rw [← hW0] at hB0 c0 c1 c2 c3 c4 c5 c6 c7 c8
  have HW0 := Lib.hid hW0
  have HB0 := Lib.hid hB0
  clear hW0 hB0
  have HS := Lib.hid (show stQ (((wK f 0 : Nat) : Int), ((wK f 1 : Nat) : Int), ((wK f 2 : Nat) : Int), ((wK f 3 : Nat) : Int)) (0, 0, 0, 0) = sQ f (fun _ => false) by
    have h := stQ_sets f (fun _ => false)
    rw [i4_no] at h
    exact h)
  by_cases h1 : K < 1
  · have i1 : K < 1 := h1
    have HC := Lib.hid (show 2 = c by rw [← hc.out]; unfold ckT; rw [if_pos (.inl h1)])
    clear hc HS
    go_enter Tryz.func53, Tryz.ntmps53
    go_upto_region 1 with fail
    rw [← HW0.out]
    go_wp2
    go_ret
    exact ⟨ret_int (by rw [HC.out]), HB0.out⟩
  by_cases h6 : 6 < K
  · have i1 : ¬ (K < 1) := h1
    have i2 : 6 < K := h6
    have HC := Lib.hid (show 2 = c by rw [← hc.out]; unfold ckT; rw [if_pos (.inr (.inl h6))])
    clear hc HS
    go_enter Tryz.func53, Tryz.ntmps53
    go_upto_region 1 with fail
    rw [← HW0.out]
    go_wp2
    go_ret
    exact ⟨ret_int (by rw [HC.out]), HB0.out⟩
  rcases (show K = 1 ∨ K = 2 ∨ K = 3 ∨ K = 4 ∨ K = 5 ∨ K = 6 by omega) with rfl | rfl | rfl | rfl | rfl | rfl
  · clear h1 h6
    by_cases hn : N = 0
    case neg =>
      have m1 : (N != 0) = true := by rw [bne_iff_ne]; exact hn
      have HC := Lib.hid (show 2 = c by rw [← hc.out]; unfold ckT; rw [if_pos (.inr (.inr (.inl ⟨by decide, hn⟩)))])
      clear hc HS
      go_enter Tryz.func53, Tryz.ntmps53
      go_upto_region 1 with fail
      rw [← HW0.out]
      go_wp2
      go_ret
      exact ⟨ret_int (by rw [HC.out]), HB0.out⟩
    subst hn
    by_cases hs : S = ⟨#[]⟩
    case neg =>
      have m2 : (S.toList == []) = false := bytes_ne hs
      have HC := Lib.hid (show 2 = c by rw [← hc.out]; unfold ckT; rw [if_pos (.inr (.inr (.inr (.inl ⟨by decide, by decide, hs⟩))))])
      clear hc HS
      go_enter Tryz.func53, Tryz.ntmps53
      go_upto_region 1 with fail
      rw [← HW0.out]
      go_wp2
      go_ret
      exact ⟨ret_int (by rw [HC.out]), HB0.out⟩
    subst hs
    rcases hqs : sQ f (fun _ => false) with _ | _
    case false =>
      have m3 : stQ (((wK f 0 : Nat) : Int), ((wK f 1 : Nat) : Int), ((wK f 2 : Nat) : Int), ((wK f 3 : Nat) : Int)) (0, 0, 0, 0) = false := by rw [HS.out]; exact hqs
      have HC := Lib.hid (show 2 = c by rw [← hc.out]; unfold ckT; rw [if_pos (.inr (.inr (.inr (.inr ⟨by decide, hqs⟩))))])
      clear hc HS hqs
      go_enter Tryz.func53, Tryz.ntmps53
      go_upto_region 1 with fail
      rw [← HW0.out]
      go_wp2
      go_ret
      exact ⟨ret_int (by rw [HC.out]), HB0.out⟩
    have m3 : stQ (((wK f 0 : Nat) : Int), ((wK f 1 : Nat) : Int), ((wK f 2 : Nat) : Int), ((wK f 3 : Nat) : Int)) (0, 0, 0, 0) = true := by rw [HS.out]; exact hqs
    have HC := Lib.hid (show 0 = c by rw [← hc.out]; unfold ckT; rw [if_neg (by rintro (h | h | ⟨h, h2⟩ | ⟨h, h3, h2⟩ | ⟨h, h2⟩) <;> first | exact absurd rfl h | exact absurd rfl h3 | exact absurd rfl h2 | (rw [hqs] at h2; cases h2) | omega), if_neg (by rintro (h | h) <;> exact absurd h (by decide)), if_neg (by decide)])
    clear hc HS hqs
    go_enter Tryz.func53, Tryz.ntmps53
    go_upto_region 1 with fail
    rw [← HW0.out]
    go_wp2
    go_ret
    exact ⟨ret_int (by rw [HC.out]), HB0.out⟩
  · clear h1 h6
    by_cases hn : N = 0
    case neg =>
      have m1 : (N != 0) = true := by rw [bne_iff_ne]; exact hn
      have HC := Lib.hid (show 2 = c by rw [← hc.out]; unfold ckT; rw [if_pos (.inr (.inr (.inl ⟨by decide, hn⟩)))])
      clear hc HS
      go_enter Tryz.func53, Tryz.ntmps53
      go_upto_region 1 with fail
      rw [← HW0.out]
      go_wp2
      go_ret
      exact ⟨ret_int (by rw [HC.out]), HB0.out⟩
    subst hn
    by_cases hs : S = ⟨#[]⟩
    case neg =>
      have m2 : (S.toList == []) = false := bytes_ne hs
      have HC := Lib.hid (show 2 = c by rw [← hc.out]; unfold ckT; rw [if_pos (.inr (.inr (.inr (.inl ⟨by decide, by decide, hs⟩))))])
      clear hc HS
      go_enter Tryz.func53, Tryz.ntmps53
      go_upto_region 1 with fail
      rw [← HW0.out]
      go_wp2
      go_ret
      exact ⟨ret_int (by rw [HC.out]), HB0.out⟩
    subst hs
    rcases hqs : sQ f (fun _ => false) with _ | _
    case false =>
      have m3 : stQ (((wK f 0 : Nat) : Int), ((wK f 1 : Nat) : Int), ((wK f 2 : Nat) : Int), ((wK f 3 : Nat) : Int)) (0, 0, 0, 0) = false := by rw [HS.out]; exact hqs
      have HC := Lib.hid (show 2 = c by rw [← hc.out]; unfold ckT; rw [if_pos (.inr (.inr (.inr (.inr ⟨by decide, hqs⟩))))])
      clear hc HS hqs
      go_enter Tryz.func53, Tryz.ntmps53
      go_upto_region 1 with fail
      rw [← HW0.out]
      go_wp2
      go_ret
      exact ⟨ret_int (by rw [HC.out]), HB0.out⟩
    have m3 : stQ (((wK f 0 : Nat) : Int), ((wK f 1 : Nat) : Int), ((wK f 2 : Nat) : Int), ((wK f 3 : Nat) : Int)) (0, 0, 0, 0) = true := by rw [HS.out]; exact hqs
    have HC := Lib.hid (show 0 = c by rw [← hc.out]; unfold ckT; rw [if_neg (by rintro (h | h | ⟨h, h2⟩ | ⟨h, h3, h2⟩ | ⟨h, h2⟩) <;> first | exact absurd rfl h | exact absurd rfl h3 | exact absurd rfl h2 | (rw [hqs] at h2; cases h2) | omega), if_neg (by rintro (h | h) <;> exact absurd h (by decide)), if_neg (by decide)])
    clear hc HS hqs
    go_enter Tryz.func53, Tryz.ntmps53
    go_upto_region 1 with fail
    rw [← HW0.out]
    go_wp2
    go_ret
    exact ⟨ret_int (by rw [HC.out]), HB0.out⟩
  · clear h1 h6
    by_cases hs : S = ⟨#[]⟩
    case neg =>
      have m2 : (S.toList == []) = false := bytes_ne hs
      have HC := Lib.hid (show 2 = c by rw [← hc.out]; unfold ckT; rw [if_pos (.inr (.inr (.inr (.inl ⟨by decide, by decide, hs⟩))))])
      clear hc HS
      go_enter Tryz.func53, Tryz.ntmps53
      go_upto_region 1 with fail
      rw [← HW0.out]
      go_wp2
      go_ret
      exact ⟨ret_int (by rw [HC.out]), HB0.out⟩
    subst hs
    rcases hqs : sQ f (fun _ => false) with _ | _
    case false =>
      have m3 : stQ (((wK f 0 : Nat) : Int), ((wK f 1 : Nat) : Int), ((wK f 2 : Nat) : Int), ((wK f 3 : Nat) : Int)) (0, 0, 0, 0) = false := by rw [HS.out]; exact hqs
      have HC := Lib.hid (show 2 = c by rw [← hc.out]; unfold ckT; rw [if_pos (.inr (.inr (.inr (.inr ⟨by decide, hqs⟩))))])
      clear hc HS hqs
      go_enter Tryz.func53, Tryz.ntmps53
      go_upto_region 1 with fail
      rw [← HW0.out]
      go_wp2
      go_ret
      exact ⟨ret_int (by rw [HC.out]), HB0.out⟩
    have m3 : stQ (((wK f 0 : Nat) : Int), ((wK f 1 : Nat) : Int), ((wK f 2 : Nat) : Int), ((wK f 3 : Nat) : Int)) (0, 0, 0, 0) = true := by rw [HS.out]; exact hqs
    by_cases hn : N < 0
    · have i1 : N < 0 := hn
      have HC := Lib.hid (show 7 = c by rw [← hc.out]; unfold ckT; rw [if_neg (by rintro (h | h | ⟨h, h2⟩ | ⟨h, h3, h2⟩ | ⟨h, h2⟩) <;> first | exact absurd rfl h | exact absurd rfl h3 | exact absurd rfl h2 | (rw [hqs] at h2; cases h2) | omega), if_pos (.inl hn)])
      clear hc HS hqs
      go_enter Tryz.func53, Tryz.ntmps53
      go_upto_region 1 with fail
      rw [← HW0.out]
      go_wp2
      go_ret
      exact ⟨ret_int (by rw [HC.out]), HB0.out⟩
    by_cases hn2 : 999999999 < N
    · have i1 : ¬ (N < 0) := hn
      have i2 : 999999999 < N := hn2
      have HC := Lib.hid (show 7 = c by rw [← hc.out]; unfold ckT; rw [if_neg (by rintro (h | h | ⟨h, h2⟩ | ⟨h, h3, h2⟩ | ⟨h, h2⟩) <;> first | exact absurd rfl h | exact absurd rfl h3 | exact absurd rfl h2 | (rw [hqs] at h2; cases h2) | omega), if_pos (.inr hn2)])
      clear hc HS hqs
      go_enter Tryz.func53, Tryz.ntmps53
      go_upto_region 1 with fail
      rw [← HW0.out]
      go_wp2
      go_ret
      exact ⟨ret_int (by rw [HC.out]), HB0.out⟩
    have i1 : ¬ (N < 0) := hn
    have i2 : ¬ (999999999 < N) := hn2
    have HC := Lib.hid (show 0 = c by rw [← hc.out]; unfold ckT; rw [if_neg (by rintro (h | h | ⟨h, h2⟩ | ⟨h, h3, h2⟩ | ⟨h, h2⟩) <;> first | exact absurd rfl h | exact absurd rfl h3 | exact absurd rfl h2 | (rw [hqs] at h2; cases h2) | omega), if_neg (by rintro (h | h) <;> omega), if_neg (by decide)])
    clear hc HS hqs
    go_enter Tryz.func53, Tryz.ntmps53
    go_upto_region 1 with fail
    rw [← HW0.out]
    go_wp2
    go_ret
    exact ⟨ret_int (by rw [HC.out]), HB0.out⟩
  · clear h1 h6
    by_cases hn : N = 0
    case neg =>
      have m1 : (N != 0) = true := by rw [bne_iff_ne]; exact hn
      have HC := Lib.hid (show 2 = c by rw [← hc.out]; unfold ckT; rw [if_pos (.inr (.inr (.inl ⟨by decide, hn⟩)))])
      clear hc HS
      go_enter Tryz.func53, Tryz.ntmps53
      go_upto_region 1 with fail
      rw [← HW0.out]
      go_wp2
      go_ret
      exact ⟨ret_int (by rw [HC.out]), HB0.out⟩
    subst hn
    rcases hqs : sQ f (fun _ => false) with _ | _
    case false =>
      have m3 : stQ (((wK f 0 : Nat) : Int), ((wK f 1 : Nat) : Int), ((wK f 2 : Nat) : Int), ((wK f 3 : Nat) : Int)) (0, 0, 0, 0) = false := by rw [HS.out]; exact hqs
      have HC := Lib.hid (show 2 = c by rw [← hc.out]; unfold ckT; rw [if_pos (.inr (.inr (.inr (.inr ⟨by decide, hqs⟩))))])
      clear hc HS hqs
      go_enter Tryz.func53, Tryz.ntmps53
      go_upto_region 1 with fail
      rw [← HW0.out]
      go_wp2
      go_ret
      exact ⟨ret_int (by rw [HC.out]), HB0.out⟩
    have m3 : stQ (((wK f 0 : Nat) : Int), ((wK f 1 : Nat) : Int), ((wK f 2 : Nat) : Int), ((wK f 3 : Nat) : Int)) (0, 0, 0, 0) = true := by rw [HS.out]; exact hqs
    by_cases hz : 2000 < S.size
    · have i1 : (2000 : Int) < (S.size : Int) := by omega
      have HC := Lib.hid (show 3 = c by rw [← hc.out]; unfold ckT; rw [if_neg (by rintro (h | h | ⟨h, h2⟩ | ⟨h, h3, h2⟩ | ⟨h, h2⟩) <;> first | exact absurd rfl h | exact absurd rfl h3 | exact absurd rfl h2 | (rw [hqs] at h2; cases h2) | omega), if_neg (by rintro (h | h) <;> exact absurd h (by decide)), if_pos hz])
      clear hc HS hqs
      go_enter Tryz.func53, Tryz.ntmps53
      go_upto_region 1 with fail
      rw [← HW0.out]
      go_wp2
      go_ret
      exact ⟨ret_int (by rw [HC.out]), HB0.out⟩
    have i1 : ¬ ((2000 : Int) < (S.size : Int)) := by omega
    have HC := Lib.hid (show 0 = c by rw [← hc.out]; unfold ckT; rw [if_neg (by rintro (h | h | ⟨h, h2⟩ | ⟨h, h3, h2⟩ | ⟨h, h2⟩) <;> first | exact absurd rfl h | exact absurd rfl h3 | exact absurd rfl h2 | (rw [hqs] at h2; cases h2) | omega), if_neg (by rintro (h | h) <;> exact absurd h (by decide)), if_neg hz])
    clear hc HS hqs
    go_enter Tryz.func53, Tryz.ntmps53
    go_upto_region 1 with fail
    rw [← HW0.out]
    go_wp2
    go_ret
    exact ⟨ret_int (by rw [HC.out]), HB0.out⟩
  · clear h1 h6
    by_cases hn : N = 0
    case neg =>
      have m1 : (N != 0) = true := by rw [bne_iff_ne]; exact hn
      have HC := Lib.hid (show 2 = c by rw [← hc.out]; unfold ckT; rw [if_pos (.inr (.inr (.inl ⟨by decide, hn⟩)))])
      clear hc HS
      go_enter Tryz.func53, Tryz.ntmps53
      go_upto_region 1 with fail
      rw [← HW0.out]
      go_wp2
      go_ret
      exact ⟨ret_int (by rw [HC.out]), HB0.out⟩
    subst hn
    rcases hqs : sQ f (fun _ => false) with _ | _
    case false =>
      have m3 : stQ (((wK f 0 : Nat) : Int), ((wK f 1 : Nat) : Int), ((wK f 2 : Nat) : Int), ((wK f 3 : Nat) : Int)) (0, 0, 0, 0) = false := by rw [HS.out]; exact hqs
      have HC := Lib.hid (show 2 = c by rw [← hc.out]; unfold ckT; rw [if_pos (.inr (.inr (.inr (.inr ⟨by decide, hqs⟩))))])
      clear hc HS hqs
      go_enter Tryz.func53, Tryz.ntmps53
      go_upto_region 1 with fail
      rw [← HW0.out]
      go_wp2
      go_ret
      exact ⟨ret_int (by rw [HC.out]), HB0.out⟩
    have m3 : stQ (((wK f 0 : Nat) : Int), ((wK f 1 : Nat) : Int), ((wK f 2 : Nat) : Int), ((wK f 3 : Nat) : Int)) (0, 0, 0, 0) = true := by rw [HS.out]; exact hqs
    by_cases hz : 2000 < S.size
    · have i1 : (2000 : Int) < (S.size : Int) := by omega
      have HC := Lib.hid (show 3 = c by rw [← hc.out]; unfold ckT; rw [if_neg (by rintro (h | h | ⟨h, h2⟩ | ⟨h, h3, h2⟩ | ⟨h, h2⟩) <;> first | exact absurd rfl h | exact absurd rfl h3 | exact absurd rfl h2 | (rw [hqs] at h2; cases h2) | omega), if_neg (by rintro (h | h) <;> exact absurd h (by decide)), if_pos hz])
      clear hc HS hqs
      go_enter Tryz.func53, Tryz.ntmps53
      go_upto_region 1 with fail
      rw [← HW0.out]
      go_wp2
      go_ret
      exact ⟨ret_int (by rw [HC.out]), HB0.out⟩
    have i1 : ¬ ((2000 : Int) < (S.size : Int)) := by omega
    have HC := Lib.hid (show 0 = c by rw [← hc.out]; unfold ckT; rw [if_neg (by rintro (h | h | ⟨h, h2⟩ | ⟨h, h3, h2⟩ | ⟨h, h2⟩) <;> first | exact absurd rfl h | exact absurd rfl h3 | exact absurd rfl h2 | (rw [hqs] at h2; cases h2) | omega), if_neg (by rintro (h | h) <;> exact absurd h (by decide)), if_neg hz])
    clear hc HS hqs
    go_enter Tryz.func53, Tryz.ntmps53
    go_upto_region 1 with fail
    rw [← HW0.out]
    go_wp2
    go_ret
    exact ⟨ret_int (by rw [HC.out]), HB0.out⟩
  · clear h1 h6
    by_cases hn : N = 0
    case neg =>
      have m1 : (N != 0) = true := by rw [bne_iff_ne]; exact hn
      have HC := Lib.hid (show 2 = c by rw [← hc.out]; unfold ckT; rw [if_pos (.inr (.inr (.inl ⟨by decide, hn⟩)))])
      clear hc HS
      go_enter Tryz.func53, Tryz.ntmps53
      go_upto_region 1 with fail
      rw [← HW0.out]
      go_wp2
      go_ret
      exact ⟨ret_int (by rw [HC.out]), HB0.out⟩
    subst hn
    by_cases hs : S = ⟨#[]⟩
    case neg =>
      have m2 : (S.toList == []) = false := bytes_ne hs
      have HC := Lib.hid (show 2 = c by rw [← hc.out]; unfold ckT; rw [if_pos (.inr (.inr (.inr (.inl ⟨by decide, by decide, hs⟩))))])
      clear hc HS
      go_enter Tryz.func53, Tryz.ntmps53
      go_upto_region 1 with fail
      rw [← HW0.out]
      go_wp2
      go_ret
      exact ⟨ret_int (by rw [HC.out]), HB0.out⟩
    subst hs
    have HC := Lib.hid (show 0 = c by rw [← hc.out]; unfold ckT; rw [if_neg (by rintro (h | h | ⟨h, h2⟩ | ⟨h, h3, h2⟩ | ⟨h, h2⟩) <;> first | exact absurd rfl h | exact absurd rfl h3 | exact absurd rfl h2 | (rw [hqs] at h2; cases h2) | omega), if_neg (by rintro (h | h) <;> exact absurd h (by decide)), if_neg (by decide)])
    clear hc HS
    go_enter Tryz.func53, Tryz.ntmps53
    go_upto_region 1 with fail
    rw [← HW0.out]
    go_wp2
    go_ret
    exact ⟨ret_int (by rw [HC.out]), HB0.out⟩
end Go.Proofs.YtcopnpllaoahaaaGreatDoor
namespace Go.Proofs.YtcopnpllaoahaaaGreatDoor
open Go.RowKit
theorem rchk9 (t : T9) (K F T N : Int) (S : ByteArray) (f : Nat → Bool) (ht : t = (K, F, T, N, S, f)) (c : Int) (hc : Hid (ck9 t = c)) (w : World) :
    Calls Tryz.prog 53 #[tkV K F T N S f] w fun e w' => e = .returned (.int .i64 c) ∧ Below w.heap.size w w' := by
  subst ht; exact rchk_ K F T N S f c hc w
theorem join_snoc (x : List UInt8) : ∀ xs : List (List UInt8), xs ≠ [] → Lib.join (xs ++ [x]) [32] = Lib.join xs [32] ++ 32 :: x
  | [], h => absurd rfl h
  | [y], _ => by simp [Lib.join]
  | y :: z :: t, _ => by
    have ih := join_snoc x (z :: t) (by simp)
    simp [Lib.join] at ih ⊢
    exact ih
theorem joinT_zero : joinT [] = ⟨#[]⟩ := rfl
theorem joinT_one {l : List T9} (h : 0 < l.length) : joinT (l.take 1) = tx l[0] := by
  rw [List.take_add_one (i := 0), List.getElem?_eq_getElem h]
  unfold joinT
  simp [Lib.join]
theorem joinT_step {l : List T9} {k : Nat} (hk : k < l.length) (h0 : 0 < k) : joinT (l.take (k + 1)) = joinT (l.take k) ++ ⟨#[32]⟩ ++ tx l[k] := by
  apply ByteArray.ext
  apply Array.toList_inj.1
  rw [ByteArray.data_append, Array.toList_append, ByteArray.data_append, Array.toList_append]
  unfold joinT
  show (Lib.join ((l.take (k + 1)).map fun t => (tx t).data.toList) [32]).toArray.toList = (Lib.join ((l.take k).map fun t => (tx t).data.toList) [32]).toArray.toList ++ [32] ++ (tx l[k]).data.toList
  rw [List.toList_toArray, List.toList_toArray, List.take_add_one, List.getElem?_eq_getElem hk, List.map_append]
  show Lib.join ((l.take k).map (fun t => (tx t).data.toList) ++ [(tx l[k]).data.toList]) [32] = _
  rw [join_snoc _ _ (by
    intro e
    have := congrArg List.length e
    rw [List.length_map, List.length_take, List.length_nil] at this
    omega)]
  simp
theorem joinT_len {l : List T9} (h : ∀ t ∈ l, ck9 t = 0) (h80 : l.length ≤ 80) (k : Nat) : (joinT (l.take k)).size ≤ 900000 := by
  have := join_len ((l.take k).map fun t => (tx t).data.toList) (fun x hx => by
    obtain ⟨t, ht, rfl⟩ := List.mem_map.1 hx
    have := tx_len (h t (List.mem_of_mem_take ht))
    simpa using this)
  rw [List.length_map, List.length_take] at this
  unfold joinT
  rw [sz_of]
  omega
set_option maxRecDepth 100000 in
set_option maxHeartbeats 8000000 in
theorem rpprint_ (l : List T9) (w : World) (A : Option Addr) (c : Nat) (hR : Reads w w.heap.size 9 A l.length (tks l)) (_ : l.length ≤ 100000) (r : ByteArray × Nat × Int) (hr : Hid (prnL l = r)) :
    Calls Tryz.prog 43 #[.slice A l.length c] w (RetPr w r) := by
  have HR := Lib.hid hR
  have hr0 := hr.out
  unfold prnL at hr0
  have HR0 := Lib.hid hr0
  clear hR hr0 hr
  go_enter Tryz.func43, Tryz.ntmps43
  go_wp2
  go_loopw [5] (fun i wr => ∃ k : Nat, k ≤ l.length ∧ i = .int .i64 (k : Int) ∧ Below w.heap.size w wr ∧ Hid (errL l 0 = errL (l.drop k) k)) (fun i _ => l.length - (intOf i).toNat)
  case atStart => exact ⟨0, Nat.zero_le _, rfl, Below.refl _ _, Lib.hid (by rw [List.drop_zero])⟩
  case round =>
    obtain ⟨k, hk, rfl, hbl, he⟩ := hrel
    by_cases hlt : k < l.length
    · have i1 : (k : Int) < (l.length : Int) := by omega
      have i0 : (0 : Int) ≤ (k : Int) := by omega
      have hst := errR hlt he.out
      have hrd := HR.out.below hbl
      obtain ⟨bk, off, rfl, hbk, c0, c1, c2, c3, c4, c5, c6, c7, c8⟩ := hrd.at9 hlt
      obtain ⟨K, F, T, N, S, f, ht⟩ : ∃ K F T N S f, l[k] = (K, F, T, N, S, f) := ⟨_, _, _, _, _, _, rfl⟩
      rw [ht] at c0 c1 c2 c3 c4 c5 c6 c7 c8 hst
      simp only at c0 c1 c2 c3 c4 c5 c6 c7 c8
      obtain ⟨x, hx⟩ : ∃ x, ck9 (K, F, T, N, S, f) = x := ⟨_, rfl⟩
      rw [hx] at hst
      have Hx := Lib.hid hx
      have hbkw : bk < wr.heap.size := Nat.lt_of_lt_of_le hbk hbl.size
      by_cases hx0 : x = 0
      · subst hx0
        have HS := Lib.hid (show errL l 0 = errL (l.drop (k + 1)) (k + 1) by rw [hst, if_neg (by simp)])
        clear hst he ht hx hrd
        go_wp2_with fail
        (with_reducible refine (rchk9 _ K F T N S f rfl 0 Hx _).mono ?_); rintro e w3 ⟨rfl, hb3⟩
        have hB3 := bt hbl hb3
        clear hb3 c0 c1 c2 c3 c4 c5 c6 c7 c8
        go_wp2
        go_roundw
        case rel => exact ⟨k + 1, by omega, by go_num, hB3, HS⟩
        case measure => (simp [intOf]) <;> omega
      · have HN := Lib.hid (show r = (⟨#[]⟩, k, x) by rw [← HR0.out, hst, if_pos hx0])
        have e1 : (x != 0) = true := by simpa using hx0
        clear hst he ht hx hrd hx0
        go_wp2_with fail
        (with_reducible refine (rchk9 _ K F T N S f rfl x Hx _).mono ?_); rintro e w3 ⟨rfl, hb3⟩
        have hB3 := bt hbl hb3
        clear hb3 c0 c1 c2 c3 c4 c5 c6 c7 c8
        go_wp2
        exact bodyPost_ret (v := .tuple #[.string ⟨#[]⟩, .int .i64 (k : Int), .int .i64 x]) (by simp [results, go_sem]) rfl (RetPr.of HN.out rfl hB3)
    · obtain rfl : k = l.length := by omega
      have hn : errL l 0 = none := by rw [he.out, List.drop_of_length_le (Nat.le_refl _)]; rfl
      have hok := errL_none hn
      rw [hn] at HR0
      clear he hlt hn
      by_cases h80 : 80 < l.length
      · have i1 : (80 : Int) < (l.length : Int) := by omega
        have HN := Lib.hid (show r = (⟨#[]⟩, 0, 3) by rw [← HR0.out]; simp only; rw [if_pos h80])
        clear h80 hok
        go_wp2
        exact bodyPost_ret (v := .tuple #[.string ⟨#[]⟩, .int .i64 0, .int .i64 3]) (by simp [results, go_sem]) rfl (RetPr.of HN.out rfl hbl)
      have i1 : ¬ ((80 : Int) < (l.length : Int)) := by omega
      have hr1 := HR0.out
      simp only at hr1
      rw [if_neg h80] at hr1
      have HR1 := Lib.hid hr1
      have HOk := Lib.hid hok
      have hjl := joinT_len hok (by omega)
      have HJl := Lib.hid hjl
      clear hr1 HR0 hok hjl
      go_wp2
      obtain ⟨w0, rfl⟩ : ∃ w0 : World, w0 = wr := ⟨_, rfl⟩
      go_loopw [7, 8] (fun v i wi => ∃ (k : Nat) (S : ByteArray), k ≤ l.length ∧ i = .int .i64 (k : Int) ∧ Below w.heap.size w wi ∧ v = .string S ∧ Hid (S = joinT (l.take k))) (fun _ i _ => l.length - (intOf i).toNat)
      case atStart => exact ⟨0, ⟨#[]⟩, Nat.zero_le _, rfl, hbl, rfl, Lib.hid rfl⟩
      case round =>
        clear hbl
        obtain ⟨k, J, hk, rfl, hbl, rfl, hJ⟩ := hrel
        have hJs : J.size ≤ 900000 := by rw [hJ.out]; exact HJl.out k
        by_cases hlt : k < l.length
        · have j1 : (k : Int) < (l.length : Int) := by omega
          have j0 : (0 : Int) ≤ (k : Int) := by omega
          have hrd := HR.out.below hbl
          obtain ⟨bk, off, rfl, hbk, c0, c1, c2, c3, c4, c5, c6, c7, c8⟩ := hrd.at9 hlt
          have hck := HOk.out l[k] (List.getElem_mem hlt)
          have hus : (tx l[k]).size ≤ 10000 := tx_len hck
          have hnx : joinT (l.take (k + 1)) = if k = 0 then tx l[k] else J ++ ⟨#[32]⟩ ++ tx l[k] := by
            by_cases h0 : k = 0
            · subst h0; rw [if_pos rfl]; exact joinT_one hlt
            · rw [if_neg h0, hJ.out]; exact joinT_step hlt (by omega)
          obtain ⟨K, F, T, N, S, f, ht⟩ : ∃ K F T N S f, l[k] = (K, F, T, N, S, f) := ⟨_, _, _, _, _, _, rfl⟩
          rw [ht] at c0 c1 c2 c3 c4 c5 c6 c7 c8 hck hnx hus
          simp only at c0 c1 c2 c3 c4 c5 c6 c7 c8
          obtain ⟨hK, hN, hS⟩ := ck_kind hck
          simp only at hK hN hS
          obtain ⟨u, hu⟩ : ∃ u, tx (K, F, T, N, S, f) = u := ⟨_, rfl⟩
          have HT := Lib.hid (fun W => rtx_ K F T N S f hK (by omega) (by omega) u (Lib.hid hu) W)
          rw [hu] at hnx hus
          have HX := Lib.hid hnx
          have HJ := Lib.hid hJ.out
          have hbkw : bk < wr.heap.size := Nat.lt_of_lt_of_le hbk hbl.size
          clear hnx hck hrd ht hu hK hN hJ
          by_cases hk0 : 0 < k
          · have e0 : (0 : Int) < (k : Int) := by omega
            go_wp2_with fail
            (with_reducible refine (HT.out _).mono ?_); rintro e w3 ⟨rfl, hb3⟩
            have HB3 := Lib.hid (bt hbl hb3)
            have hX := HX.out
            rw [if_neg (by omega)] at hX
            have HX2 := Lib.hid hX.symm
            clear hb3 c0 c1 c2 c3 c4 c5 c6 c7 c8 hX
            go_wp2
            go_roundw
            case rel => exact ⟨k + 1, _, by omega, by go_num, HB3.out, rfl, HX2⟩
            case measure => (simp [intOf]) <;> omega
          · obtain rfl : k = 0 := by omega
            have e0 : ¬ ((0 : Int) < ((0 : Nat) : Int)) := by omega
            simp only [Nat.zero_mul, Nat.add_zero] at c0 c1 c2 c3 c4 c5 c6 c7 c8
            have hJ0 : J = ⟨#[]⟩ := by rw [HJ.out]; rfl
            subst hJ0
            go_wp2_with fail
            (with_reducible refine (HT.out _).mono ?_); rintro e w3 ⟨rfl, hb3⟩
            have HB3 := Lib.hid (bt hbl hb3)
            have hX : joinT (l.take (0 + 1)) = u := by
              have h := HX.out
              simpa using h
            have HX2 := Lib.hid (show (⟨#[]⟩ : ByteArray) ++ u = joinT (l.take (0 + 1)) by rw [hX]; exact ByteArray.empty_append)
            have HX3 := Lib.hid hX.symm
            clear hb3 c0 c1 c2 c3 c4 c5 c6 c7 c8 hX
            go_wp2
            go_roundw
            case rel => first | exact ⟨1, _, by omega, rfl, HB3.out, rfl, HX2⟩ | exact ⟨1, _, by omega, rfl, HB3.out, rfl, HX3⟩
            case measure => (simp [intOf]) <;> omega
        · obtain rfl : k = l.length := by omega
          have hJf : joinT l = J := by rw [hJ.out, List.take_of_length_le (Nat.le_refl _)]
          have hr1 := HR1.out
          rw [hJf] at hr1
          clear hJf hJ HR1
          by_cases hm : 1000 < J.size
          · have j2 : (1000 : Int) < (J.size : Int) := by omega
            rw [if_pos hm] at hr1
            have HN := Lib.hid hr1.symm
            clear hr1 hm
            go_wp2
            exact bodyPost_ret (v := .tuple #[.string ⟨#[]⟩, .int .i64 0, .int .i64 3]) (by simp [results, go_sem]) rfl (RetPr.of HN.out rfl hbl)
          · have j2 : ¬ ((1000 : Int) < (J.size : Int)) := by omega
            rw [if_neg hm] at hr1
            have HN := Lib.hid hr1.symm
            clear hr1 hm
            go_wp2
            exact bodyPost_ret (v := .tuple #[.string J, .int .i64 0, .int .i64 0]) (by simp [results, go_sem]) rfl (RetPr.of HN.out rfl hbl)
end Go.Proofs.YtcopnpllaoahaaaGreatDoor
