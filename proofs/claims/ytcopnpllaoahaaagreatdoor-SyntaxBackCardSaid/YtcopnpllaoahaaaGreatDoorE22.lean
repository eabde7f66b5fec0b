/- Syntax: wrong of the reference. Printed by genwrong.py. No condition. Syntax: tokens of the reference. Printed by gentok.py. No condition. Syntax: one of the reference. No condition. Syntax: text and Check of the reference. No condition. Syntax: Print and Tokens of the reference; Far. No condition. -/
import Derived.Test.YtcopnpllaoahaaaGreatDoorE13
import Derived.Test.YtcopnpllaoahaaaGreatDoorE6
import Derived.Test.YtcopnpllaoahaaaGreatDoorL8
import Derived.Test.YtcopnpllaoahaaaGreatDoorJ10
import Derived.Test.YtcopnpllaoahaaaGreatDoorE17
namespace Go.Proofs.YtcopnpllaoahaaaGreatDoor
open Go.RowKit
set_option maxRecDepth 100000 in
set_option maxHeartbeats 8000000 in
theorem wrong_ (K : Int) (S : ByteArray) (f : Nat → Bool) (lo hi : Int) (c : Int) (hc : Hid (elE (K, S, f, lo, hi) = c)) (w : World) :
    Calls Tryz.prog 42 #[elV K S f lo hi] w fun e w' => e = .returned (.int .i64 c) ∧ Below w.heap.size w w' := by
  have hB0 : Below w.heap.size w (w.alloc (elO (K, S, f, lo, hi))) := ba (Below.refl _ _) _
  obtain ⟨⟨c0, c1, c2, c3, c4, c5, c6, c7⟩, _, _⟩ := bx8 (alloc1_new w (elO (K, S, f, lo, hi)))
  simp only at c0 c1 c2 c3 c4 c5 c6 c7
  obtain ⟨W0, hW0⟩ : ∃ W0, W0 = w.alloc (elO (K, S, f, lo, hi)) := ⟨_, rfl⟩
  rw [← hW0] at hB0 c0 c1 c2 c3 c4 c5 c6 c7
  have HW0 := Lib.hid hW0
  have HB0 := Lib.hid hB0
  clear hW0 hB0
  have HI0 := Lib.hid (fun W => number_ 0 true (Lib.hid rfl) W)
  have HS := Lib.hid (show stQ (((wK f 0 : Nat) : Int), ((wK f 1 : Nat) : Int), ((wK f 2 : Nat) : Int), ((wK f 3 : Nat) : Int)) (0, 0, 0, 0) = sQ f noK by
    have h := stQ_sets f (fun _ => false)
    rw [i4_no] at h
    exact h)
  by_cases h1 : K < 1
  · have i1 : K < 1 := h1
    have HC := Lib.hid (show 2 = c by rw [← hc.out]; unfold elE; rw [if_pos (.inl h1)])
    clear hc HS
    go_enter Tryz.func42, Tryz.ntmps42
    go_upto_region 1 with fail
    rw [← HW0.out]
    go_wp2
    go_ret
    exact ⟨ret_int (by rw [HC.out]), HB0.out⟩
  by_cases h6 : 4 < K
  · have i1 : ¬ (K < 1) := h1
    have i2 : 4 < K := h6
    have HC := Lib.hid (show 2 = c by rw [← hc.out]; unfold elE; rw [if_pos (.inr (.inl h6))])
    clear hc HS
    go_enter Tryz.func42, Tryz.ntmps42
    go_upto_region 1 with fail
    rw [← HW0.out]
    go_wp2
    go_ret
    exact ⟨ret_int (by rw [HC.out]), HB0.out⟩
  rcases (show K = 1 ∨ K = 2 ∨ K = 3 ∨ K = 4 by omega) with rfl | rfl | rfl | rfl
  · clear h1 h6
    rcases hqs : sQ f noK with _ | _
    case false =>
      have m3 : stQ (((wK f 0 : Nat) : Int), ((wK f 1 : Nat) : Int), ((wK f 2 : Nat) : Int), ((wK f 3 : Nat) : Int)) (0, 0, 0, 0) = false := by rw [HS.out]; exact hqs
      have HC := Lib.hid (show 2 = c by rw [← hc.out]; unfold elE; rw [if_pos (.inr (.inr (.inr (.inl ⟨by simp, hqs⟩))))])
      clear hc HS hqs
      go_enter Tryz.func42, Tryz.ntmps42
      go_upto_region 1 with fail
      rw [← HW0.out]
      go_wp2
      go_ret
      exact ⟨ret_int (by rw [HC.out]), HB0.out⟩
    have m3 : stQ (((wK f 0 : Nat) : Int), ((wK f 1 : Nat) : Int), ((wK f 2 : Nat) : Int), ((wK f 3 : Nat) : Int)) (0, 0, 0, 0) = true := by rw [HS.out]; exact hqs
    by_cases hn : lo = 0
    case neg =>
      have m4 : (lo != 0) = true := by rw [bne_iff_ne]; exact hn
      have HC := Lib.hid (show 2 = c by rw [← hc.out]; unfold elE; rw [if_pos (.inr (.inr (.inr (.inr ⟨by simp, .inl hn⟩))))])
      clear hc HS hqs
      go_enter Tryz.func42, Tryz.ntmps42
      go_upto_region 1 with fail
      rw [← HW0.out]
      go_wp2
      go_ret
      exact ⟨ret_int (by rw [HC.out]), HB0.out⟩
    subst hn
    by_cases hn2 : hi = 0
    case neg =>
      have m5 : (hi != 0) = true := by rw [bne_iff_ne]; exact hn2
      have HC := Lib.hid (show 2 = c by rw [← hc.out]; unfold elE; rw [if_pos (.inr (.inr (.inr (.inr ⟨by simp, .inr hn2⟩))))])
      clear hc HS hqs
      go_enter Tryz.func42, Tryz.ntmps42
      go_upto_region 1 with fail
      rw [← HW0.out]
      go_wp2
      go_ret
      exact ⟨ret_int (by rw [HC.out]), HB0.out⟩
    subst hn2
    by_cases hz : 2000 < S.size
    · have i1 : (2000 : Int) < (S.size : Int) := by omega
      have HC := Lib.hid (show 3 = c by rw [← hc.out]; unfold elE; rw [if_neg (by rintro (h | h | ⟨h, h3, h2⟩ | ⟨h, h2⟩ | ⟨h, h2 | h2⟩) <;> first | exact absurd rfl h | exact absurd rfl h3 | exact absurd rfl h2 | (simp only at h2; rw [hqs] at h2; cases h2) | (simp only at h; omega)), if_neg (by simp only; omega), if_pos hz])
      clear hc HS hqs hz
      go_enter Tryz.func42, Tryz.ntmps42
      go_upto_region 1 with fail
      rw [← HW0.out]
      go_wp2_with fail
      (with_reducible refine (HI0.out _).mono ?_); rintro e w' ⟨rfl, hw'⟩; subst hw'
      go_wp2_with fail
      (with_reducible refine (HI0.out _).mono ?_); rintro e w' ⟨rfl, hw'⟩; subst hw'
      go_wp2
      go_ret
      exact ⟨ret_int (by rw [HC.out]), HB0.out⟩
    have i1 : ¬ ((2000 : Int) < (S.size : Int)) := by omega
    have HC := Lib.hid (show 0 = c by rw [← hc.out]; unfold elE; rw [if_neg (by rintro (h | h | ⟨h, h3, h2⟩ | ⟨h, h2⟩ | ⟨h, h2 | h2⟩) <;> first | exact absurd rfl h | exact absurd rfl h3 | exact absurd rfl h2 | (simp only at h2; rw [hqs] at h2; cases h2) | (simp only at h; omega)), if_neg (by simp only; omega), if_neg hz])
    clear hc HS hqs hz
    go_enter Tryz.func42, Tryz.ntmps42
    go_upto_region 1 with fail
    rw [← HW0.out]
    go_wp2_with fail
    (with_reducible refine (HI0.out _).mono ?_); rintro e w' ⟨rfl, hw'⟩; subst hw'
    go_wp2_with fail
    (with_reducible refine (HI0.out _).mono ?_); rintro e w' ⟨rfl, hw'⟩; subst hw'
    clear m3 c0 c2 c3 c4 c5 c6 c7 HW0
    go_wp2
    go_ret
    exact ⟨ret_int (by rw [HC.out]), HB0.out⟩
  · clear h1 h6
    rcases hqs : sQ f noK with _ | _
    case false =>
      have m3 : stQ (((wK f 0 : Nat) : Int), ((wK f 1 : Nat) : Int), ((wK f 2 : Nat) : Int), ((wK f 3 : Nat) : Int)) (0, 0, 0, 0) = false := by rw [HS.out]; exact hqs
      have HC := Lib.hid (show 2 = c by rw [← hc.out]; unfold elE; rw [if_pos (.inr (.inr (.inr (.inl ⟨by simp, hqs⟩))))])
      clear hc HS hqs
      go_enter Tryz.func42, Tryz.ntmps42
      go_upto_region 1 with fail
      rw [← HW0.out]
      go_wp2
      go_ret
      exact ⟨ret_int (by rw [HC.out]), HB0.out⟩
    have m3 : stQ (((wK f 0 : Nat) : Int), ((wK f 1 : Nat) : Int), ((wK f 2 : Nat) : Int), ((wK f 3 : Nat) : Int)) (0, 0, 0, 0) = true := by rw [HS.out]; exact hqs
    by_cases hn : lo = 0
    case neg =>
      have m4 : (lo != 0) = true := by rw [bne_iff_ne]; exact hn
      have HC := Lib.hid (show 2 = c by rw [← hc.out]; unfold elE; rw [if_pos (.inr (.inr (.inr (.inr ⟨by simp, .inl hn⟩))))])
      clear hc HS hqs
      go_enter Tryz.func42, Tryz.ntmps42
      go_upto_region 1 with fail
      rw [← HW0.out]
      go_wp2
      go_ret
      exact ⟨ret_int (by rw [HC.out]), HB0.out⟩
    subst hn
    by_cases hn2 : hi = 0
    case neg =>
      have m5 : (hi != 0) = true := by rw [bne_iff_ne]; exact hn2
      have HC := Lib.hid (show 2 = c by rw [← hc.out]; unfold elE; rw [if_pos (.inr (.inr (.inr (.inr ⟨by simp, .inr hn2⟩))))])
      clear hc HS hqs
      go_enter Tryz.func42, Tryz.ntmps42
      go_upto_region 1 with fail
      rw [← HW0.out]
      go_wp2
      go_ret
      exact ⟨ret_int (by rw [HC.out]), HB0.out⟩
    subst hn2
    by_cases hz : 2000 < S.size
    · have i1 : (2000 : Int) < (S.size : Int) := by omega
      have HC := Lib.hid (show 3 = c by rw [← hc.out]; unfold elE; rw [if_neg (by rintro (h | h | ⟨h, h3, h2⟩ | ⟨h, h2⟩ | ⟨h, h2 | h2⟩) <;> first | exact absurd rfl h | exact absurd rfl h3 | exact absurd rfl h2 | (simp only at h2; rw [hqs] at h2; cases h2) | (simp only at h; omega)), if_neg (by simp only; omega), if_pos hz])
      clear hc HS hqs hz
      go_enter Tryz.func42, Tryz.ntmps42
      go_upto_region 1 with fail
      rw [← HW0.out]
      go_wp2_with fail
      (with_reducible refine (HI0.out _).mono ?_); rintro e w' ⟨rfl, hw'⟩; subst hw'
      go_wp2_with fail
      (with_reducible refine (HI0.out _).mono ?_); rintro e w' ⟨rfl, hw'⟩; subst hw'
      go_wp2
      go_ret
      exact ⟨ret_int (by rw [HC.out]), HB0.out⟩
    have i1 : ¬ ((2000 : Int) < (S.size : Int)) := by omega
    have HC := Lib.hid (show 0 = c by rw [← hc.out]; unfold elE; rw [if_neg (by rintro (h | h | ⟨h, h3, h2⟩ | ⟨h, h2⟩ | ⟨h, h2 | h2⟩) <;> first | exact absurd rfl h | exact absurd rfl h3 | exact absurd rfl h2 | (simp only at h2; rw [hqs] at h2; cases h2) | (simp only at h; omega)), if_neg (by simp only; omega), if_neg hz])
    clear hc HS hqs hz
    go_enter Tryz.func42, Tryz.ntmps42
    go_upto_region 1 with fail
    rw [← HW0.out]
    go_wp2_with fail
    (with_reducible refine (HI0.out _).mono ?_); rintro e w' ⟨rfl, hw'⟩; subst hw'
    go_wp2_with fail
    (with_reducible refine (HI0.out _).mono ?_); rintro e w' ⟨rfl, hw'⟩; subst hw'
    clear m3 c0 c2 c3 c4 c5 c6 c7 HW0
    go_wp2
    go_ret
    exact ⟨ret_int (by rw [HC.out]), HB0.out⟩
  · clear h1 h6
    by_cases hs : S = noB
    case neg =>
      have m2 : (S.toList == []) = false := bytes_ne hs
      have HC := Lib.hid (show 2 = c by rw [← hc.out]; unfold elE; rw [if_pos (.inr (.inr (.inl ⟨by simp, by simp, hs⟩)))])
      clear hc HS
      go_enter Tryz.func42, Tryz.ntmps42
      go_upto_region 1 with fail
      rw [← HW0.out]
      go_wp2
      go_ret
      exact ⟨ret_int (by rw [HC.out]), HB0.out⟩
    subst hs
    unfold noB at *
    by_cases hn : lo = 0
    case neg =>
      have m4 : (lo != 0) = true := by rw [bne_iff_ne]; exact hn
      have HC := Lib.hid (show 2 = c by rw [← hc.out]; unfold elE; rw [if_pos (.inr (.inr (.inr (.inr ⟨by simp, .inl hn⟩))))])
      clear hc HS
      go_enter Tryz.func42, Tryz.ntmps42
      go_upto_region 1 with fail
      rw [← HW0.out]
      go_wp2
      go_ret
      exact ⟨ret_int (by rw [HC.out]), HB0.out⟩
    subst hn
    by_cases hn2 : hi = 0
    case neg =>
      have m5 : (hi != 0) = true := by rw [bne_iff_ne]; exact hn2
      have HC := Lib.hid (show 2 = c by rw [← hc.out]; unfold elE; rw [if_pos (.inr (.inr (.inr (.inr ⟨by simp, .inr hn2⟩))))])
      clear hc HS
      go_enter Tryz.func42, Tryz.ntmps42
      go_upto_region 1 with fail
      rw [← HW0.out]
      go_wp2
      go_ret
      exact ⟨ret_int (by rw [HC.out]), HB0.out⟩
    subst hn2
    have HC := Lib.hid (show 0 = c by rw [← hc.out]; unfold elE; rw [if_neg (by rintro (h | h | ⟨h, h3, h2⟩ | ⟨h, h2⟩ | ⟨h, h2 | h2⟩) <;> first | exact absurd rfl h | exact absurd rfl h3 | exact absurd rfl h2 | (simp only at h2; rw [hqs] at h2; cases h2) | (simp only at h; omega)), if_neg (by simp only; omega), if_neg (by simp only; decide)])
    clear hc HS
    go_enter Tryz.func42, Tryz.ntmps42
    go_upto_region 1 with fail
    rw [← HW0.out]
    go_wp2_with fail
    (with_reducible refine (HI0.out _).mono ?_); rintro e w' ⟨rfl, hw'⟩; subst hw'
    go_wp2_with fail
    (with_reducible refine (HI0.out _).mono ?_); rintro e w' ⟨rfl, hw'⟩; subst hw'
    go_wp2
    go_ret
    exact ⟨ret_int (by rw [HC.out]), HB0.out⟩
  · clear h1 h6
    by_cases hs : S = noB
    case neg =>
      have m2 : (S.toList == []) = false := bytes_ne hs
      have HC := Lib.hid (show 2 = c by rw [← hc.out]; unfold elE; rw [if_pos (.inr (.inr (.inl ⟨by simp, by simp, hs⟩)))])
      clear hc HS
      go_enter Tryz.func42, Tryz.ntmps42
      go_upto_region 1 with fail
      rw [← HW0.out]
      go_wp2
      go_ret
      exact ⟨ret_int (by rw [HC.out]), HB0.out⟩
    subst hs
    unfold noB at *
    rcases hqs : sQ f noK with _ | _
    case false =>
      have m3 : stQ (((wK f 0 : Nat) : Int), ((wK f 1 : Nat) : Int), ((wK f 2 : Nat) : Int), ((wK f 3 : Nat) : Int)) (0, 0, 0, 0) = false := by rw [HS.out]; exact hqs
      have HC := Lib.hid (show 2 = c by rw [← hc.out]; unfold elE; rw [if_pos (.inr (.inr (.inr (.inl ⟨by simp, hqs⟩))))])
      clear hc HS hqs
      go_enter Tryz.func42, Tryz.ntmps42
      go_upto_region 1 with fail
      rw [← HW0.out]
      go_wp2
      go_ret
      exact ⟨ret_int (by rw [HC.out]), HB0.out⟩
    have m3 : stQ (((wK f 0 : Nat) : Int), ((wK f 1 : Nat) : Int), ((wK f 2 : Nat) : Int), ((wK f 3 : Nat) : Int)) (0, 0, 0, 0) = true := by rw [HS.out]; exact hqs
    rcases hl : inB lo with _ | _
    · have hL := Lib.hid (fun W => number_ lo false (Lib.hid hl) W)
      have hl2 := of_decide_eq_false hl
      clear hl
      have HC := Lib.hid (show 7 = c by rw [← hc.out]; unfold elE; rw [if_neg (by rintro (h | h | ⟨h, h3, h2⟩ | ⟨h, h2⟩ | ⟨h, h2 | h2⟩) <;> first | exact absurd rfl h | exact absurd rfl h3 | exact absurd rfl h2 | (simp only at h2; rw [hqs] at h2; cases h2) | (simp only at h; omega)), if_pos (by simp only; omega)])
      clear hc HS hqs hl2
      go_enter Tryz.func42, Tryz.ntmps42
      go_upto_region 1 with fail
      rw [← HW0.out]
      go_wp2_with fail
      (with_reducible refine (hL.out _).mono ?_); rintro e w' ⟨rfl, hw'⟩; subst hw'
      go_wp2
      go_ret
      exact ⟨ret_int (by rw [HC.out]), HB0.out⟩
    have hL := Lib.hid (fun W => number_ lo true (Lib.hid hl) W)
    have hl2 := of_decide_eq_true hl
    clear hl
    rcases hh : inB hi with _ | _
    · have hG := Lib.hid (fun W => number_ hi false (Lib.hid hh) W)
      have hh2 := of_decide_eq_false hh
      clear hh
      have HC := Lib.hid (show 7 = c by rw [← hc.out]; unfold elE; rw [if_neg (by rintro (h | h | ⟨h, h3, h2⟩ | ⟨h, h2⟩ | ⟨h, h2 | h2⟩) <;> first | exact absurd rfl h | exact absurd rfl h3 | exact absurd rfl h2 | (simp only at h2; rw [hqs] at h2; cases h2) | (simp only at h; omega)), if_pos (by simp only; omega)])
      clear hc HS hqs hl2 hh2
      go_enter Tryz.func42, Tryz.ntmps42
      go_upto_region 1 with fail
      rw [← HW0.out]
      go_wp2_with fail
      (with_reducible refine (hL.out _).mono ?_); rintro e w' ⟨rfl, hw'⟩; subst hw'
      go_wp2_with fail
      (with_reducible refine (hG.out _).mono ?_); rintro e w' ⟨rfl, hw'⟩; subst hw'
      go_wp2
      go_ret
      exact ⟨ret_int (by rw [HC.out]), HB0.out⟩
    have hG := Lib.hid (fun W => number_ hi true (Lib.hid hh) W)
    have hh2 := of_decide_eq_true hh
    clear hh
    have HC := Lib.hid (show 0 = c by rw [← hc.out]; unfold elE; rw [if_neg (by rintro (h | h | ⟨h, h3, h2⟩ | ⟨h, h2⟩ | ⟨h, h2 | h2⟩) <;> first | exact absurd rfl h | exact absurd rfl h3 | exact absurd rfl h2 | (simp only at h2; rw [hqs] at h2; cases h2) | (simp only at h; omega)), if_neg (by simp only; omega), if_neg (by simp only; decide)])
    clear hc HS hqs hl2 hh2
    go_enter Tryz.func42, Tryz.ntmps42
    go_upto_region 1 with fail
    rw [← HW0.out]
    go_wp2_with fail
    (with_reducible refine (hL.out _).mono ?_); rintro e w' ⟨rfl, hw'⟩; subst hw'
    go_wp2_with fail
    (with_reducible refine (hG.out _).mono ?_); rintro e w' ⟨rfl, hw'⟩; subst hw'
    go_wp2
    go_ret
    exact ⟨ret_int (by rw [HC.out]), HB0.out⟩
end Go.Proofs.YtcopnpllaoahaaaGreatDoor
namespace Go.Proofs.YtcopnpllaoahaaaGreatDoor
open Go.RowKit
abbrev bxR (id : Int) (A : Option Addr) (n c : Nat) : Obj := .cells #[.int .i64 id, .slice A n c] 42 (0, 0)
theorem tks_app4 (a b c : T9) : tks [a, b, c] = t9C a ++ (t9C b ++ t9C c) := by unfold tks; simp
theorem wK_zero {f : Nat → Bool} (h : sQ f noK = true) (j : Nat) (hj : j < 4) : wK f j = 0 := by
  rw [wK_congr ((sQ_iff f noK).1 h) hj]; exact wK_no j
set_option maxRecDepth 100000 in
set_option maxHeartbeats 8000000 in
theorem rtokens_ (r : Rm) (w : World) (hI : IsRu w r) (hE : ∀ x ∈ r.2.2.2, elE x = 0) (h64 : r.2.2.2.length ≤ 64) :
    Calls Tryz.prog 29 #[ruV r] w (RetTs w (ruT (rm r))) := by
  obtain ⟨id, A, c, es⟩ := r
  have HI := Lib.hid hI.rd
  have HE := Lib.hid hE
  simp only at h64
  obtain ⟨BO, hBO⟩ : ∃ o : Obj, o = .cells #[.int .i64 id, .slice A es.length c] 42 (0, 0) := ⟨_, rfl⟩
  obtain ⟨TO, hTO⟩ : ∃ o : Obj, o = .cells (tks [(1, 0, 0, 0, noB, noK), (3, 0, 0, id, noB, noK)]).toArray 58 (0, 0) := ⟨_, rfl⟩
  have hb0 : Below w.heap.size w ((w.alloc BO).alloc TO) := ba (ba (Below.refl _ _) _) _
  have ho0 : ((w.alloc BO).alloc TO).ownsRow w.heap.size 58 9 (.slice (some ⟨w.heap.size + 1, 0, none⟩) 2 2) 2 (tks (lnT (id, es) 0)) := by
    rw [lnT_zero]
    refine own_of_blk (by rw [← hTO]; exact alloc2_new _ _ _) (by omega) (by rw [tks_len]; rfl) (by omega)
  rw [tks_two] at hTO
  have HF0 : Hid (Fr w [(w.heap.size, bxR id A es.length c)] ((w.alloc BO).alloc TO)) := Lib.hid (by rw [hBO]; exact ((Fr.start w).new _).al _)
  have HO0 := Lib.hid ho0
  have c0 : ((w.alloc BO).alloc TO).cell? ⟨w.heap.size, 1, none⟩ = some (.slice A es.length c) := by
    have h := alloc_blk (o' := TO) (alloc1_new w BO)
    rw [hBO] at h
    rw [hBO]
    exact Lib.cell_of_heap h 1
  have hwl : w.heap.size < ((w.alloc BO).alloc TO).heap.size := by simp; omega
  subst hBO
  subst hTO
  clear hb0 ho0 hI hE
  go_enter Tryz.func29, Tryz.ntmps29
  go_upto_region 2 with fail
  generalize (w.alloc (.cells #[.int .i64 id, .slice A es.length c] 42 (0, 0))).alloc (.cells #[.int .i64 1, .int .i64 0, .int .i64 0, .int .i64 0, .string ⟨#[]⟩, .int .u64 0, .int .u64 0, .int .u64 0, .int .u64 0, .int .i64 3, .int .i64 0, .int .i64 0, .int .i64 id, .string ⟨#[]⟩, .int .u64 0, .int .u64 0, .int .u64 0, .int .u64 0] 58 (0, 0)) = W2 at *
  go_wp2
  go_loopw [3, 4] (fun v u wr => ∃ k : Nat, k ≤ es.length ∧ u = .int .i64 (k : Int) ∧ wr.ownsRow w.heap.size 58 9 v (lnT (id, es) k).length (tks (lnT (id, es) k)) ∧ Fr w [(w.heap.size, bxR id A es.length c)] wr) (fun _ u _ => es.length - (intOf u).toNat)
  case atStart => exact ⟨0, Nat.zero_le _, rfl, HO0.out, HF0.out⟩
  case round =>
    obtain ⟨k, hk, rfl, hown, hF⟩ := hrel
    have hbl := hF.bel
    obtain ⟨AL, cL, rfl, hrd, _, _⟩ := own_sl hown
    obtain ⟨⟨b0, b1⟩, _, l1⟩ := bx2 (hF.at (g := w.heap.size) (o := bxR id A es.length c) List.mem_cons_self)
    by_cases hlt : k < es.length
    case neg =>
      obtain rfl : k = es.length := by omega
      have i1 : ¬ ((es.length : Int) < (es.length : Int)) := by omega
      have he : lnT (id, es) es.length = ruT (id, es) := lnT_all (id, es)
      rw [he] at hown ⊢
      have HOw := Lib.hid hown
      clear hown hrd he hF
      go_wp2
      exact bodyPost_ret (v := .slice AL (ruT (id, es)).length cL) (by simp [results, go_sem]) rfl ⟨AL, cL, rfl, hbl, HOw.out⟩
    have i1 : (k : Int) < (es.length : Int) := by omega
    have i0 : (0 : Int) ≤ (k : Int) := by omega
    obtain ⟨bk, off, rfl, hbk, d0, d1, d2, d3, d4, d5, d6, d7⟩ := (HI.out.below hbl).at8 rfl hlt
    have hbkw : bk < wr.heap.size := Nat.lt_of_lt_of_le hbk hbl.size
    have hz := elE_zero (HE.out _ (List.getElem_mem hlt))
    have hn64 := lnT_len (id, es) k
    obtain ⟨⟨K, S, f, lo, hi⟩, hx⟩ : ∃ x, es[k] = x := ⟨_, rfl⟩
    rw [hx] at d0 d1 d2 d3 d4 d5 d6 d7 hz
    simp only at d0 d1 d2 d3 d4 d5 d6 d7
    obtain ⟨hK, hS, hQ, _⟩ := hz
    simp only at hK hS hQ
    rcases hK with rfl | rfl | rfl | rfl
    · have hel : lnT (id, es) (k + 1) = lnT (id, es) k ++ [(4, 0, 0, 0, S, f)] := by rw [lnT_succ _ k hlt]; rw [show (id, es).2[k] = (1, S, f, lo, hi) from hx]; rfl
      have HEl := Lib.hid (show tks (lnT (id, es) (k + 1)) = tks (lnT (id, es) k) ++ [.int .i64 4, .int .i64 0, .int .i64 0, .int .i64 0, .string S, .int .u64 0, .int .u64 0, .int .u64 0, .int .u64 0] by
        have hf := hQ (by decide)
        rw [hel, tks_app]
        show _ ++ (t9C _ ++ []) = _
        unfold t9C
        simp only [wK_zero hf 0 (by decide), wK_zero hf 1 (by decide), wK_zero hf 2 (by decide), wK_zero hf 3 (by decide)]
        rfl)
      have HLn := Lib.hid (show (lnT (id, es) (k + 1)).length = (lnT (id, es) k).length + 1 by rw [hel]; simp)
      have HF := Lib.hid ((hF.al (elO (1, S, f, lo, hi))).cons (alloc1_new wr (elO (1, S, f, lo, hi))))
      have HO := Lib.hid (own_below hown ((Below.refl wr.heap.size wr).alloc (Nat.le_refl _) (elO (1, S, f, lo, hi))))
      have HN1 := Lib.hid (own_blk_ne HO.out (HF.out.at (g := w.heap.size) (o := bxR id (some ⟨bk, off, none⟩) es.length c) (by simp)) (by decide))
      clear hel hx hrd hown hF hS hQ
      go_upto_region 6 with fail
      clear d0 d1 d2 d3 d4 d5 d6 d7 hbkw b0 b1 l1
      generalize wr.alloc (elO (1, S, f, lo, hi)) = W4 at *
      generalize wr.heap.size = R4 at *
      obtain ⟨⟨x0, x1, x2, x3, x4, x5, x6, x7⟩, _, l3⟩ := bx8 (HF.out.at (g := R4) (o := elO (1, S, f, lo, hi)) List.mem_cons_self)
      simp only at x0 x1 x2 x3 x4 x5 x6 x7
      go_wp2_with (at_builtin; refine wpList_ap tkEl (w0 := w) (by exact HO.out.alloc _) (by exact ba HF.out.bel _) [.int .i64 4, .int .i64 0, .int .i64 0, .int .i64 0, .string S, .int .u64 0, .int .u64 0, .int .u64 0, .int .u64 0] (by exact alloc1_new _ _) ?_)
      intro g6 cap6 w6 hO6 hb6 hg6
      have HF6 := Lib.hid (Fr.grown1 ((HF.out.sub (M := [(w.heap.size, bxR id (some ⟨bk, off, none⟩) es.length c)]) (by simp)).al _) hb6 hg6 HN1.out)
      have HO6 := Lib.hid hO6
      clear hO6 hb6 hg6 x0 x1 x2 x3 x4 x5 x6 x7 l3
      go_wp2
      go_roundw
      case rel => exact ⟨k + 1, by omega, by go_num, by rw [HEl.out, HLn.out]; exact HO6.out, HF6.out⟩
      case measure => (simp [intOf]) <;> omega
    · have hel : lnT (id, es) (k + 1) = lnT (id, es) k ++ [(5, 0, 0, 0, S, f)] := by rw [lnT_succ _ k hlt]; rw [show (id, es).2[k] = (2, S, f, lo, hi) from hx]; rfl
      have HEl := Lib.hid (show tks (lnT (id, es) (k + 1)) = tks (lnT (id, es) k) ++ [.int .i64 5, .int .i64 0, .int .i64 0, .int .i64 0, .string S, .int .u64 0, .int .u64 0, .int .u64 0, .int .u64 0] by
        have hf := hQ (by decide)
        rw [hel, tks_app]
        show _ ++ (t9C _ ++ []) = _
        unfold t9C
        simp only [wK_zero hf 0 (by decide), wK_zero hf 1 (by decide), wK_zero hf 2 (by decide), wK_zero hf 3 (by decide)]
        rfl)
      have HLn := Lib.hid (show (lnT (id, es) (k + 1)).length = (lnT (id, es) k).length + 1 by rw [hel]; simp)
      have HF := Lib.hid ((hF.al (elO (2, S, f, lo, hi))).cons (alloc1_new wr (elO (2, S, f, lo, hi))))
      have HO := Lib.hid (own_below hown ((Below.refl wr.heap.size wr).alloc (Nat.le_refl _) (elO (2, S, f, lo, hi))))
      have HN1 := Lib.hid (own_blk_ne HO.out (HF.out.at (g := w.heap.size) (o := bxR id (some ⟨bk, off, none⟩) es.length c) (by simp)) (by decide))
      clear hel hx hrd hown hF hS hQ
      go_upto_region 6 with fail
      clear d0 d1 d2 d3 d4 d5 d6 d7 hbkw b0 b1 l1
      generalize wr.alloc (elO (2, S, f, lo, hi)) = W4 at *
      generalize wr.heap.size = R4 at *
      obtain ⟨⟨x0, x1, x2, x3, x4, x5, x6, x7⟩, _, l3⟩ := bx8 (HF.out.at (g := R4) (o := elO (2, S, f, lo, hi)) List.mem_cons_self)
      simp only at x0 x1 x2 x3 x4 x5 x6 x7
      go_wp2_with (at_builtin; refine wpList_ap tkEl (w0 := w) (by exact HO.out.alloc _) (by exact ba HF.out.bel _) [.int .i64 5, .int .i64 0, .int .i64 0, .int .i64 0, .string S, .int .u64 0, .int .u64 0, .int .u64 0, .int .u64 0] (by exact alloc1_new _ _) ?_)
      intro g6 cap6 w6 hO6 hb6 hg6
      have HF6 := Lib.hid (Fr.grown1 ((HF.out.sub (M := [(w.heap.size, bxR id (some ⟨bk, off, none⟩) es.length c)]) (by simp)).al _) hb6 hg6 HN1.out)
      have HO6 := Lib.hid hO6
      clear hO6 hb6 hg6 x0 x1 x2 x3 x4 x5 x6 x7 l3
      go_wp2
      go_roundw
      case rel => exact ⟨k + 1, by omega, by go_num, by rw [HEl.out, HLn.out]; exact HO6.out, HF6.out⟩
      case measure => (simp [intOf]) <;> omega
    · have hel : lnT (id, es) (k + 1) = lnT (id, es) k ++ [(6, 0, 0, 0, S, f)] := by rw [lnT_succ _ k hlt]; rw [show (id, es).2[k] = (3, S, f, lo, hi) from hx]; rfl
      have HEl := Lib.hid (show tks (lnT (id, es) (k + 1)) = tks (lnT (id, es) k) ++ [.int .i64 6, .int .i64 0, .int .i64 0, .int .i64 0, .string ⟨#[]⟩, .int .u64 ((wK f 0 : Nat) : Int), .int .u64 ((wK f 1 : Nat) : Int), .int .u64 ((wK f 2 : Nat) : Int), .int .u64 ((wK f 3 : Nat) : Int)] by
        have hs := hS (by decide) (by decide)
        rw [hel, tks_app]
        show _ ++ (t9C _ ++ []) = _
        unfold t9C
        rw [hs]
        rfl)
      have HLn := Lib.hid (show (lnT (id, es) (k + 1)).length = (lnT (id, es) k).length + 1 by rw [hel]; simp)
      have HF := Lib.hid ((hF.al (elO (3, S, f, lo, hi))).cons (alloc1_new wr (elO (3, S, f, lo, hi))))
      have HO := Lib.hid (own_below hown ((Below.refl wr.heap.size wr).alloc (Nat.le_refl _) (elO (3, S, f, lo, hi))))
      have HN1 := Lib.hid (own_blk_ne HO.out (HF.out.at (g := w.heap.size) (o := bxR id (some ⟨bk, off, none⟩) es.length c) (by simp)) (by decide))
      clear hel hx hrd hown hF hS hQ
      go_upto_region 6 with fail
      clear d0 d1 d2 d3 d4 d5 d6 d7 hbkw b0 b1 l1
      generalize wr.alloc (elO (3, S, f, lo, hi)) = W4 at *
      generalize wr.heap.size = R4 at *
      obtain ⟨⟨x0, x1, x2, x3, x4, x5, x6, x7⟩, _, l3⟩ := bx8 (HF.out.at (g := R4) (o := elO (3, S, f, lo, hi)) List.mem_cons_self)
      simp only at x0 x1 x2 x3 x4 x5 x6 x7
      go_wp2_with (at_builtin; refine wpList_ap tkEl (w0 := w) (by exact HO.out.alloc _) (by exact ba HF.out.bel _) [.int .i64 6, .int .i64 0, .int .i64 0, .int .i64 0, .string ⟨#[]⟩, .int .u64 ((wK f 0 : Nat) : Int), .int .u64 ((wK f 1 : Nat) : Int), .int .u64 ((wK f 2 : Nat) : Int), .int .u64 ((wK f 3 : Nat) : Int)] (by exact alloc1_new _ _) ?_)
      intro g6 cap6 w6 hO6 hb6 hg6
      have HF6 := Lib.hid (Fr.grown1 ((HF.out.sub (M := [(w.heap.size, bxR id (some ⟨bk, off, none⟩) es.length c)]) (by simp)).al _) hb6 hg6 HN1.out)
      have HO6 := Lib.hid hO6
      clear hO6 hb6 hg6 x0 x1 x2 x3 x4 x5 x6 x7 l3
      go_wp2
      go_roundw
      case rel => exact ⟨k + 1, by omega, by go_num, by rw [HEl.out, HLn.out]; exact HO6.out, HF6.out⟩
      case measure => (simp [intOf]) <;> omega
    · have hel : lnT (id, es) (k + 1) = lnT (id, es) k ++ [(2, 0, 0, 0, S, f), (3, 0, 0, lo, noB, noK), (3, 0, 0, hi, noB, noK)] := by rw [lnT_succ _ k hlt]; rw [show (id, es).2[k] = (4, S, f, lo, hi) from hx]; rfl
      have HEl := Lib.hid (show tks (lnT (id, es) (k + 1)) = tks (lnT (id, es) k) ++ [.int .i64 2, .int .i64 0, .int .i64 0, .int .i64 0, .string ⟨#[]⟩, .int .u64 0, .int .u64 0, .int .u64 0, .int .u64 0, .int .i64 3, .int .i64 0, .int .i64 0, .int .i64 lo, .string ⟨#[]⟩, .int .u64 0, .int .u64 0, .int .u64 0, .int .u64 0, .int .i64 3, .int .i64 0, .int .i64 0, .int .i64 hi, .string ⟨#[]⟩, .int .u64 0, .int .u64 0, .int .u64 0, .int .u64 0] by
        have hs := hS (by decide) (by decide)
        have hf := hQ (by decide)
        rw [hel, tks_app, tks_app4]
        unfold t9C
        simp only [hs, wK_zero hf 0 (by decide), wK_zero hf 1 (by decide), wK_zero hf 2 (by decide), wK_zero hf 3 (by decide), wK_zero (sQ_refl noK) 0 (by decide), wK_zero (sQ_refl noK) 1 (by decide), wK_zero (sQ_refl noK) 2 (by decide), wK_zero (sQ_refl noK) 3 (by decide)]
        rfl)
      have HLn := Lib.hid (show (lnT (id, es) (k + 1)).length = (lnT (id, es) k).length + 3 by rw [hel]; simp)
      have HF := Lib.hid ((hF.al (elO (4, S, f, lo, hi))).cons (alloc1_new wr (elO (4, S, f, lo, hi))))
      have HO := Lib.hid (own_below hown ((Below.refl wr.heap.size wr).alloc (Nat.le_refl _) (elO (4, S, f, lo, hi))))
      have HN1 := Lib.hid (own_blk_ne HO.out (HF.out.at (g := w.heap.size) (o := bxR id (some ⟨bk, off, none⟩) es.length c) (by simp)) (by decide))
      clear hel hx hrd hown hF hS hQ
      go_upto_region 6 with fail
      clear d0 d1 d2 d3 d4 d5 d6 d7 hbkw b0 b1 l1
      generalize wr.alloc (elO (4, S, f, lo, hi)) = W4 at *
      generalize wr.heap.size = R4 at *
      obtain ⟨⟨x0, x1, x2, x3, x4, x5, x6, x7⟩, _, l3⟩ := bx8 (HF.out.at (g := R4) (o := elO (4, S, f, lo, hi)) List.mem_cons_self)
      simp only at x0 x1 x2 x3 x4 x5 x6 x7
      go_wp2_with (at_builtin; refine wpList_ap tkEl (w0 := w) (by exact HO.out.alloc _) (by exact ba HF.out.bel _) [.int .i64 2, .int .i64 0, .int .i64 0, .int .i64 0, .string ⟨#[]⟩, .int .u64 0, .int .u64 0, .int .u64 0, .int .u64 0, .int .i64 3, .int .i64 0, .int .i64 0, .int .i64 lo, .string ⟨#[]⟩, .int .u64 0, .int .u64 0, .int .u64 0, .int .u64 0, .int .i64 3, .int .i64 0, .int .i64 0, .int .i64 hi, .string ⟨#[]⟩, .int .u64 0, .int .u64 0, .int .u64 0, .int .u64 0] (by exact alloc1_new _ _) ?_)
      intro g6 cap6 w6 hO6 hb6 hg6
      have HF6 := Lib.hid (Fr.grown1 ((HF.out.sub (M := [(w.heap.size, bxR id (some ⟨bk, off, none⟩) es.length c)]) (by simp)).al _) hb6 hg6 HN1.out)
      have HO6 := Lib.hid hO6
      clear hO6 hb6 hg6 x0 x1 x2 x3 x4 x5 x6 x7 l3
      go_wp2
      go_roundw
      case rel => exact ⟨k + 1, by omega, by go_num, by rw [HEl.out, HLn.out]; exact HO6.out, HF6.out⟩
      case measure => (simp [intOf]) <;> omega
end Go.Proofs.YtcopnpllaoahaaaGreatDoor
namespace Go.Proofs.YtcopnpllaoahaaaGreatDoor
open Go.RowKit
section
variable {r : Ru}
theorem ruE_i (h : inB r.1 = false) : ruE r = (-1, 7) := by
  unfold inB at h
  have h := of_decide_eq_false h
  unfold ruE; rw [if_pos (by omega)]
theorem ruE_n (h : inB r.1 = true) (h2 : r.2 = []) : ruE r = (-1, 6) := by rw [ruE_id h, if_pos h2]
theorem ruE_l (h : inB r.1 = true) (h2 : r.2 ≠ []) (h3 : 64 < r.2.length) : ruE r = (-1, 3) := by rw [ruE_id h, if_neg h2, if_pos h3]
theorem ruE_e (h : inB r.1 = true) (h2 : r.2 ≠ []) (h3 : ¬ 64 < r.2.length) {i : Nat} {e : Int} (h4 : elsE r.2 0 = some (i, e)) : ruE r = ((i : Int), e) := by rw [ruE_id h, if_neg h2, if_neg h3, h4]
theorem ruE_p (h : inB r.1 = true) (h2 : r.2 ≠ []) (h3 : ¬ 64 < r.2.length) (h4 : elsE r.2 0 = none) {s : ByteArray} {q : Nat} {er : Int} (hq : prnL (ruT r) = (s, q, er)) (h5 : er ≠ 0) : ruE r = (-1, 3) := by
  rw [ruE_id h, if_neg h2, if_neg h3, h4, hq]; exact if_pos h5
theorem ruE_o (h : inB r.1 = true) (h2 : r.2 ≠ []) (h3 : ¬ 64 < r.2.length) (h4 : elsE r.2 0 = none) {s : ByteArray} {q : Nat} (hq : prnL (ruT r) = (s, q, 0)) : ruE r = (0, 0) := by
  rw [ruE_id h, if_neg h2, if_neg h3, h4, hq]; exact if_neg (by simp)
end
def RetOne (w : World) (r : Int × Int) (e : Ending) (w' : World) : Prop := e = .returned (.tuple #[.int .i64 r.1, .int .i64 r.2]) ∧ Below w.heap.size w w'
theorem wrongE_ (x : El) (K : Int) (S : ByteArray) (f : Nat → Bool) (lo hi : Int) (hx : x = (K, S, f, lo, hi)) (c : Int) (hc : Hid (elE x = c)) (w : World) :
    Calls Tryz.prog 42 #[elV K S f lo hi] w fun e w' => e = .returned (.int .i64 c) ∧ Below w.heap.size w w' := by
  subst hx; exact wrong_ K S f lo hi c hc w
set_option maxRecDepth 100000 in
set_option maxHeartbeats 8000000 in
theorem one_ (r : Rm) (w : World) (hI : IsRu w r) (p : Int × Int) (hp : Hid (ruE (rm r) = p)) :
    Calls Tryz.prog 26 #[ruV r] w (RetOne w p) := by
  obtain ⟨id, A, c, es⟩ := r
  have HI := Lib.hid hI
  have HR := Lib.hid (show Reads w w.heap.size 8 A es.length (els es) from hI.rd)
  have HF0 := Lib.hid ((Fr.start w).newN (g := w.heap.size) rfl (bxO id A es.length c))
  clear hI
  rcases hid : inB id with _ | _
  · have HN := Lib.hid ((ruE_i (r := (id, es)) hid).symm.trans hp.out)
    have HY := Lib.hid (fun W => number_ id false (Lib.hid hid) W)
    clear hid
    go_enter Tryz.func26, Tryz.ntmps26
    go_wp2_with fail
    (with_reducible refine (HY.out _).mono ?_); rintro e w1 ⟨rfl, hw1⟩; subst hw1
    go_wp2
    refine bodyPost_ret (v := .tuple #[.int .i64 (-1), .int .i64 7]) (by simp [results, go_sem]) rfl ?_
    rw [← HN.out]
    exact ⟨rfl, HF0.out.bel⟩
  have HY := Lib.hid (fun W => number_ id true (Lib.hid hid) W)
  by_cases h0 : es = []
  · have HN := Lib.hid ((ruE_n (r := (id, es)) hid h0).symm.trans hp.out)
    have i1 : ((es.length : Int) == 0) = true := by rw [h0]; rfl
    clear hid h0
    go_enter Tryz.func26, Tryz.ntmps26
    go_wp2_with fail
    (with_reducible refine (HY.out _).mono ?_); rintro e w1 ⟨rfl, hw1⟩; subst hw1
    go_wp2
    refine bodyPost_ret (v := .tuple #[.int .i64 (-1), .int .i64 6]) (by simp [results, go_sem]) rfl ?_
    rw [← HN.out]
    exact ⟨rfl, HF0.out.bel⟩
  have hpos : 0 < es.length := List.length_pos_iff.2 h0
  have i1 : ((es.length : Int) == 0) = false := by rw [beq_eq_false_iff_ne]; omega
  by_cases h64 : 64 < es.length
  · have HN := Lib.hid ((ruE_l (r := (id, es)) hid h0 h64).symm.trans hp.out)
    have i2 : (64 : Int) < (es.length : Int) := by omega
    clear hid h0 h64
    go_enter Tryz.func26, Tryz.ntmps26
    go_wp2_with fail
    (with_reducible refine (HY.out _).mono ?_); rintro e w1 ⟨rfl, hw1⟩; subst hw1
    go_wp2
    refine bodyPost_ret (v := .tuple #[.int .i64 (-1), .int .i64 3]) (by simp [results, go_sem]) rfl ?_
    rw [← HN.out]
    exact ⟨rfl, HF0.out.bel⟩
  have i2 : ¬ ((64 : Int) < (es.length : Int)) := by omega
  have Hid_ := Lib.hid hid
  have H0 := Lib.hid h0
  clear hid h0
  go_enter Tryz.func26, Tryz.ntmps26
  go_wp2_with fail
  (with_reducible refine (HY.out _).mono ?_); rintro e w1 ⟨rfl, hw1⟩; subst hw1
  go_upto_region 7 with fail
  generalize w.alloc (bxO id A es.length c) = W1 at *
  obtain ⟨⟨b0, b1⟩, _, l1⟩ := bx2 (HF0.out.at (g := w.heap.size) (o := bxO id A es.length c) List.mem_cons_self)
  go_wp2
  clear b0 b1 l1
  go_loopw [4] (fun i wr => ∃ k : Nat, k ≤ es.length ∧ i = .int .i64 (k : Int) ∧ Fr w [(w.heap.size, bxO id A es.length c)] wr ∧ Hid (elsE es 0 = elsE (es.drop k) k)) (fun i _ => es.length - (intOf i).toNat)
  case atStart => exact ⟨0, Nat.zero_le _, rfl, HF0.out, Lib.hid (by rw [List.drop_zero])⟩
  case round =>
    obtain ⟨k, hk, rfl, hF, hX⟩ := hrel
    obtain ⟨⟨b0, b1⟩, _, l1⟩ := bx2 (hF.at (g := w.heap.size) (o := bxO id A es.length c) List.mem_cons_self)
    by_cases hlt : k < es.length
    · have i3 : (k : Int) < (es.length : Int) := by omega
      have i0 : (0 : Int) ≤ (k : Int) := by omega
      obtain ⟨bk, off, rfl, hbk, d0, d1, d2, d3, d4, d5, d6, d7⟩ := (HR.out.below hF.bel).at8 rfl hlt
      have hbkw : bk < wr.heap.size := Nat.lt_of_lt_of_le hbk hF.bel.size
      have hst := elsE_step hlt hX.out
      obtain ⟨⟨K, S, f, lo, hi⟩, hx⟩ : ∃ x, es[k] = x := ⟨_, rfl⟩
      rw [hx] at d0 d1 d2 d3 d4 d5 d6 d7 hst
      simp only at d0 d1 d2 d3 d4 d5 d6 d7
      obtain ⟨y, hy⟩ : ∃ y, elE (K, S, f, lo, hi) = y := ⟨_, rfl⟩
      rw [hy] at hst
      have HC := Lib.hid (fun W => wrongE_ _ K S f lo hi rfl y (Lib.hid hy) W)
      have HF := Lib.hid hF
      by_cases hy0 : y = 0
      · subst hy0
        have HX2 := Lib.hid (show elsE es 0 = elsE (es.drop (k + 1)) (k + 1) by rw [hst, if_neg (by simp)])
        clear hst hX hx hy hF
        go_wp2_with fail
        (with_reducible refine (HC.out _).mono ?_); rintro e w3 ⟨rfl, hb3⟩
        have hF3 := HF.out.go hb3
        clear hb3 d0 d1 d2 d3 d4 d5 d6 d7 b0 b1 l1
        go_wp2
        go_roundw
        case rel => exact ⟨k + 1, by omega, by go_num, hF3, HX2⟩
        case measure => (simp [intOf]) <;> omega
      · have hN := (ruE_e (r := (id, es)) Hid_.out H0.out h64 (i := k) (e := y) (by rw [hst, if_pos hy0])).symm.trans hp.out
        have HN := Lib.hid hN
        have e1 : (y != 0) = true := by simpa using hy0
        clear hst hX hx hy hF hN hy0
        go_wp2_with fail
        (with_reducible refine (HC.out _).mono ?_); rintro e w3 ⟨rfl, hb3⟩
        have hF3 := HF.out.go hb3
        clear hb3 d0 d1 d2 d3 d4 d5 d6 d7 b0 b1 l1
        go_wp2
        refine bodyPost_ret (v := .tuple #[.int .i64 (k : Int), .int .i64 y]) (by simp [results, go_sem]) rfl ?_
        rw [← HN.out]
        exact ⟨rfl, hF3.bel⟩
    · obtain rfl : k = es.length := by omega
      have i3 : ¬ ((es.length : Int) < (es.length : Int)) := by omega
      have hn : elsE es 0 = none := by rw [hX.out, List.drop_of_length_le (Nat.le_refl _)]; rfl
      have hE := elsE_none hn
      rcases hq : prnL (ruT (id, es)) with ⟨s, q, er⟩
      have hcap : (ruT (id, es)).length ≤ 100000 := by rw [← lnT_all]; have := lnT_len (id, es) es.length; simp only; omega
      have HL : Hid (Calls Tryz.prog 29 #[.agg #[.int .i64 id, .slice A es.length c]] wr (RetTs wr (ruT (id, es)))) := Lib.hid (rtokens_ (id, A, c, es) wr (HI.out.go hF.bel) hE (by simp only; omega))
      have HP := Lib.hid (fun (W : World) (A : Option Addr) (c : Nat) hR => rpprint_ (ruT (id, es)) W A c hR hcap (s, q, er) (Lib.hid hq))
      have HF := Lib.hid hF
      by_cases her : er = 0
      · subst her
        have HN := Lib.hid ((ruE_o (r := (id, es)) Hid_.out H0.out h64 hn hq).symm.trans hp.out)
        clear hX hn hE hq hF
        go_wp2_with fail
        (with_reducible refine (HL.out).mono ?_); rintro e w3 ⟨A5, c5, rfl, hb3, ho3⟩
        obtain ⟨_, _, e5, hr5, _⟩ := own_sl ho3
        cases e5
        go_wp2_with fail
        (with_reducible refine (HP.out _ _ _ hr5).mono ?_); rintro e w4 ⟨rfl, hb4⟩
        have hb5 := bt (bt HF.out.bel hb3) hb4
        clear hb3 ho3 hr5 hb4 b0 b1 l1
        go_wp2
        refine bodyPost_ret (v := .tuple #[.int .i64 0, .int .i64 0]) (by simp [results, go_sem]) rfl ?_
        rw [← HN.out]
        exact ⟨rfl, hb5⟩
      · have HN := Lib.hid ((ruE_p (r := (id, es)) Hid_.out H0.out h64 hn hq her).symm.trans hp.out)
        have e1 : (er != 0) = true := by simpa using her
        clear hX hn hE hq hF her
        go_wp2_with fail
        (with_reducible refine (HL.out).mono ?_); rintro e w3 ⟨A5, c5, rfl, hb3, ho3⟩
        obtain ⟨_, _, e5, hr5, _⟩ := own_sl ho3
        cases e5
        go_wp2_with fail
        (with_reducible refine (HP.out _ _ _ hr5).mono ?_); rintro e w4 ⟨rfl, hb4⟩
        have hb5 := bt (bt HF.out.bel hb3) hb4
        clear hb3 ho3 hr5 hb4 b0 b1 l1
        go_wp2
        refine bodyPost_ret (v := .tuple #[.int .i64 (-1), .int .i64 3]) (by simp [results, go_sem]) rfl ?_
        rw [← HN.out]
        exact ⟨rfl, hb5⟩
end Go.Proofs.YtcopnpllaoahaaaGreatDoor
namespace Go.Proofs.YtcopnpllaoahaaaGreatDoor
open Go.RowKit
set_option maxRecDepth 100000 in
set_option maxHeartbeats 8000000 in
theorem rtext_ (L : List Rm) (w : World) (A : Option Addr) (c : Nat) (hI : IsRus w A L) (h64 : L.length ≤ 64) (hok : ∀ r ∈ L, (ruE (rm r)).2 = 0) (T : List UInt8) (hT : Hid (txR (L.map rm) = T)) :
    Calls Tryz.prog 27 #[.slice A L.length c] w fun e w' => e = .returned (.string ⟨T.toArray⟩) ∧ Below w.heap.size w w' := by
  have hml : (L.map rm).length = L.length := List.length_map ..
  have HI := Lib.hid hI
  have HOk := Lib.hid hok
  clear hI hok
  go_enter Tryz.func27, Tryz.ntmps27
  go_wp2
  go_loopw [3, 4] (fun v i wr => ∃ (k : Nat) (s : ByteArray), k ≤ L.length ∧ i = .int .i64 (k : Int) ∧ v = .string s ∧ s.size ≤ 1001 * k ∧ Below w.heap.size w wr ∧ Hid (s.data.toList = txR ((L.map rm).take k))) (fun _ i _ => L.length - (intOf i).toNat)
  case atStart => exact ⟨0, ⟨#[]⟩, Nat.zero_le _, rfl, rfl, by decide, Below.refl _ _, Lib.hid (by rw [List.take_zero]; rfl)⟩
  case round =>
    obtain ⟨k, s, hk, rfl, rfl, hsz, hbl, hX⟩ := hrel
    by_cases hlt : k < L.length
    case neg =>
      obtain rfl : k = L.length := by omega
      have i1 : ¬ ((L.length : Int) < (L.length : Int)) := by omega
      have hs : s = ⟨T.toArray⟩ := by
        have h := hX.out
        rw [List.take_of_length_le (by omega), hT.out] at h
        apply ByteArray.ext
        apply Array.toList_inj.1
        rw [h]
      have HS := Lib.hid hs
      clear hX hs
      go_wp2
      go_ret
      exact ⟨by rw [HS.out]; rfl, hbl⟩
    have i1 : (k : Int) < (L.length : Int) := by omega
    have i0 : (0 : Int) ≤ (k : Int) := by omega
    obtain ⟨bk, off, rfl, hbk, d0, d1, hIr⟩ := (HI.out.go hbl).at hlt
    have htk := txR_take (L.map rm) k (by omega)
    have hrk : (L.map rm)[k]'(by omega) = rm L[k] := List.getElem_map ..
    rw [hrk] at htk
    have hE := HOk.out _ (List.getElem_mem hlt)
    obtain ⟨⟨id, A1, c1, es⟩, hr⟩ : ∃ r, L[k] = r := ⟨_, rfl⟩
    rw [hr] at d0 d1 hIr htk hE
    simp only at d0 d1
    obtain ⟨_, _, e64, eE, e5⟩ := ruE_ok hE
    rcases hq : prnL (ruT (rm (id, A1, c1, es))) with ⟨x, q, er⟩
    rw [hq] at e5 htk
    simp only at e5 htk
    subst e5
    have hxs := prn_size hq
    have hcap : (ruT (id, es)).length ≤ 100000 := by rw [← lnT_all]; have := lnT_len (id, es) es.length; have h2 : es.length ≤ 64 := e64; simp only; omega
    have HL : Hid (Calls Tryz.prog 29 #[.agg #[.int .i64 id, .slice A1 es.length c1]] wr (RetTs wr (ruT (id, es)))) := Lib.hid (rtokens_ (id, A1, c1, es) wr hIr eE e64)
    have HP := Lib.hid (fun (W : World) (A : Option Addr) (c : Nat) hR => rpprint_ (ruT (id, es)) W A c hR hcap (x, q, 0) (Lib.hid hq))
    have hcat : (s ++ x ++ (⟨#[10]⟩ : ByteArray)).data.toList = s.data.toList ++ (x.data.toList ++ [10]) := by simp
    have hcs : (s ++ x ++ (⟨#[10]⟩ : ByteArray)).size ≤ 1001 * (k + 1) := by
      rw [ByteArray.size_append, ByteArray.size_append]
      have : (⟨#[10]⟩ : ByteArray).size = 1 := rfl
      omega
    have HX := Lib.hid (show (s ++ x ++ (⟨#[10]⟩ : ByteArray)).data.toList = txR ((L.map rm).take (k + 1)) by rw [hcat, hX.out, htk])
    have HC := Lib.hid hcs
    have j1 : ¬ (9223372036854775807 < s.size + x.size) := by omega
    have j2 : ¬ (9223372036854775807 < s.size + x.size + 1) := by omega
    clear hX htk hrk hr hIr hE e64 eE hq hcat hcs hcap
    go_wp2_with fail
    (with_reducible refine (HL.out).mono ?_); rintro e w3 ⟨A5, c5, rfl, hb3, ho3⟩
    obtain ⟨_, _, e5, hr5, _⟩ := own_sl ho3
    cases e5
    go_wp2_with fail
    (with_reducible refine (HP.out _ _ _ hr5).mono ?_); rintro e w4 ⟨rfl, hb4⟩
    have hb5 := bt (bt hbl hb3) hb4
    clear hb3 ho3 hr5 hb4 d0 d1 hbl
    go_wp2
    go_roundw
    case rel => exact ⟨k + 1, _, by omega, by go_num, rfl, HC.out, hb5, HX⟩
    case measure => (simp [intOf]) <;> omega
set_option maxRecDepth 100000 in
set_option maxHeartbeats 8000000 in
theorem rcheck_ (L : List Rm) (w : World) (A : Option Addr) (c : Nat) (hI : IsRus w A L) (t : List UInt8) (i : Nat) (k e : Int) (hp : Hid (prA (L.map rm) = (t, i, k, e))) :
    Calls Tryz.prog 15 #[.slice A L.length c] w fun e' w' => e' = .returned (.tuple #[.int .i64 (i : Int), .int .i64 k, .int .i64 e]) ∧ Below w.heap.size w w' := by
  have hml : (L.map rm).length = L.length := List.length_map ..
  have HI := Lib.hid hI
  clear hI
  by_cases h64 : 64 < L.length
  · have hp1 := hp.out
    unfold prA at hp1
    rw [if_pos (by omega)] at hp1
    simp only [Prod.mk.injEq] at hp1
    obtain ⟨_, hi, hk, he⟩ := hp1
    have i1 : (64 : Int) < (L.length : Int) := by omega
    subst hi hk he
    clear h64 hml hp
    go_enter Tryz.func15, Tryz.ntmps15
    go_wp2
    exact bodyPost_ret (v := .tuple #[.int .i64 0, .int .i64 0, .int .i64 3]) (by simp [results, go_sem]) rfl ⟨rfl, Below.refl _ _⟩
  have i1 : ¬ ((64 : Int) < (L.length : Int)) := by omega
  have hp1 := hp.out
  unfold prA at hp1
  rw [if_neg (by omega)] at hp1
  have HP := Lib.hid hp1
  clear hp1 hp
  go_enter Tryz.func15, Tryz.ntmps15
  go_wp2
  go_loopw [5] (fun u wr => ∃ j : Nat, j ≤ L.length ∧ u = .int .i64 (j : Int) ∧ Below w.heap.size w wr ∧ Hid (rusE (L.map rm) 0 = rusE ((L.map rm).drop j) j)) (fun u _ => L.length - (intOf u).toNat)
  case atStart => exact ⟨0, Nat.zero_le _, rfl, Below.refl _ _, Lib.hid (by rw [List.drop_zero])⟩
  case round =>
    obtain ⟨j, hj, rfl, hbl, hX⟩ := hrel
    by_cases hlt : j < L.length
    · have i3 : (j : Int) < (L.length : Int) := by omega
      have i0 : (0 : Int) ≤ (j : Int) := by omega
      obtain ⟨bk, off, rfl, hbk, d0, d1, hIr⟩ := (HI.out.go hbl).at hlt
      have hst := rusE_step (l := L.map rm) (k := j) (by omega) hX.out
      have hrk : (L.map rm)[j]'(by omega) = rm L[j] := List.getElem_map ..
      rw [hrk] at hst
      obtain ⟨⟨id, A1, c1, es⟩, hr⟩ : ∃ r, L[j] = r := ⟨_, rfl⟩
      rw [hr] at d0 d1 hIr hst
      simp only at d0 d1
      rcases hxy : ruE (rm (id, A1, c1, es)) with ⟨x, y⟩
      rw [hxy] at hst
      have HC := Lib.hid (one_ (id, A1, c1, es) wr hIr (x, y) (Lib.hid hxy))
      by_cases hy : y = 0
      · subst hy
        rw [if_neg (by simp)] at hst
        have HX2 := Lib.hid hst
        clear hst hrk hr hIr hX hxy
        go_wp2_with fail
        (with_reducible refine (HC.out).mono ?_); rintro e' w3 ⟨rfl, hb3⟩
        have hb4 := bt hbl hb3
        clear hb3 d0 d1
        go_wp2
        go_roundw
        case rel => exact ⟨j + 1, by omega, by go_num, hb4, HX2⟩
        case measure => (simp [intOf]) <;> omega
      · rw [if_pos (by simpa using hy)] at hst
        have hp2 := HP.out
        rw [hst] at hp2
        simp only [Prod.mk.injEq] at hp2
        obtain ⟨_, hi, hk, he⟩ := hp2
        have e1 : (y != 0) = true := by simpa using hy
        subst hi hk he
        clear hst hrk hr hIr hX hxy hy HP
        go_wp2_with fail
        (with_reducible refine (HC.out).mono ?_); rintro e' w3 ⟨rfl, hb3⟩
        have hb4 := bt hbl hb3
        clear hb3 d0 d1
        go_wp2
        exact bodyPost_ret (v := .tuple #[.int .i64 (j : Int), .int .i64 x, .int .i64 y]) (by simp [results, go_sem]) rfl ⟨rfl, hb4⟩
    · obtain rfl : j = L.length := by omega
      have i3 : ¬ ((L.length : Int) < (L.length : Int)) := by omega
      have hn : rusE (L.map rm) 0 = none := by rw [hX.out, List.drop_of_length_le (by omega)]; rfl
      have hok : ∀ r ∈ L, (ruE (rm r)).2 = 0 := fun r hr => rusE_none hn _ (List.mem_map.2 ⟨r, hr, rfl⟩)
      obtain ⟨T, hT⟩ : ∃ T, txR (L.map rm) = T := ⟨_, rfl⟩
      have HTx := Lib.hid (rtext_ L wr A c (HI.out.go hbl) (by omega) hok T (Lib.hid hT))
      have hp2 := HP.out
      rw [hn] at hp2
      simp only at hp2
      rw [hT] at hp2
      have hts : (⟨T.toArray⟩ : ByteArray).size = T.length := by show T.toArray.size = _; simp
      by_cases h4 : 4000 < T.length
      · rw [if_pos h4] at hp2
        simp only [Prod.mk.injEq] at hp2
        obtain ⟨_, hi, hk, he⟩ := hp2
        have i4 : (4000 : Int) < ((⟨T.toArray⟩ : ByteArray).size : Int) := by omega
        subst hi hk he
        generalize (⟨T.toArray⟩ : ByteArray) = TB at *
        clear hX hn hok hT h4 HP hts
        go_wp2_with fail
        (with_reducible refine (HTx.out).mono ?_); rintro e' w3 ⟨rfl, hb3⟩
        have hb4 := bt hbl hb3
        clear hb3
        go_wp2
        exact bodyPost_ret (v := .tuple #[.int .i64 0, .int .i64 0, .int .i64 3]) (by simp [results, go_sem]) rfl ⟨rfl, hb4⟩
      · rw [if_neg h4] at hp2
        simp only [Prod.mk.injEq] at hp2
        obtain ⟨_, hi, hk, he⟩ := hp2
        have i4 : ¬ ((4000 : Int) < ((⟨T.toArray⟩ : ByteArray).size : Int)) := by omega
        subst hi hk he
        generalize (⟨T.toArray⟩ : ByteArray) = TB at *
        clear hX hn hok hT h4 HP hts
        go_wp2_with fail
        (with_reducible refine (HTx.out).mono ?_); rintro e' w3 ⟨rfl, hb3⟩
        have hb4 := bt hbl hb3
        clear hb3
        go_wp2
        exact bodyPost_ret (v := .tuple #[.int .i64 0, .int .i64 0, .int .i64 0]) (by simp [results, go_sem]) rfl ⟨rfl, hb4⟩
end Go.Proofs.YtcopnpllaoahaaaGreatDoor
namespace Go.Proofs.YtcopnpllaoahaaaGreatDoor
open Go.RowKit
set_option maxRecDepth 100000 in
set_option maxHeartbeats 4000000 in
theorem rprint_ (L : List Rm) (w : World) (A : Option Addr) (c : Nat) (hI : IsRus w A L) (t : List UInt8) (i : Nat) (k e : Int) (hp : Hid (prA (L.map rm) = (t, i, k, e))) :
    Calls Tryz.prog 16 #[.slice A L.length c] w fun e' w' => e' = .returned (.tuple #[.string ⟨t.toArray⟩, .int .i64 e]) ∧ Below w.heap.size w w' := by
  have HA := Lib.hid (rcheck_ L w A c hI t i k e hp)
  have HI := Lib.hid hI
  by_cases he : e = 0
  · subst he
    obtain ⟨_, _, h3, h4, h5, _⟩ := parse_print hp.out
    have hL : L.length ≤ 64 := by rw [List.length_map] at h4; exact h4
    have HT := Lib.hid (fun W (hW : Below w.heap.size w W) => rtext_ L W A c (HI.out.go hW) hL (fun r hr => h5 _ (List.mem_map.2 ⟨r, hr, rfl⟩)) t (Lib.hid h3.symm))
    clear h3 h4 h5 hp hI
    go_enter Tryz.func16, Tryz.ntmps16
    go_wp2_with fail
    (with_reducible refine (HA.out).mono ?_); rintro e' w1 ⟨rfl, hb1⟩
    go_wp2_with fail
    (with_reducible refine (HT.out _ hb1).mono ?_); rintro e' w2 ⟨rfl, hb2⟩
    have hb3 := bt hb1 hb2
    clear hb1 hb2
    go_wp2
    exact bodyPost_ret (v := .tuple #[.string ⟨t.toArray⟩, .int .i64 0]) (by simp [results, go_sem]) rfl ⟨rfl, hb3⟩
  · have e1 : (e != 0) = true := by simpa using he
    have ht : t = [] := by
      have h := hp.out
      unfold prA at h
      split at h
      · exact (Prod.mk.inj h).1.symm
      · split at h
        · exact (Prod.mk.inj h).1.symm
        · split at h
          · exact (Prod.mk.inj h).1.symm
          · exact absurd (Prod.mk.inj (Prod.mk.inj (Prod.mk.inj h).2).2).2.symm he
    subst ht
    clear he hp hI
    go_enter Tryz.func16, Tryz.ntmps16
    go_wp2_with fail
    (with_reducible refine (HA.out).mono ?_); rintro e' w1 ⟨rfl, hb1⟩
    go_wp2
    exact bodyPost_ret (v := .tuple #[.string ⟨#[]⟩, .int .i64 e]) (by simp [results, go_sem]) rfl ⟨rfl, hb1⟩
set_option maxRecDepth 100000 in
set_option maxHeartbeats 4000000 in
theorem rtoks_ (r : Rm) (w : World) (hI : IsRu w r) (t : List UInt8) (i : Nat) (k e : Int) (hp : Hid (prA [rm r] = (t, i, k, e))) :
    Calls Tryz.prog 18 #[ruV r] w (RetTe w (tkR (rm r) e) e) := by
  have hB := ba (ba (Below.refl w.heap.size w) (bxO r.1 r.2.1 r.2.2.2.length r.2.2.1)) (bxO r.1 r.2.1 r.2.2.2.length r.2.2.1)
  have hI2 : IsRu ((w.alloc (bxO r.1 r.2.1 r.2.2.2.length r.2.2.1)).alloc (bxO r.1 r.2.1 r.2.2.2.length r.2.2.1)) r := hI.go hB
  have hI3 := is_one (alloc2_new w (bxO r.1 r.2.1 r.2.2.2.length r.2.2.1) (bxO r.1 r.2.1 r.2.2.2.length r.2.2.1)) hI2
  have hA := rcheck_ [r] _ _ 1 hI3 t i k e hp
  rw [List.length_singleton] at hA
  have HA := Lib.hid hA
  have hF0 : Fr w [(w.heap.size, bxO r.1 r.2.1 r.2.2.2.length r.2.2.1)] ((w.alloc (bxO r.1 r.2.1 r.2.2.2.length r.2.2.1)).alloc (bxO r.1 r.2.1 r.2.2.2.length r.2.2.1)) := ((Fr.start w).new _).al _
  have HF0 := Lib.hid hF0
  have HI := Lib.hid hI
  obtain ⟨id, A, c, es⟩ := r
  by_cases he : e = 0
  · subst he
    have hok := ruE_ok (prA_one hp.out)
    have hE := hok.2.2.2.1
    have h64 := hok.2.2.1
    have HL := Lib.hid (fun (W : World) (hW : IsRu W (id, A, c, es)) => (show Calls Tryz.prog 29 #[.agg #[.int .i64 id, .slice A es.length c]] W (RetTs W (ruT (id, es))) from rtokens_ (id, A, c, es) W hW hE h64))
    have HT := Lib.hid (show tkR (rm (id, A, c, es)) 0 = ruT (id, es) from if_pos rfl)
    clear hA hB hI2 hI3 hF0 hI hp hok hE h64
    go_enter Tryz.func18, Tryz.ntmps18
    go_wp2_with fail
    (with_reducible refine (HA.out).mono ?_); rintro e' w1 ⟨rfl, hb1⟩
    have hF1 := HF0.out.go hb1
    obtain ⟨⟨b0, b1⟩, _, l1⟩ := bx2 (hF1.at (g := w.heap.size) (o := bxO id A es.length c) List.mem_cons_self)
    have HF1 := Lib.hid hF1
    clear hF1 hb1
    go_wp2_with fail
    (with_reducible refine (HL.out _ (HI.out.go HF1.out.bel)).mono ?_); rintro e' w3 ⟨A5, c5, rfl, hb3, ho3⟩
    obtain ⟨_, _, e5, hr5, h1, h2⟩ := own_sl ho3
    cases e5
    have HB3 := Lib.hid (bt HF1.out.bel hb3)
    have HR5 := Lib.hid hr5
    clear hb3 ho3 hr5 b0 b1 l1
    go_wp2
    refine bodyPost_ret (v := .tuple #[.slice A5 (ruT (id, es)).length c5, .int .i64 0]) (by simp [results, go_sem]) rfl ?_
    rw [HT.out]
    exact ⟨A5, c5, rfl, HB3.out, HR5.out, h1, h2⟩
  · have e1 : (e != 0) = true := by simpa using he
    have HT := Lib.hid (show tkR (rm (id, A, c, es)) e = [] from if_neg he)
    clear hA hB hI2 hI3 hF0 hI hp he
    go_enter Tryz.func18, Tryz.ntmps18
    go_wp2_with fail
    (with_reducible refine (HA.out).mono ?_); rintro e' w1 ⟨rfl, hb1⟩
    have HB1 := Lib.hid (bt HF0.out.bel hb1)
    clear hb1
    go_wp2
    refine bodyPost_ret (v := .tuple #[.slice none 0 0, .int .i64 e]) (by simp [results, go_sem]) rfl ?_
    rw [HT.out]
    exact ⟨none, 0, rfl, HB1.out, Reads.none_, Nat.le_refl _, by omega⟩
/-- what Far answers -/
def FarS (w : World) (e : Ending) (w' : World) : Prop := ∃ b, e = .returned (.bool b) ∧ Below w.heap.size w w'
set_option maxRecDepth 100000 in
set_option maxHeartbeats 8000000 in
theorem sfar_ (L : List Rm) (w : World) (A : Option Addr) (c : Nat) (hI : IsRus w A L) (hS : ∀ r ∈ L, ∀ x ∈ r.2.2.2, x.2.1.size ≤ 140737488351232) :
    Calls Tryz.prog 13 #[.slice A L.length c] w (FarS w) := by
  have HI := Lib.hid hI
  have HS := Lib.hid hS
  clear hI hS
  by_cases h70 : 70 < L.length
  · have i1 : (70 : Int) < (L.length : Int) := by omega
    go_enter Tryz.func13, Tryz.ntmps13
    go_wp2
    go_ret
    exact ⟨true, rfl, Below.refl _ _⟩
  have i1 : ¬ ((70 : Int) < (L.length : Int)) := by omega
  go_enter Tryz.func13, Tryz.ntmps13
  go_wp2
  go_loopw [3, 4, 5] (fun mv nv u wr => ∃ k m n : Nat, k ≤ L.length ∧ u = .int .i64 (k : Int) ∧ mv = .int .i64 (m : Int) ∧ nv = .int .i64 (n : Int) ∧ m ≤ 200 ∧ n ≤ m * 140737488351232 ∧ wr = w) (fun _ _ u _ => L.length - (intOf u).toNat)
  case atStart => exact ⟨0, 0, 0, Nat.zero_le _, rfl, rfl, rfl, by omega, by omega, rfl⟩
  case round =>
    obtain ⟨k, m, n, hk, rfl, rfl, rfl, hm, hn, hw⟩ := hrel
    subst hw
    by_cases hlt : k < L.length
    case neg =>
      have i2 : ¬ ((k : Int) < (L.length : Int)) := by omega
      go_wp2
      go_ret
      exact ⟨_, rfl, Below.refl _ _⟩
    have i2 : (k : Int) < (L.length : Int) := by omega
    have i0 : (0 : Int) ≤ (k : Int) := by omega
    obtain ⟨bk, off, rfl, hbk, d0, d1, hIr⟩ := HI.out.at hlt
    have hSr := HS.out _ (List.getElem_mem hlt)
    obtain ⟨⟨id, A1, c1, es⟩, hr⟩ : ∃ r, L[k] = r := ⟨_, rfl⟩
    rw [hr] at d0 d1 hIr hSr
    simp only at d0 d1
    have hRd : Reads wr wr.heap.size 8 A1 es.length (els es) := hIr.rd
    have hSr : ∀ x ∈ es, x.2.1.size ≤ 140737488351232 := hSr
    by_cases h7 : 70 < es.length
    · have i3 : (70 : Int) < (es.length : Int) := by omega
      clear hr hIr hSr hRd
      go_wp2
      go_ret
      exact ⟨true, rfl, Below.refl _ _⟩
    have i3 : ¬ ((70 : Int) < (es.length : Int)) := by omega
    by_cases h2 : 200 < m + es.length
    · have i4 : (200 : Int) < (m : Int) + (es.length : Int) := by omega
      clear hr hIr hSr hRd
      go_wp2
      go_ret
      exact ⟨true, rfl, Below.refl _ _⟩
    have i4 : ¬ ((200 : Int) < (m : Int) + (es.length : Int)) := by omega
    have HR := Lib.hid hRd
    have HX := Lib.hid hSr
    clear hr hIr hRd hSr
    go_wp2
    go_loopw [4, 6] (fun nv u wr2 => ∃ j t : Nat, j ≤ es.length ∧ u = .int .i64 (j : Int) ∧ nv = .int .i64 (t : Int) ∧ t ≤ (m + j) * 140737488351232 ∧ wr2 = wr) (fun _ u _ => es.length - (intOf u).toNat)
    case atStart => exact ⟨0, n, Nat.zero_le _, rfl, rfl, by omega, rfl⟩
    case round =>
      obtain ⟨j, t, hj, rfl, rfl, ht, hw⟩ := hrel
      subst hw
      by_cases hjl : j < es.length
      case neg =>
        obtain rfl : j = es.length := by omega
        have i5 : ¬ ((es.length : Int) < (es.length : Int)) := by omega
        go_wp2
        go_roundw
        case rel => exact ⟨k + 1, m + es.length, t, by omega, by go_num, by go_num, rfl, by omega, ht, trivial⟩
        case measure => (simp [intOf]) <;> omega
      have i5 : (j : Int) < (es.length : Int) := by omega
      have i6 : (0 : Int) ≤ (j : Int) := by omega
      obtain ⟨be, oe, rfl, hbe, _, x1, _⟩ := HR.out.at8 rfl hjl
      have hz := HX.out es[j] (List.getElem_mem hjl)
      generalize es[j].2.1 = T at *
      have hn1 : (t : Int) + (T.size : Int) ≤ 9223372036854775807 := by omega
      go_wp2
      go_roundw
      case rel => exact ⟨j + 1, t + T.size, by omega, by go_num, by go_num, by omega, trivial⟩
      case measure => (simp [intOf]) <;> omega
end Go.Proofs.YtcopnpllaoahaaaGreatDoor
