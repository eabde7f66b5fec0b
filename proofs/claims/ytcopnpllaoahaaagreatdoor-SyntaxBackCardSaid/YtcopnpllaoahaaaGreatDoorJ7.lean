/- Lexer: Check of the program. No condition. -/
import Derived.Test.YtcopnpllaoahaaaGreatDoorJ4
namespace Go.Proofs.YtcopnpllaoahaaaGreatDoor
open Go.RowKit
theorem chk_of {K N : Int} {S : ByteArray} {f : Nat → Bool} {q : Bool} (hk : 1 ≤ K ∧ K ≤ 6) (hq : q = true ↔ ¬ ((K ≠ 3 ∧ N ≠ 0) ∨ (K ≠ 4 ∧ K ≠ 5 ∧ S ≠ ⟨#[]⟩) ∨ (K ≠ 6 ∧ sQ f (fun _ => false) = false))) :
    ckT K N S f = if q = false then 2 else if N < 0 ∨ 999999999 < N then 7 else if 2000 < S.size then 3 else 0 := by
  unfold ckT
  by_cases h : q = true
  · have h2 := hq.1 h
    rw [if_neg (by rintro (h3 | h3 | h3); · omega
                   · omega
                   · exact h2 h3), h]
    exact (if_neg (by decide)).symm
  · have h2 : ¬¬ _ := fun h3 => h (hq.2 h3)
    have h4 := Decidable.not_not.1 h2
    rw [if_pos (.inr (.inr h4)), if_pos (by simpa using h)]
set_option maxRecDepth 100000 in
set_option maxHeartbeats 8000000 in
theorem chk_ (K F T N : Int) (S : ByteArray) (f : Nat → Bool) (c : Int) (hc : Hid (ckT K N S f = c)) (w : World) :
    Calls Tryz.prog 30 #[tkV K F T N S f] w fun e w' => e = .returned (.int .i64 c) ∧ Below w.heap.size w w' := by
  have hs0 : S = ⟨#[]⟩ ∨ S ≠ ⟨#[]⟩ := Decidable.em _
  have hB0 : ∀ a b : Obj, Below w.heap.size w ((w.alloc a).alloc b) := fun a b => ba (ba (Below.refl _ _) _) _
  have HB0 := Lib.hid hB0
  clear hB0 hs0
  have hno := i4_no
  by_cases h1 : K = 1
  · subst h1
    rcases hq : tkQ (1, F, T, N, S, ((wK f 0 : Nat) : Int), ((wK f 1 : Nat) : Int), ((wK f 2 : Nat) : Int), ((wK f 3 : Nat) : Int)) (1, F, T, 0, ⟨#[]⟩, 0, 0, 0, 0) with _ | _
    all_goals
      have hck := chk_of (K := 1) (N := N) (S := S) (f := f) (q := tkQ (1, F, T, N, S, ((wK f 0 : Nat) : Int), ((wK f 1 : Nat) : Int), ((wK f 2 : Nat) : Int), ((wK f 3 : Nat) : Int)) (1, F, T, 0, ⟨#[]⟩, 0, 0, 0, 0)) (by omega) (by
        rw [tkQ_iff]
        have hst := stQ_sets f (fun _ => false)
        rw [hno] at hst
        unfold stQ at hst
        rw [← hst]
        simp
        try omega)
      rw [hq, hc.out] at hck
      clear hno
    · have HC := Lib.hid (show 2 = c by rw [hck]; rfl)
      clear hck hc
      go_enter Tryz.func30, Tryz.ntmps30
      go_wp2
      go_ret
      exact ⟨ret_int (by rw [HC.out]), HB0.out _ _⟩
    · rw [if_neg (by decide)] at hck
      by_cases hn : N < 0
      · have HC := Lib.hid (show 7 = c by rw [hck, if_pos (.inl hn)])
        clear hck hc
        go_enter Tryz.func30, Tryz.ntmps30
        go_wp2
        go_ret
        exact ⟨ret_int (by rw [HC.out]), HB0.out _ _⟩
      by_cases hn2 : 999999999 < N
      · have HC := Lib.hid (show 7 = c by rw [hck, if_pos (.inr hn2)])
        clear hck hc
        go_enter Tryz.func30, Tryz.ntmps30
        go_wp2
        go_ret
        exact ⟨ret_int (by rw [HC.out]), HB0.out _ _⟩
      rw [if_neg (by rintro (h | h) <;> omega)] at hck
      by_cases hs : 2000 < S.size
      · have HC := Lib.hid (show 3 = c by rw [hck, if_pos hs])
        have i1 : (2000 : Int) < (S.size : Int) := by omega
        clear hck hc hs
        go_enter Tryz.func30, Tryz.ntmps30
        go_wp2
        go_ret
        exact ⟨ret_int (by rw [HC.out]), HB0.out _ _⟩
      · have HC := Lib.hid (show 0 = c by rw [hck, if_neg hs])
        have i1 : ¬ ((2000 : Int) < (S.size : Int)) := by omega
        clear hck hc hs
        go_enter Tryz.func30, Tryz.ntmps30
        go_wp2
        go_ret
        exact ⟨ret_int (by rw [HC.out]), HB0.out _ _⟩
  by_cases h2 : K = 2
  · subst h2
    rcases hq : tkQ (2, F, T, N, S, ((wK f 0 : Nat) : Int), ((wK f 1 : Nat) : Int), ((wK f 2 : Nat) : Int), ((wK f 3 : Nat) : Int)) (2, F, T, 0, ⟨#[]⟩, 0, 0, 0, 0) with _ | _
    all_goals
      have hck := chk_of (K := 2) (N := N) (S := S) (f := f) (q := tkQ (2, F, T, N, S, ((wK f 0 : Nat) : Int), ((wK f 1 : Nat) : Int), ((wK f 2 : Nat) : Int), ((wK f 3 : Nat) : Int)) (2, F, T, 0, ⟨#[]⟩, 0, 0, 0, 0)) (by omega) (by
        rw [tkQ_iff]
        have hst := stQ_sets f (fun _ => false)
        rw [hno] at hst
        unfold stQ at hst
        rw [← hst]
        simp
        try omega)
      rw [hq, hc.out] at hck
      clear hno
    · have HC := Lib.hid (show 2 = c by rw [hck]; rfl)
      clear hck hc
      go_enter Tryz.func30, Tryz.ntmps30
      go_wp2
      go_ret
      exact ⟨ret_int (by rw [HC.out]), HB0.out _ _⟩
    · rw [if_neg (by decide)] at hck
      by_cases hn : N < 0
      · have HC := Lib.hid (show 7 = c by rw [hck, if_pos (.inl hn)])
        clear hck hc
        go_enter Tryz.func30, Tryz.ntmps30
        go_wp2
        go_ret
        exact ⟨ret_int (by rw [HC.out]), HB0.out _ _⟩
      by_cases hn2 : 999999999 < N
      · have HC := Lib.hid (show 7 = c by rw [hck, if_pos (.inr hn2)])
        clear hck hc
        go_enter Tryz.func30, Tryz.ntmps30
        go_wp2
        go_ret
        exact ⟨ret_int (by rw [HC.out]), HB0.out _ _⟩
      rw [if_neg (by rintro (h | h) <;> omega)] at hck
      by_cases hs : 2000 < S.size
      · have HC := Lib.hid (show 3 = c by rw [hck, if_pos hs])
        have i1 : (2000 : Int) < (S.size : Int) := by omega
        clear hck hc hs
        go_enter Tryz.func30, Tryz.ntmps30
        go_wp2
        go_ret
        exact ⟨ret_int (by rw [HC.out]), HB0.out _ _⟩
      · have HC := Lib.hid (show 0 = c by rw [hck, if_neg hs])
        have i1 : ¬ ((2000 : Int) < (S.size : Int)) := by omega
        clear hck hc hs
        go_enter Tryz.func30, Tryz.ntmps30
        go_wp2
        go_ret
        exact ⟨ret_int (by rw [HC.out]), HB0.out _ _⟩
  by_cases h3 : K = 3
  · subst h3
    rcases hq : tkQ (3, F, T, N, S, ((wK f 0 : Nat) : Int), ((wK f 1 : Nat) : Int), ((wK f 2 : Nat) : Int), ((wK f 3 : Nat) : Int)) (3, F, T, N, ⟨#[]⟩, 0, 0, 0, 0) with _ | _
    all_goals
      have hck := chk_of (K := 3) (N := N) (S := S) (f := f) (q := tkQ (3, F, T, N, S, ((wK f 0 : Nat) : Int), ((wK f 1 : Nat) : Int), ((wK f 2 : Nat) : Int), ((wK f 3 : Nat) : Int)) (3, F, T, N, ⟨#[]⟩, 0, 0, 0, 0)) (by omega) (by
        rw [tkQ_iff]
        have hst := stQ_sets f (fun _ => false)
        rw [hno] at hst
        unfold stQ at hst
        rw [← hst]
        simp
        try omega)
      rw [hq, hc.out] at hck
      clear hno
    · have HC := Lib.hid (show 2 = c by rw [hck]; rfl)
      clear hck hc
      go_enter Tryz.func30, Tryz.ntmps30
      go_wp2
      go_ret
      exact ⟨ret_int (by rw [HC.out]), HB0.out _ _⟩
    · rw [if_neg (by decide)] at hck
      by_cases hn : N < 0
      · have HC := Lib.hid (show 7 = c by rw [hck, if_pos (.inl hn)])
        clear hck hc
        go_enter Tryz.func30, Tryz.ntmps30
        go_wp2
        go_ret
        exact ⟨ret_int (by rw [HC.out]), HB0.out _ _⟩
      by_cases hn2 : 999999999 < N
      · have HC := Lib.hid (show 7 = c by rw [hck, if_pos (.inr hn2)])
        clear hck hc
        go_enter Tryz.func30, Tryz.ntmps30
        go_wp2
        go_ret
        exact ⟨ret_int (by rw [HC.out]), HB0.out _ _⟩
      rw [if_neg (by rintro (h | h) <;> omega)] at hck
      by_cases hs : 2000 < S.size
      · have HC := Lib.hid (show 3 = c by rw [hck, if_pos hs])
        have i1 : (2000 : Int) < (S.size : Int) := by omega
        clear hck hc hs
        go_enter Tryz.func30, Tryz.ntmps30
        go_wp2
        go_ret
        exact ⟨ret_int (by rw [HC.out]), HB0.out _ _⟩
      · have HC := Lib.hid (show 0 = c by rw [hck, if_neg hs])
        have i1 : ¬ ((2000 : Int) < (S.size : Int)) := by omega
        clear hck hc hs
        go_enter Tryz.func30, Tryz.ntmps30
        go_wp2
        go_ret
        exact ⟨ret_int (by rw [HC.out]), HB0.out _ _⟩
  by_cases h4 : K = 4
  · subst h4
    rcases hq : tkQ (4, F, T, N, S, ((wK f 0 : Nat) : Int), ((wK f 1 : Nat) : Int), ((wK f 2 : Nat) : Int), ((wK f 3 : Nat) : Int)) (4, F, T, 0, S, 0, 0, 0, 0) with _ | _
    all_goals
      have hck := chk_of (K := 4) (N := N) (S := S) (f := f) (q := tkQ (4, F, T, N, S, ((wK f 0 : Nat) : Int), ((wK f 1 : Nat) : Int), ((wK f 2 : Nat) : Int), ((wK f 3 : Nat) : Int)) (4, F, T, 0, S, 0, 0, 0, 0)) (by omega) (by
        rw [tkQ_iff]
        have hst := stQ_sets f (fun _ => false)
        rw [hno] at hst
        unfold stQ at hst
        rw [← hst]
        simp
        try omega)
      rw [hq, hc.out] at hck
      clear hno
    · have HC := Lib.hid (show 2 = c by rw [hck]; rfl)
      clear hck hc
      go_enter Tryz.func30, Tryz.ntmps30
      go_wp2
      go_ret
      exact ⟨ret_int (by rw [HC.out]), HB0.out _ _⟩
    · rw [if_neg (by decide)] at hck
      by_cases hn : N < 0
      · have HC := Lib.hid (show 7 = c by rw [hck, if_pos (.inl hn)])
        clear hck hc
        go_enter Tryz.func30, Tryz.ntmps30
        go_wp2
        go_ret
        exact ⟨ret_int (by rw [HC.out]), HB0.out _ _⟩
      by_cases hn2 : 999999999 < N
      · have HC := Lib.hid (show 7 = c by rw [hck, if_pos (.inr hn2)])
        clear hck hc
        go_enter Tryz.func30, Tryz.ntmps30
        go_wp2
        go_ret
        exact ⟨ret_int (by rw [HC.out]), HB0.out _ _⟩
      rw [if_neg (by rintro (h | h) <;> omega)] at hck
      by_cases hs : 2000 < S.size
      · have HC := Lib.hid (show 3 = c by rw [hck, if_pos hs])
        have i1 : (2000 : Int) < (S.size : Int) := by omega
        clear hck hc hs
        go_enter Tryz.func30, Tryz.ntmps30
        go_wp2
        go_ret
        exact ⟨ret_int (by rw [HC.out]), HB0.out _ _⟩
      · have HC := Lib.hid (show 0 = c by rw [hck, if_neg hs])
        have i1 : ¬ ((2000 : Int) < (S.size : Int)) := by omega
        clear hck hc hs
        go_enter Tryz.func30, Tryz.ntmps30
        go_wp2
        go_ret
        exact ⟨ret_int (by rw [HC.out]), HB0.out _ _⟩
  by_cases h5 : K = 5
  · subst h5
    rcases hq : tkQ (5, F, T, N, S, ((wK f 0 : Nat) : Int), ((wK f 1 : Nat) : Int), ((wK f 2 : Nat) : Int), ((wK f 3 : Nat) : Int)) (5, F, T, 0, S, 0, 0, 0, 0) with _ | _
    all_goals
      have hck := chk_of (K := 5) (N := N) (S := S) (f := f) (q := tkQ (5, F, T, N, S, ((wK f 0 : Nat) : Int), ((wK f 1 : Nat) : Int), ((wK f 2 : Nat) : Int), ((wK f 3 : Nat) : Int)) (5, F, T, 0, S, 0, 0, 0, 0)) (by omega) (by
        rw [tkQ_iff]
        have hst := stQ_sets f (fun _ => false)
        rw [hno] at hst
        unfold stQ at hst
        rw [← hst]
        simp
        try omega)
      rw [hq, hc.out] at hck
      clear hno
    · have HC := Lib.hid (show 2 = c by rw [hck]; rfl)
      clear hck hc
      go_enter Tryz.func30, Tryz.ntmps30
      go_wp2
      go_ret
      exact ⟨ret_int (by rw [HC.out]), HB0.out _ _⟩
    · rw [if_neg (by decide)] at hck
      by_cases hn : N < 0
      · have HC := Lib.hid (show 7 = c by rw [hck, if_pos (.inl hn)])
        clear hck hc
        go_enter Tryz.func30, Tryz.ntmps30
        go_wp2
        go_ret
        exact ⟨ret_int (by rw [HC.out]), HB0.out _ _⟩
      by_cases hn2 : 999999999 < N
      · have HC := Lib.hid (show 7 = c by rw [hck, if_pos (.inr hn2)])
        clear hck hc
        go_enter Tryz.func30, Tryz.ntmps30
        go_wp2
        go_ret
        exact ⟨ret_int (by rw [HC.out]), HB0.out _ _⟩
      rw [if_neg (by rintro (h | h) <;> omega)] at hck
      by_cases hs : 2000 < S.size
      · have HC := Lib.hid (show 3 = c by rw [hck, if_pos hs])
        have i1 : (2000 : Int) < (S.size : Int) := by omega
        clear hck hc hs
        go_enter Tryz.func30, Tryz.ntmps30
        go_wp2
        go_ret
        exact ⟨ret_int (by rw [HC.out]), HB0.out _ _⟩
      · have HC := Lib.hid (show 0 = c by rw [hck, if_neg hs])
        have i1 : ¬ ((2000 : Int) < (S.size : Int)) := by omega
        clear hck hc hs
        go_enter Tryz.func30, Tryz.ntmps30
        go_wp2
        go_ret
        exact ⟨ret_int (by rw [HC.out]), HB0.out _ _⟩
  by_cases h6 : K = 6
  · subst h6
    rcases hq : tkQ (6, F, T, N, S, ((wK f 0 : Nat) : Int), ((wK f 1 : Nat) : Int), ((wK f 2 : Nat) : Int), ((wK f 3 : Nat) : Int)) (6, F, T, 0, ⟨#[]⟩, ((wK f 0 : Nat) : Int), ((wK f 1 : Nat) : Int), ((wK f 2 : Nat) : Int), ((wK f 3 : Nat) : Int)) with _ | _
    all_goals
      have hck := chk_of (K := 6) (N := N) (S := S) (f := f) (q := tkQ (6, F, T, N, S, ((wK f 0 : Nat) : Int), ((wK f 1 : Nat) : Int), ((wK f 2 : Nat) : Int), ((wK f 3 : Nat) : Int)) (6, F, T, 0, ⟨#[]⟩, ((wK f 0 : Nat) : Int), ((wK f 1 : Nat) : Int), ((wK f 2 : Nat) : Int), ((wK f 3 : Nat) : Int))) (by omega) (by
        rw [tkQ_iff]
        have hst := stQ_sets f (fun _ => false)
        rw [hno] at hst
        unfold stQ at hst
        rw [← hst]
        simp
        try omega)
      rw [hq, hc.out] at hck
      clear hno
    · have HC := Lib.hid (show 2 = c by rw [hck]; rfl)
      clear hck hc
      go_enter Tryz.func30, Tryz.ntmps30
      go_wp2
      go_ret
      exact ⟨ret_int (by rw [HC.out]), HB0.out _ _⟩
    · rw [if_neg (by decide)] at hck
      by_cases hn : N < 0
      · have HC := Lib.hid (show 7 = c by rw [hck, if_pos (.inl hn)])
        clear hck hc
        go_enter Tryz.func30, Tryz.ntmps30
        go_wp2
        go_ret
        exact ⟨ret_int (by rw [HC.out]), HB0.out _ _⟩
      by_cases hn2 : 999999999 < N
      · have HC := Lib.hid (show 7 = c by rw [hck, if_pos (.inr hn2)])
        clear hck hc
        go_enter Tryz.func30, Tryz.ntmps30
        go_wp2
        go_ret
        exact ⟨ret_int (by rw [HC.out]), HB0.out _ _⟩
      rw [if_neg (by rintro (h | h) <;> omega)] at hck
      by_cases hs : 2000 < S.size
      · have HC := Lib.hid (show 3 = c by rw [hck, if_pos hs])
        have i1 : (2000 : Int) < (S.size : Int) := by omega
        clear hck hc hs
        go_enter Tryz.func30, Tryz.ntmps30
        go_wp2
        go_ret
        exact ⟨ret_int (by rw [HC.out]), HB0.out _ _⟩
      · have HC := Lib.hid (show 0 = c by rw [hck, if_neg hs])
        have i1 : ¬ ((2000 : Int) < (S.size : Int)) := by omega
        clear hck hc hs
        go_enter Tryz.func30, Tryz.ntmps30
        go_wp2
        go_ret
        exact ⟨ret_int (by rw [HC.out]), HB0.out _ _⟩
  have HC := Lib.hid (show 2 = c by rw [← hc.out]; unfold ckT; rw [if_pos (by omega)])
  have m1 : (K == 1) = false := by simpa using h1
  have m2 : (K == 2) = false := by simpa using h2
  have m3 : (K == 3) = false := by simpa using h3
  have m4 : (K == 4) = false := by simpa using h4
  have m5 : (K == 5) = false := by simpa using h5
  have m6 : (K == 6) = false := by simpa using h6
  clear hc hno h1 h2 h3 h4 h5 h6
  go_enter Tryz.func30, Tryz.ntmps30
  go_wp2
  go_ret
  exact ⟨ret_int (by rw [HC.out]), HB0.out _ _⟩
end Go.Proofs.YtcopnpllaoahaaaGreatDoor
