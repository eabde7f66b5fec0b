/- Syntax: elements compared; inside, elemError of the program, number of the reference. No condition. -/
import Derived.Test.YtcopnpllaoahaaaGreatDoorY1
import Derived.Deep.DeepCutAuto
namespace Go.Proofs.YtcopnpllaoahaaaGreatDoor
open Go.RowKit
@[go_sem] theorem eqgEl : Tryz.prog.eqGuardType Tryz.prog.depth 38 = false := by kernel_rfl
/-- two values of elements are one -/
abbrev N8 := Int × ByteArray × Int × Int × Int × Int × Int × Int
def e8Q (x y : N8) : Bool := decide ((x.1, x.2.1) = (y.1, y.2.1)) && decide ((x.2.2.1, x.2.2.2.1, x.2.2.2.2.1, x.2.2.2.2.2.1) = (y.2.2.1, y.2.2.2.1, y.2.2.2.2.1, y.2.2.2.2.2.1)) && decide (x.2.2.2.2.2.2 = y.2.2.2.2.2.2)
theorem eqElD (K K' lo hi lo' hi' : Int) (S S' : ByteArray) (a b c d a' b' c' d' : Int) (w : World) :
    (Op.equalIn 10000 38 (.agg #[.int .i64 K, .string S, .int .u64 a, .int .u64 b, .int .u64 c, .int .u64 d, .int .i64 lo, .int .i64 hi]) (.agg #[.int .i64 K', .string S', .int .u64 a', .int .u64 b', .int .u64 c', .int .u64 d', .int .i64 lo', .int .i64 hi'])).run Tryz.prog w = .ok (decide ((K, S) = (K', S')) && decide ((a, b, c, d) = (a', b', c', d')) && decide ((lo, hi) = (lo', hi'))) w := by
  have u3 := Tryz.underlying3
  have hS : Tryz.prog.underlying 38 = some (.struct (Tryz.prog.fieldsOf 38)) := by kernel_rfl
  have hq := eqStD 9997 a b c d a' b' c' d' w
  have e := bytes_eq S S'
  rw [show (10000 : Nat) = 9999 + 1 from rfl, run_equalIn_agg w 9999 38 _ _ hS (by kernel_rfl)]
  simp only [Program.fieldsOf, Tryz.underlying38]
  go_simp
  by_cases h1 : K = K'
  case neg => simp [h1]
  by_cases h5 : S = S'
  case neg => simp [h5]
  by_cases h6 : a = a' ∧ b = b' ∧ c = c' ∧ d = d'
  · obtain ⟨rfl, rfl, rfl, rfl⟩ := h6
    by_cases h7 : lo = lo' <;> by_cases h8 : hi = hi' <;> simp [h1, h5, h7, h8]
  · have h7 : a = a' → b = b' → c = c' → ¬ d = d' := fun x y z t => h6 ⟨x, y, z, t⟩
    have h8 : decide ((a, b, c, d) = (a', b', c', d')) = false := by
      rw [decide_eq_false_iff_not]
      intro h
      simp only [Prod.mk.injEq] at h
      exact h6 h
    simp only [Prod.mk.injEq] at h8
    have h9 : (decide (a = a') && (decide (b = b') && (decide (c = c') && decide (d = d')))) = false := by
      rw [← h8]; simp only [Bool.decide_and]
    rw [if_pos h1, if_pos h5, if_pos h7, h9]
    simp
@[go_sem high] theorem neqEl (K K' lo hi lo' hi' : Int) (S S' : ByteArray) (a b c d a' b' c' d' : Int) (w : World) :
    (binOp .neq 38 (.agg #[.int .i64 K, .string S, .int .u64 a, .int .u64 b, .int .u64 c, .int .u64 d, .int .i64 lo, .int .i64 hi]) (.agg #[.int .i64 K', .string S', .int .u64 a', .int .u64 b', .int .u64 c', .int .u64 d', .int .i64 lo', .int .i64 hi'])).run Tryz.prog w = .ok (.bool (!(e8Q (K, S, a, b, c, d, lo, hi) (K', S', a', b', c', d', lo', hi')))) w := by
  rw [run_neq_struct, eqElD]; rfl
theorem e8Q_iff {K K' lo hi lo' hi' : Int} {S S' : ByteArray} {a b c d a' b' c' d' : Int} : e8Q (K, S, a, b, c, d, lo, hi) (K', S', a', b', c', d', lo', hi') = true ↔ K = K' ∧ S = S' ∧ (a, b, c, d) = (a', b', c', d') ∧ lo = lo' ∧ hi = hi' := by
  unfold e8Q
  rw [Bool.and_eq_true, Bool.and_eq_true, decide_eq_true_eq, decide_eq_true_eq, decide_eq_true_eq]
  simp only [Prod.mk.injEq, and_assoc]
abbrev elV (K : Int) (S : ByteArray) (f : Nat → Bool) (lo hi : Int) : Value := .agg #[.int .i64 K, .string S, .int .u64 ((wK f 0 : Nat) : Int), .int .u64 ((wK f 1 : Nat) : Int), .int .u64 ((wK f 2 : Nat) : Int), .int .u64 ((wK f 3 : Nat) : Int), .int .i64 lo, .int .i64 hi]
/-- a number may be written -/
def inB (n : Int) : Bool := decide (0 ≤ n ∧ n ≤ 999999999)
theorem inside_ (n : Int) (b : Bool) (hb : Hid (inB n = b)) (w : World) : Calls Tryz.prog 49 #[.int .i64 n] w fun e w' => e = .returned (.bool b) ∧ w' = w := by
  have h := hb.out
  unfold inB at h
  have H := Lib.hid h
  clear h hb
  go_enter Tryz.func49, Tryz.ntmps49
  go_wp2
  all_goals
    go_ret
    refine ⟨ret_bool ?_, rfl⟩
    rw [← H.out, Bool.eq_iff_iff]
    first | (simp; done) | (simp; omega) | (simp_all; done) | (simp_all; omega)
theorem number_ (n : Int) (b : Bool) (hb : Hid (inB n = b)) (w : World) : Calls Tryz.prog 41 #[.int .i64 n] w fun e w' => e = .returned (.bool b) ∧ w' = w := by
  have h := hb.out
  unfold inB at h
  have H := Lib.hid h
  clear h hb
  go_enter Tryz.func41, Tryz.ntmps41
  go_wp2
  all_goals
    go_ret
    refine ⟨ret_bool ?_, rfl⟩
    rw [← H.out, Bool.eq_iff_iff]
    first | (simp; done) | (simp; omega) | (simp_all; done) | (simp_all; omega)
/-! the error of an element, by its kind -/
section
variable {K lo hi : Int} {S : ByteArray} {f : Nat → Bool} {q : Bool}
theorem w4_no : (i4 f = (0, 0, 0, 0)) ↔ sQ f noK = true := by
  rw [← sQ_int f noK, decide_eq_true_eq]
  have e : i4 noK = (0, 0, 0, 0) := i4_no
  constructor
  · intro h; exact h.trans e.symm
  · intro h; exact Eq.trans h e
theorem elE_lit (hk : K = 1 ∨ K = 2) (hq : q = true ↔ sQ f noK = true ∧ lo = 0 ∧ hi = 0) : elE (K, S, f, lo, hi) = if q = false then 2 else if 2000 < S.size then 3 else 0 := by
  unfold elE
  simp only
  rcases Bool.eq_false_or_eq_true q with h | h
  · obtain ⟨h1, rfl, rfl⟩ := hq.1 h
    rw [h, if_neg (show ¬ (true = false) by decide), if_neg (by rw [h1]; rintro (a | a | ⟨a, b, _⟩ | ⟨_, a⟩ | ⟨_, a | a⟩) <;> first | omega | (cases a) | exact a rfl), if_neg (by omega)]
  · have h1 : ¬ (sQ f noK = true ∧ lo = 0 ∧ hi = 0) := fun h2 => by rw [hq.2 h2] at h; cases h
    rw [h, if_pos (show false = false from rfl), if_pos]
    rcases Bool.eq_false_or_eq_true (sQ f noK) with h2 | h2
    · exact .inr (.inr (.inr (.inr ⟨by omega, by
        by_cases h3 : lo = 0
        · exact .inr fun h4 => h1 ⟨h2, h3, h4⟩
        · exact .inl h3⟩)))
    · exact .inr (.inr (.inr (.inl ⟨by omega, h2⟩)))
theorem elE_cls (hq : q = true ↔ S = noB ∧ lo = 0 ∧ hi = 0) : elE (3, S, f, lo, hi) = if q = false then 2 else 0 := by
  unfold elE
  simp only
  rcases Bool.eq_false_or_eq_true q with h | h
  · obtain ⟨rfl, rfl, rfl⟩ := hq.1 h
    rw [h, if_neg (show ¬ (true = false) by decide), if_neg (by rintro (a | a | ⟨_, _, a⟩ | ⟨a, _⟩ | ⟨_, a | a⟩) <;> first | omega | exact a rfl), if_neg (by omega), if_neg (by decide)]
  · have h1 : ¬ (S = noB ∧ lo = 0 ∧ hi = 0) := fun h2 => by rw [hq.2 h2] at h; cases h
    rw [h, if_pos (show false = false from rfl), if_pos]
    by_cases h2 : S = noB
    · exact .inr (.inr (.inr (.inr ⟨by omega, by
        by_cases h3 : lo = 0
        · exact .inr fun h4 => h1 ⟨h2, h3, h4⟩
        · exact .inl h3⟩)))
    · exact .inr (.inr (.inl ⟨by omega, by omega, h2⟩))
theorem elE_gap (hq : q = true ↔ S = noB ∧ sQ f noK = true) : elE (4, S, f, lo, hi) = if q = false then 2 else if inB lo = true then (if inB hi = true then 0 else 7) else 7 := by
  unfold elE inB
  simp only
  rcases Bool.eq_false_or_eq_true q with h | h
  · obtain ⟨rfl, h1⟩ := hq.1 h
    rw [h, if_neg (show ¬ (true = false) by decide), if_neg (by rw [h1]; rintro (a | a | ⟨_, _, a⟩ | ⟨_, a⟩ | ⟨a, _⟩) <;> first | omega | exact a rfl | cases a)]
    by_cases h2 : 0 ≤ lo ∧ lo ≤ 999999999
    · rw [if_pos (decide_eq_true h2)]
      by_cases h3 : 0 ≤ hi ∧ hi ≤ 999999999
      · rw [if_pos (decide_eq_true h3), if_neg (by omega), if_neg (by decide)]
      · rw [decide_eq_false h3, if_neg (show ¬ (false = true) by decide), if_pos (by omega)]
    · rw [decide_eq_false h2, if_neg (show ¬ (false = true) by decide), if_pos (by omega)]
  · have h1 : ¬ (S = noB ∧ sQ f noK = true) := fun h2 => by rw [hq.2 h2] at h; cases h
    rw [h, if_pos (show false = false from rfl), if_pos]
    by_cases h2 : S = noB
    · rcases Bool.eq_false_or_eq_true (sQ f noK) with h3 | h3
      · exact absurd ⟨h2, h3⟩ h1
      · exact .inr (.inr (.inr (.inl ⟨by omega, h3⟩)))
    · exact .inr (.inr (.inl ⟨by omega, by omega, h2⟩))
theorem elE_no (hk : K ≠ 1 ∧ K ≠ 2 ∧ K ≠ 3 ∧ K ≠ 4) : elE (K, S, f, lo, hi) = 2 := by
  unfold elE
  exact if_pos (by omega)
end
set_option maxRecDepth 100000 in
set_option maxHeartbeats 8000000 in
theorem elemError_ (K : Int) (S : ByteArray) (f : Nat → Bool) (lo hi : Int) (c : Int) (hc : Hid (elE (K, S, f, lo, hi) = c)) (w : World) :
    Calls Tryz.prog 50 #[elV K S f lo hi] w fun e w' => e = .returned (.int .i64 c) ∧ Below w.heap.size w w' := by
  have hB0 : ∀ a b : Obj, Below w.heap.size w ((w.alloc a).alloc b) := fun a b => ba (ba (Below.refl _ _) _) _
  have HB0 := Lib.hid hB0
  clear hB0
  have hI0 := Lib.hid (fun W => inside_ 0 true (Lib.hid rfl) W)
  by_cases h1 : K = 1
  · subst h1
    rcases hq : e8Q (1, S, ((wK f 0 : Nat) : Int), ((wK f 1 : Nat) : Int), ((wK f 2 : Nat) : Int), ((wK f 3 : Nat) : Int), lo, hi) (1, S, 0, 0, 0, 0, 0, 0) with _ | _
    all_goals
      have hck := elE_lit (K := 1) (S := S) (f := f) (lo := lo) (hi := hi) (q := e8Q (1, S, ((wK f 0 : Nat) : Int), ((wK f 1 : Nat) : Int), ((wK f 2 : Nat) : Int), ((wK f 3 : Nat) : Int), lo, hi) (1, S, 0, 0, 0, 0, 0, 0)) (.inl rfl) (by
        rw [e8Q_iff, ← w4_no]
        simp)
      rw [hq, hc.out] at hck
    · have HC := Lib.hid (show 2 = c by rw [hck]; rfl)
      clear hck hc
      go_enter Tryz.func50, Tryz.ntmps50
      go_wp2
      go_ret
      exact ⟨ret_int (by rw [HC.out]), HB0.out _ _⟩
    · rw [if_neg (by decide)] at hck
      obtain ⟨_, hS, _, hlo, hhi⟩ := e8Q_iff.1 hq
      subst hlo hhi
      by_cases hs : 2000 < S.size
      · have HC := Lib.hid (show 3 = c by rw [hck, if_pos hs])
        have i1 : (2000 : Int) < (S.size : Int) := by omega
        clear hck hc hs hS
        go_enter Tryz.func50, Tryz.ntmps50
        go_wp2_with fail
        (with_reducible refine (hI0.out _).mono ?_); rintro e w' ⟨rfl, hw'⟩; subst hw'
        go_wp2_with fail
        (with_reducible refine (hI0.out _).mono ?_); rintro e w' ⟨rfl, hw'⟩; subst hw'
        go_wp2
        go_ret
        exact ⟨ret_int (by rw [HC.out]), HB0.out _ _⟩
      · have HC := Lib.hid (show 0 = c by rw [hck, if_neg hs])
        have i1 : ¬ ((2000 : Int) < (S.size : Int)) := by omega
        clear hck hc hs hS
        go_enter Tryz.func50, Tryz.ntmps50
        go_wp2_with fail
        (with_reducible refine (hI0.out _).mono ?_); rintro e w' ⟨rfl, hw'⟩; subst hw'
        go_wp2_with fail
        (with_reducible refine (hI0.out _).mono ?_); rintro e w' ⟨rfl, hw'⟩; subst hw'
        go_wp2
        go_ret
        exact ⟨ret_int (by rw [HC.out]), HB0.out _ _⟩
  by_cases h2 : K = 2
  · subst h2
    rcases hq : e8Q (2, S, ((wK f 0 : Nat) : Int), ((wK f 1 : Nat) : Int), ((wK f 2 : Nat) : Int), ((wK f 3 : Nat) : Int), lo, hi) (2, S, 0, 0, 0, 0, 0, 0) with _ | _
    all_goals
      have hck := elE_lit (K := 2) (S := S) (f := f) (lo := lo) (hi := hi) (q := e8Q (2, S, ((wK f 0 : Nat) : Int), ((wK f 1 : Nat) : Int), ((wK f 2 : Nat) : Int), ((wK f 3 : Nat) : Int), lo, hi) (2, S, 0, 0, 0, 0, 0, 0)) (.inr rfl) (by
        rw [e8Q_iff, ← w4_no]
        simp)
      rw [hq, hc.out] at hck
    · have HC := Lib.hid (show 2 = c by rw [hck]; rfl)
      clear hck hc
      go_enter Tryz.func50, Tryz.ntmps50
      go_wp2
      go_ret
      exact ⟨ret_int (by rw [HC.out]), HB0.out _ _⟩
    · rw [if_neg (by decide)] at hck
      obtain ⟨_, hS, _, hlo, hhi⟩ := e8Q_iff.1 hq
      subst hlo hhi
      by_cases hs : 2000 < S.size
      · have HC := Lib.hid (show 3 = c by rw [hck, if_pos hs])
        have i1 : (2000 : Int) < (S.size : Int) := by omega
        clear hck hc hs hS
        go_enter Tryz.func50, Tryz.ntmps50
        go_wp2_with fail
        (with_reducible refine (hI0.out _).mono ?_); rintro e w' ⟨rfl, hw'⟩; subst hw'
        go_wp2_with fail
        (with_reducible refine (hI0.out _).mono ?_); rintro e w' ⟨rfl, hw'⟩; subst hw'
        go_wp2
        go_ret
        exact ⟨ret_int (by rw [HC.out]), HB0.out _ _⟩
      · have HC := Lib.hid (show 0 = c by rw [hck, if_neg hs])
        have i1 : ¬ ((2000 : Int) < (S.size : Int)) := by omega
        clear hck hc hs hS
        go_enter Tryz.func50, Tryz.ntmps50
        go_wp2_with fail
        (with_reducible refine (hI0.out _).mono ?_); rintro e w' ⟨rfl, hw'⟩; subst hw'
        go_wp2_with fail
        (with_reducible refine (hI0.out _).mono ?_); rintro e w' ⟨rfl, hw'⟩; subst hw'
        go_wp2
        go_ret
        exact ⟨ret_int (by rw [HC.out]), HB0.out _ _⟩
  by_cases h3 : K = 3
  · subst h3
    rcases hq : e8Q (3, S, ((wK f 0 : Nat) : Int), ((wK f 1 : Nat) : Int), ((wK f 2 : Nat) : Int), ((wK f 3 : Nat) : Int), lo, hi) (3, ⟨#[]⟩, ((wK f 0 : Nat) : Int), ((wK f 1 : Nat) : Int), ((wK f 2 : Nat) : Int), ((wK f 3 : Nat) : Int), 0, 0) with _ | _
    all_goals
      have hck := elE_cls (S := S) (f := f) (lo := lo) (hi := hi) (q := e8Q (3, S, ((wK f 0 : Nat) : Int), ((wK f 1 : Nat) : Int), ((wK f 2 : Nat) : Int), ((wK f 3 : Nat) : Int), lo, hi) (3, ⟨#[]⟩, ((wK f 0 : Nat) : Int), ((wK f 1 : Nat) : Int), ((wK f 2 : Nat) : Int), ((wK f 3 : Nat) : Int), 0, 0)) (by
        rw [e8Q_iff]
        simp [noB])
      rw [hq, hc.out] at hck
    · have HC := Lib.hid (show 2 = c by rw [hck]; rfl)
      clear hck hc
      go_enter Tryz.func50, Tryz.ntmps50
      go_wp2
      go_ret
      exact ⟨ret_int (by rw [HC.out]), HB0.out _ _⟩
    · rw [if_neg (by decide)] at hck
      obtain ⟨_, hS, _, hlo, hhi⟩ := e8Q_iff.1 hq
      subst hlo hhi
      have HC := Lib.hid (show 0 = c from hck.symm)
      have i1 : ¬ ((2000 : Int) < (S.size : Int)) := by rw [hS]; decide
      clear hck hc hS
      go_enter Tryz.func50, Tryz.ntmps50
      go_wp2_with fail
      (with_reducible refine (hI0.out _).mono ?_); rintro e w' ⟨rfl, hw'⟩; subst hw'
      go_wp2_with fail
      (with_reducible refine (hI0.out _).mono ?_); rintro e w' ⟨rfl, hw'⟩; subst hw'
      go_wp2
      go_ret
      exact ⟨ret_int (by rw [HC.out]), HB0.out _ _⟩
  by_cases h4 : K = 4
  · subst h4
    rcases hq : e8Q (4, S, ((wK f 0 : Nat) : Int), ((wK f 1 : Nat) : Int), ((wK f 2 : Nat) : Int), ((wK f 3 : Nat) : Int), lo, hi) (4, ⟨#[]⟩, 0, 0, 0, 0, lo, hi) with _ | _
    all_goals
      have hck := elE_gap (S := S) (f := f) (lo := lo) (hi := hi) (q := e8Q (4, S, ((wK f 0 : Nat) : Int), ((wK f 1 : Nat) : Int), ((wK f 2 : Nat) : Int), ((wK f 3 : Nat) : Int), lo, hi) (4, ⟨#[]⟩, 0, 0, 0, 0, lo, hi)) (by
        rw [e8Q_iff, ← w4_no]
        simp [noB])
      rw [hq, hc.out] at hck
    · have HC := Lib.hid (show 2 = c by rw [hck]; rfl)
      clear hck hc
      go_enter Tryz.func50, Tryz.ntmps50
      go_upto_region 10 with fail
      go_region
      go_wp2
      go_ret
      refine ⟨ret_int (by rw [HC.out]), ?_⟩
      repeat' (first | with_reducible exact Below.refl _ _ | with_reducible refine Below.drew ?_ | with_reducible refine bs ?_ ?_ | with_reducible refine ba ?_ _ | (simp only; omega))
    · rw [if_neg (by decide)] at hck
      obtain ⟨_, hS, _, hlo, hhi⟩ := e8Q_iff.1 hq
      have i1 : ¬ ((2000 : Int) < (S.size : Int)) := by rw [hS]; decide
      clear hS hlo hhi
      rcases hl : inB lo with _ | _
      · have HC := Lib.hid (show 7 = c by rw [hck, hl]; rfl)
        have hL := Lib.hid (fun W => inside_ lo false (Lib.hid hl) W)
        clear hck hc hl
        go_enter Tryz.func50, Tryz.ntmps50
        go_upto_region 10 with fail
        go_region
        go_wp2_with fail
        (with_reducible refine (hL.out _).mono ?_); rintro e w' ⟨rfl, hw'⟩; subst hw'
        go_wp2
        go_ret
        refine ⟨ret_int (by rw [HC.out]), ?_⟩
        repeat' (first | with_reducible exact Below.refl _ _ | with_reducible refine Below.drew ?_ | with_reducible refine bs ?_ ?_ | with_reducible refine ba ?_ _ | (simp only; omega))
      have hL := Lib.hid (fun W => inside_ lo true (Lib.hid hl) W)
      rcases hh : inB hi with _ | _
      · have HC := Lib.hid (show 7 = c by rw [hck, hl, hh]; rfl)
        have hG := Lib.hid (fun W => inside_ hi false (Lib.hid hh) W)
        clear hck hc hl hh
        go_enter Tryz.func50, Tryz.ntmps50
        go_upto_region 10 with fail
        go_region
        go_wp2_with fail
        (with_reducible refine (hL.out _).mono ?_); rintro e w' ⟨rfl, hw'⟩; subst hw'
        go_wp2_with fail
        (with_reducible refine (hG.out _).mono ?_); rintro e w' ⟨rfl, hw'⟩; subst hw'
        go_wp2
        go_ret
        refine ⟨ret_int (by rw [HC.out]), ?_⟩
        repeat' (first | with_reducible exact Below.refl _ _ | with_reducible refine Below.drew ?_ | with_reducible refine bs ?_ ?_ | with_reducible refine ba ?_ _ | (simp only; omega))
      · have HC := Lib.hid (show 0 = c by rw [hck, hl, hh]; rfl)
        have hG := Lib.hid (fun W => inside_ hi true (Lib.hid hh) W)
        clear hck hc hl hh
        go_enter Tryz.func50, Tryz.ntmps50
        go_upto_region 10 with fail
        go_region
        go_wp2_with fail
        (with_reducible refine (hL.out _).mono ?_); rintro e w' ⟨rfl, hw'⟩; subst hw'
        go_wp2_with fail
        (with_reducible refine (hG.out _).mono ?_); rintro e w' ⟨rfl, hw'⟩; subst hw'
        go_wp2
        go_ret
        refine ⟨ret_int (by rw [HC.out]), ?_⟩
        repeat' (first | with_reducible exact Below.refl _ _ | with_reducible refine Below.drew ?_ | with_reducible refine bs ?_ ?_ | with_reducible refine ba ?_ _ | (simp only; omega))
  have HC := Lib.hid (show 2 = c by rw [← hc.out, elE_no ⟨h1, h2, h3, h4⟩])
  have m1 : (K == 1) = false := by simpa using h1
  have m2 : (K == 2) = false := by simpa using h2
  have m3 : (K == 3) = false := by simpa using h3
  have m4 : (K == 4) = false := by simpa using h4
  clear hc h1 h2 h3 h4
  go_enter Tryz.func50, Tryz.ntmps50
  go_wp2
  go_ret
  exact ⟨ret_int (by rw [HC.out]), HB0.out _ _⟩
end Go.Proofs.YtcopnpllaoahaaaGreatDoor
