/- TraceFirst: traces that part, case 2. -/
import Derived.Test.YtpgojecldmcopaaDoorF0
import Derived.StillTailTactics
namespace Go.Proofs.YtpgojecldmcopaaDoor
open Go.RowKit
set_option maxRecDepth 100000 in
set_option maxHeartbeats 20000000 in
theorem fst_2 (w : World) (A : Option Addr) (c : Nat) (l : List Ev) (HR : Hid (Reads w w.heap.size 2 A l.length (evs l))) (Hc : Hid (l.length ≤ c)) (A' : Option Addr) (c' : Nat) (m : List Ev) (HR' : Hid (Reads w w.heap.size 2 A' m.length (evs m))) (Hc' : Hid (m.length ≤ c')) (HP : Hid (Pow w))
    (hva : Hid (false = decide (400 < l.length ∧ l.length ≤ 5000 ∨ 5100 < l.length))) (hvb : Hid (false = decide (400 < m.length ∧ m.length ≤ 5000 ∨ 5100 < m.length))) (k : Nat) (hD : Hid (dif l m = (k : Int))) (htk : l.take k = m.take k) (hlm : l ≠ m) (hk1 : k ≤ l.length) (hk2 : k ≤ m.length) (ka : k < l.length) (kb : k < m.length) (kne : l[k]? ≠ m[k]?) :
    Calls Tryd.prog 3 #[.slice A l.length c, .slice A' m.length c'] w fun e w' => e = .returned (.bool true) ∧ Below w.heap.size w w' := by
  have HF0 := Lib.hid (Fr.start w)
  have hl := Lib.hid (far_no hva)
  have hm := Lib.hid (far_no hvb)
  have hself := Lib.hid (show dif l l = -1 from difF_self 0 l)
  have hcom := Lib.hid (show dif m l = dif l m from difF_comm 0 l m)
  have hS := Lib.hid (decide_eq_false hlm)
  obtain ⟨T, hT⟩ : ∃ T, Hid (T = l.take k) := ⟨_, Lib.hid rfl⟩
  have hT' : Hid (T = m.take k) := Lib.hid (by rw [hT.out]; exact htk)
  have hTl : Hid (T.length = k) := Lib.hid (by rw [hT.out, List.length_take]; omega)
  have e0 : (((k : Nat) : Int) == -1) = false := by rw [beq_eq_false_iff_ne]; omega
  have i1 : ¬ ((l.length : Int) < (k : Int)) := by omega
  have i2 : ¬ ((m.length : Int) < (k : Int)) := by omega
  have i1' : ¬ (l.length < k) := by omega
  have i2' : ¬ (m.length < k) := by omega
  have s1 : ∀ W : World, (Instr.sliceAt 22 (.slice A l.length c) none (some (.int .i64 (k : Int))) none).run Tryd.prog W = .ok (.slice A k c) W := fun W => sl_to evEl (by kernel_rfl) A l.length c k k rfl hk1 Hc.out W
  have s2 : ∀ W : World, (Instr.sliceAt 22 (.slice A' m.length c') none (some (.int .i64 (k : Int))) none).run Tryd.prog W = .ok (.slice A' k c') W := fun W => sl_to evEl (by kernel_rfl) A' m.length c' k k rfl hk2 Hc'.out W
  have hsm : Hid (∀ W, FiT w W → Calls Tryd.prog 7 #[.slice A k c, .slice A' k c'] W fun e w' => e = .returned (.bool true) ∧ Below W.heap.size W w') := Lib.hid (by
    intro W hW
    have h1 := (first_ (HR.out.go hW.1) hk1 hT.out).2
    have h2 := (first_ (HR'.out.go hW.1) hk2 hT'.out).2
    have := same_any _ _ _ A A' c c' T T h1 h2 (by have := hTl.out; have := hl.out; omega)
    rw [hTl.out, decide_eq_true (rfl : T = T)] at this
    exact this)
  have e1 : ((k : Int) == (l.length : Int)) = false := by simp; omega
  have e2 : ((k : Int) == (m.length : Int)) = false := by simp; omega
  have j1 : (k : Int) < (l.length : Int) := by omega
  have j2 : (k : Int) < (m.length : Int) := by omega
  have j0 : (0 : Int) ≤ (k : Int) := by omega
  obtain ⟨b, off, K, a, eA, hb, d1, d2, hd⟩ := evAt HR.out ka
  obtain ⟨b', off', K', a', eA', hb', d1', d2', hd'⟩ := evAt HR'.out kb
  subst eA
  subst eA'
  have hne : decide (((K, a) : Ev) = (K', a')) = false := decide_eq_false fun e => kne (by
    rw [List.getElem?_eq_getElem ka, List.getElem?_eq_getElem kb]
    have x1 := hd.out; have x2 := hd'.out
    rw [List.drop_eq_getElem_cons ka] at x1
    rw [List.drop_eq_getElem_cons kb] at x2
    rw [(List.cons.inj x1).1, (List.cons.inj x2).1, e])
  have hne2 : ¬ (K = K' ∧ a = a') := fun e => of_decide_eq_false hne (by rw [e.1, e.2])
  have hne3 : decide (K = K' ∧ a = a') = false := decide_eq_false hne2
  have H4 : Hid (∀ W, FiT w W → Fi4 w b (off + k * 2) b' (off' + k * 2) (.int .i32 K) (.int .i32 a) (.int .i32 K') (.int .i32 a') W) := Lib.hid fun W hW => Fi4.of hW hb hb' d1 d2 d1' d2'
  clear kne hd hd' d1 d2 d1' d2' hb hb' 
  clear htk hlm
  go_enter Tryd.func3, Tryd.ntmps3
  go_wp2_with fail
  (with_reducible refine (far_ _ _ c _ _ hva).mono ?_); rintro e w1 ⟨rfl, hw1⟩; subst w1
  go_wp2_with fail
  (with_reducible refine (far_ _ _ c' _ _ hvb).mono ?_); rintro e w1 ⟨rfl, hw1⟩; subst w1
  go_wp2_with fail
  (with_reducible refine (differ_ _ _ _ _ _ c c' l m (HR.out.go HF0.out.bel) (HR'.out.go HF0.out.bel) (by have := hl.out; omega) (by have := hm.out; omega)).mono ?_); rintro e w1 ⟨rfl, hb1⟩
  have HF1 := Lib.hid (HF0.out.go hb1)
  clear hb1 HF0
  rw [hD.out]
  go_wp2_with fail
  (with_reducible refine (same_any _ _ _ _ _ c c' l m (HR.out.go HF1.out.bel) (HR'.out.go HF1.out.bel) (by have := hl.out; omega)).mono ?_); rintro e w2 ⟨rfl, hb2⟩
  have HF2 := Lib.hid (HF1.out.go hb2)
  clear hb2 HF1
  rw [hS.out]
  go_wp2_with fail
  (with_reducible refine (differ_ _ _ _ _ _ c' c m l (HR'.out.go HF2.out.bel) (HR.out.go HF2.out.bel) (by have := hm.out; omega) (by have := hl.out; omega)).mono ?_); rintro e w3 ⟨rfl, hb3⟩
  have HF3 := Lib.hid (HF2.out.go hb3)
  clear hb3 HF2
  rw [hcom.out, hD.out]
  go_wp2_with fail
  (with_reducible refine (differ_ _ _ _ _ _ c c l l (HR.out.go HF3.out.bel) (HR.out.go HF3.out.bel) (by have := hl.out; omega) (by have := hl.out; omega)).mono ?_); rintro e w4 ⟨rfl, hb4⟩
  have HF4 := Lib.hid (HF3.out.go hb4)
  clear hb4 HF3
  rw [hself.out]
  have hT0 : Hid (FiT w w4) := Lib.hid (FiT.of HF4.out.bel HP.out)
  clear HF4
  go_wp2_with fail
  go_still_tail 29, (by kernel_rfl)
  change wpList _ _ _ _ _ w4.drew
  have hBd := Lib.hid (FiT.drew hT0.out)
  generalize w4.drew = v1 at *
  clear hT0
  go_wp2_with fail
  (with_reducible refine (hsm.out v1 hBd.out).mono ?_); rintro e v2 ⟨rfl, hb2⟩
  have hU := Lib.hid (FiT.go hBd.out hb2)
  clear hb2 hBd
  have hT1 := H4.out _ hU.out
  clear hU
  go_wp2_with fail
  go_region_held3 (fun w' => Fi4 w b (off + k * 2) b' (off' + k * 2) (.int .i32 K) (.int .i32 a) (.int .i32 K') (.int .i32 a') w')
    (with_reducible (first | exact Fi4.drew hT1 | exact H4.out _ (FiT.go (And.left (by assumption)) hb3)))
    ((first
      | (go_at_call 5; refine (awake_ _ (by exact (show Fi4 w b (off + k * 2) b' (off' + k * 2) (.int .i32 K) (.int .i32 a) (.int .i32 K') (.int .i32 a') _ by assumption).1.2.out)).mono ?_; rintro e w3 ⟨rfl, hb3⟩)))
  have hB : Fi4 w b (off + k * 2) b' (off' + k * 2) (.int .i32 K) (.int .i32 a) (.int .i32 K') (.int .i32 a') w3 := by assumption
  go_wp2
  go_ret
  exact ⟨rfl, hB.1.1⟩
end Go.Proofs.YtpgojecldmcopaaDoor
