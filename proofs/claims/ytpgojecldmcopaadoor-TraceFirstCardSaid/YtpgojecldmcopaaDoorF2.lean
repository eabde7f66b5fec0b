/- TraceFirst: traces that part, case 1. -/
import Derived.Test.YtpgojecldmcopaaDoorF0
import Derived.StillTailTactics
import Derived.BigQuiet
namespace Go.Proofs.YtpgojecldmcopaaDoor
open Go.RowKit
set_option maxRecDepth 100000 in
set_option maxHeartbeats 20000000 in
theorem fst_1 (w : World) (A : Option Addr) (c : Nat) (l : List Ev) (HR : Hid (Reads w w.heap.size 2 A l.length (evs l))) (Hc : Hid (l.length ≤ c)) (A' : Option Addr) (c' : Nat) (m : List Ev) (HR' : Hid (Reads w w.heap.size 2 A' m.length (evs m))) (Hc' : Hid (m.length ≤ c')) (HP : Hid (Pow w))
    (hva : Hid (false = decide (400 < l.length ∧ l.length ≤ 5000 ∨ 5100 < l.length))) (hvb : Hid (false = decide (400 < m.length ∧ m.length ≤ 5000 ∨ 5100 < m.length))) (k : Nat) (hD : Hid (dif l m = (k : Int))) (htk : l.take k = m.take k) (hlm : l ≠ m) (hk1 : k ≤ l.length) (hk2 : k ≤ m.length) (ka : k = m.length) (kb : k < l.length) :
    Calls Tryd.prog 3 #[.slice A l.length c, .slice A' m.length c'] w fun e w' => e = .returned (.bool true) ∧ Below w.heap.size w w' := by
  have HF0 := Lib.hid (Fr.start w)
  have hl := Lib.hid (far_no hva)
  have hm := Lib.hid (far_no hvb)
  have hself := Lib.hid (show dif l l = -1 from difF_self 0 l)
  have hcom := Lib.hid (show dif m l = dif l m from difF_comm 0 l m)
  have hS := Lib.hid (decide_eq_false hlm)
  obtain ⟨T, hT⟩ : ∃ T, Hid (T = l.take k) := ⟨_, Lib.hid rfl⟩
  have hT' : Hid (T = m.take k) := Lib.hid (by rw [hT.out]; exact htk)
  have hTl : Hid (T.length = k) := Lib.hid (by rw [hT.out, List.length_take]; omega)
  have e0 : (((k : Nat) : Int) == -1) = false := by rw [beq_eq_false_iff_ne]; omega
  have i1 : ¬ ((l.length : Int) < (k : Int)) := by omega
  have i2 : ¬ ((m.length : Int) < (k : Int)) := by omega
  have i1' : ¬ (l.length < k) := by omega
  have i2' : ¬ (m.length < k) := by omega
  have s1 : ∀ W : World, (Instr.sliceAt 22 (.slice A l.length c) none (some (.int .i64 (k : Int))) none).run Tryd.prog W = .ok (.slice A k c) W := fun W => sl_to evEl (by kernel_rfl) A l.length c k k rfl hk1 Hc.out W
  have s2 : ∀ W : World, (Instr.sliceAt 22 (.slice A' m.length c') none (some (.int .i64 (k : Int))) none).run Tryd.prog W = .ok (.slice A' k c') W := fun W => sl_to evEl (by kernel_rfl) A' m.length c' k k rfl hk2 Hc'.out W
  have hsm : Hid (∀ W, FiT w W → Calls Tryd.prog 7 #[.slice A k c, .slice A' k c'] W fun e w' => e = .returned (.bool true) ∧ Below W.heap.size W w') := Lib.hid (by
    intro W hW
    have h1 := (first_ (HR.out.go hW.1) hk1 hT.out).2
    have h2 := (first_ (HR'.out.go hW.1) hk2 hT'.out).2
    have := same_any _ _ _ A A' c c' T T h1 h2 (by have := hTl.out; have := hl.out; omega)
    rw [hTl.out, decide_eq_true (rfl : T = T)] at this
    exact this)
  have e1 : ((k : Int) == (l.length : Int)) = false := by simp; omega
  have e2 : ((k : Int) == (m.length : Int)) = true := by simp; omega
  have Hka := Lib.hid ka
  clear ka
  clear htk hlm
  go_enter Tryd.func3, Tryd.ntmps3
  go_wp2_with fail
  (with_reducible refine (far_ _ A c _ _ hva).mono ?_); rintro e w1 ⟨rfl, hw1⟩; subst w1
  go_wp2_with fail
  (with_reducible refine (far_ _ A' c' _ _ hvb).mono ?_); rintro e w1 ⟨rfl, hw1⟩; subst w1
  go_wp2_with fail
  (with_reducible refine (differ_ _ _ _ A A' c c' l m (HR.out.go HF0.out.bel) (HR'.out.go HF0.out.bel) (by have := hl.out; omega) (by have := hm.out; omega)).mono ?_); rintro e w1 ⟨rfl, hb1⟩
  have HF1 := Lib.hid (HF0.out.go hb1)
  clear hb1 HF0
  rw [hD.out]
  go_wp2_with fail
  (with_reducible refine (same_any _ _ _ A A' c c' l m (HR.out.go HF1.out.bel) (HR'.out.go HF1.out.bel) (by have := hl.out; omega)).mono ?_); rintro e w2 ⟨rfl, hb2⟩
  have HF2 := Lib.hid (HF1.out.go hb2)
  clear hb2 HF1
  rw [hS.out]
  go_wp2_with fail
  (with_reducible refine (differ_ _ _ _ A' A c' c m l (HR'.out.go HF2.out.bel) (HR.out.go HF2.out.bel) (by have := hm.out; omega) (by have := hl.out; omega)).mono ?_); rintro e w3 ⟨rfl, hb3⟩
  have HF3 := Lib.hid (HF2.out.go hb3)
  clear hb3 HF2
  rw [hcom.out, hD.out]
  go_wp2_with fail
  (with_reducible refine (differ_ _ _ _ A A c c l l (HR.out.go HF3.out.bel) (HR.out.go HF3.out.bel) (by have := hl.out; omega) (by have := hl.out; omega)).mono ?_); rintro e w4 ⟨rfl, hb4⟩
  have HF4 := Lib.hid (HF3.out.go hb4)
  clear hb4 HF3
  rw [hself.out]
  have hT0 : Hid (FiT w w4) := Lib.hid (FiT.of HF4.out.bel HP.out)
  clear HF4
  go_wp2_with fail
  go_still_tail 29, (by kernel_rfl)
  change wpList _ _ _ _ _ w4.drew
  have hBd := Lib.hid (FiT.drew hT0.out)
  generalize w4.drew = v1 at *
  clear hT0
  go_wp2_with fail
  (with_reducible refine (hsm.out v1 hBd.out).mono ?_); rintro e v2 ⟨rfl, hb2⟩
  have hU := Lib.hid (FiT.go hBd.out hb2)
  clear hb2 hBd
  go_wp2_with fail
  clear s1 s2 i1 i2 i1' i2' e0 hT hT' hTl hsm hself hcom hl hm hS hD HR HR' Hc Hc' hva hvb Hka hk1 hk2 kb
  have HPd := Lib.hid (fun (W : World) (h : FiT w W) => awake_ W h.2.out)
  have hBv := hU.out.1
  go_wp2
  refine wp_region_still_tail 22 (by kernel_rfl) (by kernel_rfl) ?_
  simp only [List.take_succ_cons, List.take_zero, List.drop_succ_cons, List.drop_zero]
  with_reducible refine still_val (.int .i64 (k : Int)) (by kernel_rfl) (by kernel_rfl) ?_
  simp only [Act.put, List.setIfInBounds_toArray, List.set_cons_zero, List.set_cons_succ]
  with_reducible refine still_val (.slice A l.length c) (by kernel_rfl) (by kernel_rfl) ?_
  simp only [Act.put, List.setIfInBounds_toArray, List.set_cons_zero, List.set_cons_succ]
  with_reducible refine still_val (.int .i64 (l.length : Int)) (by kernel_rfl) (by kernel_rfl) ?_
  simp only [Act.put, List.setIfInBounds_toArray, List.set_cons_zero, List.set_cons_succ]
  with_reducible refine still_val (.bool ((k : Int) == (l.length : Int))) (by kernel_rfl) (by kernel_rfl) ?_
  simp only [Act.put, List.setIfInBounds_toArray, List.set_cons_zero, List.set_cons_succ]
  rw [e1]
  with_reducible refine still_val (.bool false) (by kernel_rfl) (by kernel_rfl) ?_
  simp only [Act.put, List.setIfInBounds_toArray, List.set_cons_zero, List.set_cons_succ]
  with_reducible refine still_val (.int .i64 (k : Int)) (by kernel_rfl) (by kernel_rfl) ?_
  simp only [Act.put, List.setIfInBounds_toArray, List.set_cons_zero, List.set_cons_succ]
  with_reducible refine still_val ((.slice A' m.length c')) (by kernel_rfl) (by kernel_rfl) ?_
  simp only [Act.put, List.setIfInBounds_toArray, List.set_cons_zero, List.set_cons_succ]
  with_reducible refine still_val (.int .i64 (m.length : Int)) (by kernel_rfl) (by kernel_rfl) ?_
  simp only [Act.put, List.setIfInBounds_toArray, List.set_cons_zero, List.set_cons_succ]
  with_reducible refine still_val (.bool ((k : Int) == (m.length : Int))) (by kernel_rfl) (by kernel_rfl) ?_
  simp only [Act.put, List.setIfInBounds_toArray, List.set_cons_zero, List.set_cons_succ]
  rw [e2]
  with_reducible refine still_val (.bool true) (by kernel_rfl) (by kernel_rfl) ?_
  simp only [Act.put, List.setIfInBounds_toArray, List.set_cons_zero, List.set_cons_succ]
  with_reducible refine still_val (.bool true) (by kernel_rfl) (by kernel_rfl) ?_
  simp only [Act.put, List.setIfInBounds_toArray, List.set_cons_zero, List.set_cons_succ]
  with_reducible refine still_skip (by kernel_rfl) ?_
  simp only [Act.put, List.setIfInBounds_toArray, List.set_cons_zero, List.set_cons_succ]
  with_reducible refine still_skip (by kernel_rfl) ?_
  simp only [Act.put, List.setIfInBounds_toArray, List.set_cons_zero, List.set_cons_succ]
  with_reducible refine still_skip (by kernel_rfl) ?_
  simp only [Act.put, List.setIfInBounds_toArray, List.set_cons_zero, List.set_cons_succ]
  with_reducible refine still_skip (by kernel_rfl) ?_
  simp only [Act.put, List.setIfInBounds_toArray, List.set_cons_zero, List.set_cons_succ]
  with_reducible refine still_skip (by kernel_rfl) ?_
  simp only [Act.put, List.setIfInBounds_toArray, List.set_cons_zero, List.set_cons_succ]
  with_reducible refine still_skip (by kernel_rfl) ?_
  simp only [Act.put, List.setIfInBounds_toArray, List.set_cons_zero, List.set_cons_succ]
  with_reducible refine still_skip (by kernel_rfl) ?_
  simp only [Act.put, List.setIfInBounds_toArray, List.set_cons_zero, List.set_cons_succ]
  with_reducible refine still_skip (by kernel_rfl) ?_
  simp only [Act.put, List.setIfInBounds_toArray, List.set_cons_zero, List.set_cons_succ]
  with_reducible refine still_skip (by kernel_rfl) ?_
  simp only [Act.put, List.setIfInBounds_toArray, List.set_cons_zero, List.set_cons_succ]
  with_reducible refine still_val (.bool true) (by kernel_rfl) (by kernel_rfl) ?_
  simp only [Act.put, List.setIfInBounds_toArray, List.set_cons_zero, List.set_cons_succ]
  with_reducible refine still_val (.bool true) (by kernel_rfl) (by kernel_rfl) ?_
  simp only [Act.put, List.setIfInBounds_toArray, List.set_cons_zero, List.set_cons_succ]
  with_reducible refine wpStill_nil ?_
  change wpList _ _ _ _ _ (World.drew v2)
  have hBd := Lib.hid (FiT.drew hU.out)
  generalize v2.drew = v3 at *
  go_wp2_with fail
  (with_reducible refine (HPd.out v3 hBd.out).mono ?_); rintro e v4 ⟨rfl, hb4⟩
  go_wp2
  go_ret
  exact ⟨rfl, bt hBd.out.1 hb4⟩
end Go.Proofs.YtpgojecldmcopaaDoor
