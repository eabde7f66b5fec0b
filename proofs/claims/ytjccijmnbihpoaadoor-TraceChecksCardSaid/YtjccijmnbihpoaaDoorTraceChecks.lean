/- TraceChecks: Check, Count and Cut answer as the document says. -/
import Derived.Test.YtjccijmnbihpoaaDoorTraceDiffers
namespace Go.Proofs.YtjccijmnbihpoaaDoor
open Go.RowKit
abbrev i3O (x y z : Int) : Obj := .cells #[.int .i64 x, .int .i64 y, .int .i64 z] 38
set_option maxRecDepth 100000 in
set_option maxHeartbeats 2000000 in
theorem traceChecks_walk (w : World) (A : Option Addr) (c : Nat) (l : List Ev) (h : Reads w w.heap.size 2 A l.length (evs l)) (ho : Ok32 l) (hc : l.length ≤ c ∧ c ≤ 9223372036854775807) (n : Int) (_hn : (Lit.int .i64 n).wf = true) (x y z : Int)
    (_hx : -9223372036854775808 ≤ x ∧ x ≤ 9223372036854775807) (_hy : -9223372036854775808 ≤ y ∧ y ≤ 9223372036854775807) (_hz : -9223372036854775808 ≤ z ∧ z ≤ 9223372036854775807) (hP : Pow w) :
    Calls Tryd.prog 6 #[.slice A l.length c, .int .i64 n, .agg #[.int .i64 x, .int .i64 y, .int .i64 z]] w fun e w' => e = .returned (.bool true) ∧ Below w.heap.size w w' := by
  clear _hn _hx _hy _hz
  obtain ⟨va, hva⟩ : ∃ v, Hid (v = decide (400 < l.length ∧ l.length ≤ 5000 ∨ 5100 < l.length)) := ⟨_, Lib.hid rfl⟩
  have HP := Lib.hid hP
  have HR := Lib.hid h
  have Ho := Lib.hid ho
  have Hc := Lib.hid hc.1
  have hF := (Fr.start w).newN rfl (i3O x y z)
  have hO := hF.at (g := w.heap.size) List.mem_cons_self
  have c0 := Lib.cell_of_heap hO 0
  have c1 := Lib.cell_of_heap hO 1
  have c2 := Lib.cell_of_heap hO 2
  have HF0 := Lib.hid hF
  clear hP h ho hc hF hO
  rcases va with _ | _
  · have hl := Lib.hid (far_no hva)
    obtain ⟨I, E, hq⟩ : ∃ I E, Hid (chkT l n = (I, E)) := ⟨_, _, Lib.hid rfl⟩
    obtain ⟨K, F, hk⟩ : ∃ I E, Hid (cntT l x = (I, E)) := ⟨_, _, Lib.hid rfl⟩
    obtain ⟨M, hM⟩ : ∃ M, Hid (cutL l y z = M) := ⟨_, Lib.hid rfl⟩
    obtain ⟨G, hG⟩ : ∃ M, Hid (cutE l y z = M) := ⟨_, Lib.hid rfl⟩
    have hMl : Hid (M.length ≤ 5100) := Lib.hid (by have := hl.out; rw [← hM.out]; unfold cutL; split <;> simp <;> omega)
    go_enter Tryd.func6, Tryd.ntmps6
    go_wp2_with fail
    (with_reducible refine (far_ _ A c _ _ hva).mono ?_); rintro e w1 ⟨rfl, hw1⟩; subst w1
    go_wp2_with fail
    (with_reducible refine (check_ _ A c l (HR.out.go HF0.out.bel) Ho.out (by have := hl.out; omega) n).mono ?_); rintro e w1 ⟨rfl, hb1⟩
    have HF1 := Lib.hid (HF0.out.go hb1)
    clear hb1 HF0 c0 c1 c2
    have hO := HF1.out.at (g := w.heap.size) List.mem_cons_self
    have c0 := Lib.cell_of_heap hO 0
    have c1 := Lib.cell_of_heap hO 1
    have c2 := Lib.cell_of_heap hO 2
    clear hO
    rw [hq.out]
    go_wp2_with fail
    (with_reducible refine (rcheck_ _ A c l (HR.out.go HF1.out.bel) Ho.out (by have := hl.out; omega) n).mono ?_); rintro e w2 ⟨rfl, hb2⟩
    have HF2 := Lib.hid (HF1.out.go hb2)
    clear hb2 HF1 c0 c1 c2
    have hO := HF2.out.at (g := w.heap.size) List.mem_cons_self
    have c0 := Lib.cell_of_heap hO 0
    have c1 := Lib.cell_of_heap hO 1
    have c2 := Lib.cell_of_heap hO 2
    clear hO
    rw [hq.out]
    go_wp2_with fail
    (with_reducible refine (count_ _ A c l (HR.out.go HF2.out.bel) Ho.out (by have := hl.out; omega) x).mono ?_); rintro e w3 ⟨rfl, hb3⟩
    have HF3 := Lib.hid (HF2.out.go hb3)
    clear hb3 HF2 c0 c1 c2
    have hO := HF3.out.at (g := w.heap.size) List.mem_cons_self
    have c0 := Lib.cell_of_heap hO 0
    have c1 := Lib.cell_of_heap hO 1
    have c2 := Lib.cell_of_heap hO 2
    clear hO
    rw [hk.out]
    go_wp2_with fail
    (with_reducible refine (rcount_ _ A c l (HR.out.go HF3.out.bel) Ho.out (by have := hl.out; omega) x).mono ?_); rintro e w4 ⟨rfl, hb4⟩
    have HF4 := Lib.hid (HF3.out.go hb4)
    clear hb4 HF3 c0 c1 c2
    have hO := HF4.out.at (g := w.heap.size) List.mem_cons_self
    have c0 := Lib.cell_of_heap hO 0
    have c1 := Lib.cell_of_heap hO 1
    have c2 := Lib.cell_of_heap hO 2
    clear hO
    rw [hk.out]
    go_wp2_with fail
    (with_reducible refine (cut_ _ A c l (HR.out.go HF4.out.bel) Hc.out (by have := hl.out; omega) y z).mono ?_); rintro e w5 ⟨A1, k1, rfl, hb5, hr1, hca1, hcb1⟩
    have HF5 := Lib.hid (HF4.out.go hb5)
    clear hb5 HF4 c0 c1 c2
    have hO := HF5.out.at (g := w.heap.size) List.mem_cons_self
    have c0 := Lib.cell_of_heap hO 0
    have c1 := Lib.cell_of_heap hO 1
    have c2 := Lib.cell_of_heap hO 2
    clear hO
    rw [hM.out] at hr1
    rw [hM.out, hG.out]
    have Hr1 := Lib.hid (show Reads w5 w5.heap.size 2 A1 M.length (evs M) from hr1)
    clear hr1 hca1 hcb1
    go_wp2_with fail
    (with_reducible refine (rcut_ _ A c l (HR.out.go HF5.out.bel) Hc.out (by have := hl.out; omega) y z).mono ?_); rintro e w6 ⟨A2, k2, rfl, hb6, hr2, hca2, hcb2⟩
    have hb6' := hb6
    have HF6 := Lib.hid (HF5.out.go hb6)
    clear hb6 HF5 c0 c1 c2
    have hO := HF6.out.at (g := w.heap.size) List.mem_cons_self
    have c0 := Lib.cell_of_heap hO 0
    have c1 := Lib.cell_of_heap hO 1
    have c2 := Lib.cell_of_heap hO 2
    clear hO
    rw [hM.out] at hr2
    rw [hM.out, hG.out]
    have Hr2 := Lib.hid (show Reads w6 w6.heap.size 2 A2 M.length (evs M) from hr2)
    have Hr3 := Lib.hid (Hr1.out.go hb6')
    clear hr2 hca2 hcb2 hb6' c0 c1 c2
    go_wp2_with fail
    (with_reducible refine (same_any _ _ _ A1 A2 k1 k2 M M Hr3.out Hr2.out (by have := hMl.out; omega)).mono ?_); rintro e w7 ⟨rfl, hb7⟩
    have HF7 := Lib.hid (HF6.out.go hb7)
    clear hb7 HF6 Hr1 Hr2 Hr3
    rw [decide_eq_true (rfl : M = M)]
    go_wp2_with fail
    (with_reducible refine (awake_ _ (by exact HP.out.below HF7.out.bel)).mono ?_); rintro e wz ⟨rfl, hbz⟩
    have hB := (HF7.out.go hbz).bel
    go_wp2
    go_ret
    exact ⟨rfl, hB⟩
  · go_enter Tryd.func6, Tryd.ntmps6
    go_wp2_with fail
    (with_reducible refine (far_ _ A c _ _ hva).mono ?_); rintro e w1 ⟨rfl, hw1⟩; subst w1
    go_wp2_with fail
    (with_reducible refine (awake_ _ (by exact HP.out.below HF0.out.bel)).mono ?_); rintro e wz ⟨rfl, hbz⟩
    have hB := (HF0.out.go hbz).bel
    go_wp2
    go_ret
    exact ⟨rfl, hB⟩
end Go.Proofs.YtjccijmnbihpoaaDoor
