/- TraceParts: Parts answers as the document says. -/
import Derived.Test.YtjccijmnbihpoaaDoorTraceDiffers
namespace Go.Proofs.YtjccijmnbihpoaaDoor
open Go.RowKit
theorem ptL_len {l : List Ev} {r : List Rg} {e : Int} : (ptL l r e).length ≤ r.length + 1 := by
  unfold ptL cnts
  split <;> simp
set_option maxRecDepth 100000 in
set_option maxHeartbeats 2000000 in
theorem traceParts_walk (w : World) (A : Option Addr) (c : Nat) (l : List Ev) (h : Reads w w.heap.size 2 A l.length (evs l)) (ho : Ok32 l) (_ : l.length ≤ c ∧ c ≤ 9223372036854775807)
    (A' : Option Addr) (c' : Nat) (r : List Rg) (h' : Reads w w.heap.size 3 A' r.length (rgs r)) (_ : r.length ≤ c' ∧ c' ≤ 9223372036854775807) (hP : Pow w) :
    Calls Tryd.prog 4 #[.slice A l.length c, .slice A' r.length c'] w fun e w' => e = .returned (.bool true) ∧ Below w.heap.size w w' := by
  obtain ⟨va, hva⟩ : ∃ v, Hid (v = decide (400 < l.length ∧ l.length ≤ 5000 ∨ 5100 < l.length)) := ⟨_, Lib.hid rfl⟩
  have HP := Lib.hid hP
  have HR := Lib.hid h
  have HR' := Lib.hid h'
  have Ho := Lib.hid ho
  have HF0 := Lib.hid (Fr.start w)
  clear hP h ho h'
  rcases va with _ | _
  · have hl := Lib.hid (far_no hva)
    by_cases h70 : 70 < r.length
    · have hi : (70 : Int) < (r.length : Int) := by omega
      go_enter Tryd.func4, Tryd.ntmps4
      go_wp2_with fail
      (with_reducible refine (far_ _ A c _ _ hva).mono ?_); rintro e w1 ⟨rfl, hw1⟩; subst w1
      go_wp2_with fail
      (with_reducible refine (awake_ w (by exact HP.out)).mono ?_); rintro e wz ⟨rfl, hbz⟩
      have hB := (HF0.out.go hbz).bel
      go_wp2
      go_ret
      exact ⟨rfl, hB⟩
    · have hi : ¬ ((70 : Int) < (r.length : Int)) := by omega
      have hr := Lib.hid h70
      obtain ⟨E, hE0⟩ := PtE.any r
      have hE := Lib.hid hE0
      obtain ⟨M, hM⟩ : ∃ M, Hid (ptL l r E = M) := ⟨_, Lib.hid rfl⟩
      have hMl : Hid (M.length ≤ 71) := Lib.hid (by have := @ptL_len l r E; rw [hM.out] at this; omega)
      clear hE0
      go_enter Tryd.func4, Tryd.ntmps4
      go_wp2_with fail
      (with_reducible refine (far_ _ A c _ _ hva).mono ?_); rintro e w1 ⟨rfl, hw1⟩; subst w1
      go_wp2_with fail
      (with_reducible refine (parts_ _ A A' c c' l r HR.out Ho.out (by have := hl.out; omega) HR'.out (by have := hr.out; omega) E hE.out).mono ?_); rintro e w1 ⟨A1, k1, rfl, hb1, hr1, hca, hcb⟩
      have HF1 := Lib.hid (HF0.out.go hb1)
      rw [hM.out] at hr1
      rw [hM.out]
      have Hr1 := Lib.hid hr1
      clear hb1 HF0 hr1 hca hcb
      go_wp2_with fail
      (with_reducible refine (rparts_ _ A A' c c' l r (HR.out.go HF1.out.bel) Ho.out (by have := hl.out; omega) (HR'.out.go HF1.out.bel) (by have := hr.out; omega) E hE.out).mono ?_); rintro e w2 ⟨A2, k2, rfl, hb2, hr2, hca, hcb⟩
      have HF2 := Lib.hid (HF1.out.go hb2)
      rw [hM.out] at hr2
      rw [hM.out]
      have Hr2 := Lib.hid hr2
      have Hr3 := Lib.hid (Hr1.out.go hb2)
      clear hb2 HF1 hr2 hca hcb Hr1
      go_wp2_with fail
      (with_reducible refine (ints_same _ _ _ A1 A2 k1 k2 M M Hr3.out Hr2.out (by have := hMl.out; omega)).mono ?_); rintro e w3 ⟨rfl, hb3⟩
      have HF3 := Lib.hid (HF2.out.go hb3)
      clear hb3 HF2 Hr2 Hr3
      rw [decide_eq_true (rfl : M = M)]
      go_wp2_with fail
      (with_reducible refine (awake_ _ (by exact HP.out.below HF3.out.bel)).mono ?_); rintro e wz ⟨rfl, hbz⟩
      have hB := (HF3.out.go hbz).bel
      go_wp2
      go_ret
      exact ⟨rfl, hB⟩
  · go_enter Tryd.func4, Tryd.ntmps4
    go_wp2_with fail
    (with_reducible refine (far_ _ A c _ _ hva).mono ?_); rintro e w1 ⟨rfl, hw1⟩; subst w1
    go_wp2_with fail
    (with_reducible refine (awake_ w (by exact HP.out)).mono ?_); rintro e wz ⟨rfl, hbz⟩
    have hB := (HF0.out.go hbz).bel
    go_wp2
    go_ret
    exact ⟨rfl, hB⟩
end Go.Proofs.YtjccijmnbihpoaaDoor
