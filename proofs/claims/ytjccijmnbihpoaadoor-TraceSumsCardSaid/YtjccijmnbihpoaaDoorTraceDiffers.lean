/- TraceDiffers: Differ and Digest answer as the document says. -/
import Derived.Test.YtjccijmnbihpoaaDoorT16
namespace Go.Proofs.YtjccijmnbihpoaaDoor
open Go.RowKit
theorem far_no {n : Nat} (h : Hid (false = decide (400 < n ∧ n ≤ 5000 ∨ 5100 < n))) : n ≤ 5100 := by
  have := of_decide_eq_false h.out.symm
  omega
set_option maxRecDepth 100000 in
set_option maxHeartbeats 2000000 in
theorem traceDiffers_walk (w : World) (A : Option Addr) (c : Nat) (l : List Ev) (h : Reads w w.heap.size 2 A l.length (evs l)) (_ : Ok32 l) (_ : l.length ≤ c ∧ c ≤ 9223372036854775807) (A' : Option Addr) (c' : Nat) (m : List Ev) (h' : Reads w w.heap.size 2 A' m.length (evs m)) (_ : Ok32 m) (_ : m.length ≤ c' ∧ c' ≤ 9223372036854775807) (hP : Pow w) :
    Calls Tryd.prog 3 #[.slice A l.length c, .slice A' m.length c'] w fun e w' => e = .returned (.bool true) ∧ Below w.heap.size w w' := by
  obtain ⟨va, hva⟩ : ∃ v, Hid (v = decide (400 < l.length ∧ l.length ≤ 5000 ∨ 5100 < l.length)) := ⟨_, Lib.hid rfl⟩
  obtain ⟨vb, hvb⟩ : ∃ v, Hid (v = decide (400 < m.length ∧ m.length ≤ 5000 ∨ 5100 < m.length)) := ⟨_, Lib.hid rfl⟩
  have HP := Lib.hid hP
  have HR := Lib.hid h
  have HR' := Lib.hid h'
  have HF0 := Lib.hid (Fr.start w)
  clear hP h h'
  rcases va with _ | _
  · rcases vb with _ | _
    · have hl := Lib.hid (far_no hva)
      have hm := Lib.hid (far_no hvb)
      obtain ⟨n, hn⟩ : ∃ n, Hid (n = dif l m) := ⟨_, Lib.hid rfl⟩
      obtain ⟨d, hd⟩ : ∃ d, Hid (d = dg l) := ⟨_, Lib.hid rfl⟩
      obtain ⟨d', hd'⟩ : ∃ d, Hid (d = dg m) := ⟨_, Lib.hid rfl⟩
      go_enter Tryd.func3, Tryd.ntmps3
      go_wp2_with fail
      (with_reducible refine (far_ _ A c _ _ hva).mono ?_); rintro e w1 ⟨rfl, hw1⟩; subst w1
      go_wp2_with fail
      (with_reducible refine (far_ _ A' c' _ _ hvb).mono ?_); rintro e w1 ⟨rfl, hw1⟩; subst w1
      go_wp2_with fail
      (with_reducible refine (differ_ _ _ _ A A' c c' l m (HR.out.go HF0.out.bel) (HR'.out.go HF0.out.bel) (by have := hl.out; omega) (by have := hm.out; omega)).mono ?_); rintro e w1 ⟨rfl, hb1⟩
      have HF1 := Lib.hid (HF0.out.go hb1)
      clear hb1 HF0
      rw [← hn.out]
      go_wp2_with fail
      (with_reducible refine (rdiffer_ _ _ _ A A' c c' l m (HR.out.go HF1.out.bel) (HR'.out.go HF1.out.bel) (by have := hl.out; omega)).mono ?_); rintro e w2 ⟨rfl, hb2⟩
      have HF2 := Lib.hid (HF1.out.go hb2)
      clear hb2 HF1
      rw [← hn.out]
      go_wp2_with fail
      (with_reducible refine (digest_ _ A c l (HR.out.go HF2.out.bel) (by have := hl.out; omega)).mono ?_); rintro e w3 ⟨rfl, hb3⟩
      have HF3 := Lib.hid (HF2.out.go hb3)
      clear hb3 HF2
      rw [← hd.out]
      go_wp2_with fail
      (with_reducible refine (rdigest_ _ A c l (HR.out.go HF3.out.bel) (by have := hl.out; omega)).mono ?_); rintro e w4 ⟨rfl, hb4⟩
      have HF4 := Lib.hid (HF3.out.go hb4)
      clear hb4 HF3
      rw [← hd.out]
      go_wp2_with fail
      (with_reducible refine (digest_ _ A' c' m (HR'.out.go HF4.out.bel) (by have := hm.out; omega)).mono ?_); rintro e w5 ⟨rfl, hb5⟩
      have HF5 := Lib.hid (HF4.out.go hb5)
      clear hb5 HF4
      rw [← hd'.out]
      go_wp2_with fail
      (with_reducible refine (rdigest_ _ A' c' m (HR'.out.go HF5.out.bel) (by have := hm.out; omega)).mono ?_); rintro e w6 ⟨rfl, hb6⟩
      have HF6 := Lib.hid (HF5.out.go hb6)
      clear hb6 HF5
      rw [← hd'.out]
      go_wp2_with fail
      (with_reducible refine (awake_ _ (by exact HP.out.below HF6.out.bel)).mono ?_); rintro e wz ⟨rfl, hbz⟩
      have hB := (HF6.out.go hbz).bel
      go_wp2
      go_ret
      exact ⟨rfl, hB⟩
    · go_enter Tryd.func3, Tryd.ntmps3
      go_wp2_with fail
      (with_reducible refine (far_ _ A c _ _ hva).mono ?_); rintro e w1 ⟨rfl, hw1⟩; subst w1
      go_wp2_with fail
      (with_reducible refine (far_ _ A' c' _ _ hvb).mono ?_); rintro e w1 ⟨rfl, hw1⟩; subst w1
      go_wp2_with fail
      (with_reducible refine (awake_ w (by exact HP.out)).mono ?_); rintro e wz ⟨rfl, hbz⟩
      have hB := (HF0.out.go hbz).bel
      go_wp2
      go_ret
      exact ⟨rfl, hB⟩
  · go_enter Tryd.func3, Tryd.ntmps3
    go_wp2_with fail
    (with_reducible refine (far_ _ A c _ _ hva).mono ?_); rintro e w1 ⟨rfl, hw1⟩; subst w1
    go_wp2_with fail
    (with_reducible refine (awake_ w (by exact HP.out)).mono ?_); rintro e wz ⟨rfl, hbz⟩
    have hB := (HF0.out.go hbz).bel
    go_wp2
    go_ret
    exact ⟨rfl, hB⟩
end Go.Proofs.YtjccijmnbihpoaaDoor
