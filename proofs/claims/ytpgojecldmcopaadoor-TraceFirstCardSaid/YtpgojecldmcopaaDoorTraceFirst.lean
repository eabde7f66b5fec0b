/- TraceFirst: Differ is -1 exactly if both are equal; else it is where they part. -/
import Derived.Test.YtpgojecldmcopaaDoorF1
import Derived.Test.YtpgojecldmcopaaDoorF2
import Derived.Test.YtpgojecldmcopaaDoorF3
namespace Go.Proofs.YtpgojecldmcopaaDoor
open Go.RowKit
set_option maxRecDepth 100000 in
set_option maxHeartbeats 1000000 in
theorem traceFirst_walk (w : World) (A : Option Addr) (c : Nat) (l : List Ev) (h : Reads w w.heap.size 2 A l.length (evs l)) (_ : Ok32 l) (hc : l.length ≤ c ∧ c ≤ 9223372036854775807) (A' : Option Addr) (c' : Nat) (m : List Ev) (h' : Reads w w.heap.size 2 A' m.length (evs m)) (_ : Ok32 m) (hc' : m.length ≤ c' ∧ c' ≤ 9223372036854775807) (hP : Pow w) :
    Calls Tryd.prog 3 #[.slice A l.length c, .slice A' m.length c'] w fun e w' => e = .returned (.bool true) ∧ Below w.heap.size w w' := by
  obtain ⟨va, hva⟩ : ∃ v, Hid (v = decide (400 < l.length ∧ l.length ≤ 5000 ∨ 5100 < l.length)) := ⟨_, Lib.hid rfl⟩
  obtain ⟨vb, hvb⟩ : ∃ v, Hid (v = decide (400 < m.length ∧ m.length ≤ 5000 ∨ 5100 < m.length)) := ⟨_, Lib.hid rfl⟩
  have HP := Lib.hid hP
  have HR := Lib.hid h
  have HR' := Lib.hid h'
  have HF0 := Lib.hid (Fr.start w)
  have Hc := Lib.hid hc.1
  have Hc' := Lib.hid hc'.1
  clear hP h h' hc hc'
  rcases va with _ | _
  · rcases vb with _ | _
    · by_cases hlm : l = m
      · exact fst_eq w A c l HR Hc A' c' m HR' Hc' HP hva hvb hlm
      · obtain ⟨k, hD, htk, hk⟩ := difF_ne 0 l m hlm
        have hD := Lib.hid (show dif l m = (k : Int) by rw [show dif l m = _ from hD]; congr 1; omega)
        rcases hk with ⟨ka, kb⟩ | ⟨ka, kb⟩ | ⟨ka, kb, kne⟩
        · exact fst_0 w A c l HR Hc A' c' m HR' Hc' HP hva hvb k hD htk hlm (by omega) (by omega) ka kb
        · exact fst_1 w A c l HR Hc A' c' m HR' Hc' HP hva hvb k hD htk hlm (by omega) (by omega) ka kb
        · exact fst_2 w A c l HR Hc A' c' m HR' Hc' HP hva hvb k hD htk hlm (by omega) (by omega) ka kb kne
    · go_enter Tryd.func3, Tryd.ntmps3
      go_wp2_with fail
      (with_reducible refine (far_ _ A c _ _ hva).mono ?_); rintro e w1 ⟨rfl, hw1⟩; subst w1
      go_wp2_with fail
      (with_reducible refine (far_ _ A' c' _ _ hvb).mono ?_); rintro e w1 ⟨rfl, hw1⟩; subst w1
      go_wp2_with fail
      (with_reducible refine (awake_ _ (by exact HP.out.below HF0.out.bel)).mono ?_); rintro e wz ⟨rfl, hbz⟩
      have hB := (HF0.out.go hbz).bel
      go_wp2
      go_ret
      exact ⟨rfl, hB⟩
  · go_enter Tryd.func3, Tryd.ntmps3
    go_wp2_with fail
    (with_reducible refine (far_ _ A c _ _ hva).mono ?_); rintro e w1 ⟨rfl, hw1⟩; subst w1
    go_wp2_with fail
    (with_reducible refine (awake_ _ (by exact HP.out.below HF0.out.bel)).mono ?_); rintro e wz ⟨rfl, hbz⟩
    have hB := (HF0.out.go hbz).bel
    go_wp2
    go_ret
    exact ⟨rfl, hB⟩
end Go.Proofs.YtpgojecldmcopaaDoor
