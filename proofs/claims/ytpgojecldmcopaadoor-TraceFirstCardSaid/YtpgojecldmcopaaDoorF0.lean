/- TraceFirst: plain laws of Differ; equal traces. -/
import Derived.Test.YtpgojecldmcopaaDoorTraceDiffers
import Derived.StillTailTactics
namespace Go.Proofs.YtpgojecldmcopaaDoor
open Go.RowKit
theorem still_skip {P : Program} {ops : Array Oper} {w : World} {Q : Act → Prop} {a : Act} {o : Oper} {rest : List Oper} (h0 : Region.wanted o (yielded ops a.tmps) = false) (h : wpStill P ops w Q rest (a.put o.dst undef)) : wpStill P ops w Q (o :: rest) a := by
  unfold wpStill
  rw [if_neg (by rw [h0]; decide)]
  exact h
theorem still_val {P : Program} {ops : Array Oper} {w : World} {Q : Act → Prop} {a : Act} {o : Oper} {rest : List Oper} (v : Value) (h0 : Region.wanted o (yielded ops a.tmps) = true) (hv : (execOp a.eval o).run P w = .ok (.value v) w) (h : wpStill P ops w Q rest (a.put o.dst v)) : wpStill P ops w Q (o :: rest) a := by
  unfold wpStill
  rw [if_pos h0]
  unfold Oper.still
  rw [hv]
  exact ⟨rfl, h⟩
theorem difF_self : ∀ (i : Nat) (l : List Ev), difF i l l = -1
  | _, [] => rfl
  | i, x :: r => by rw [difF, if_pos rfl]; exact difF_self (i + 1) r
theorem difF_comm : ∀ (i : Nat) (l m : List Ev), difF i m l = difF i l m
  | _, [], [] => rfl
  | _, [], _ :: _ => rfl
  | _, _ :: _, [] => rfl
  | i, x :: a, y :: b => by
    rw [difF, difF]
    by_cases h : x = y
    · rw [if_pos h, if_pos h.symm]; exact difF_comm (i + 1) a b
    · rw [if_neg h, if_neg fun e => h e.symm]
theorem difF_ne : ∀ (i : Nat) (l m : List Ev), l ≠ m → ∃ k : Nat, difF i l m = ((i + k : Nat) : Int) ∧ l.take k = m.take k ∧ ((k = l.length ∧ k < m.length) ∨ (k = m.length ∧ k < l.length) ∨ (k < l.length ∧ k < m.length ∧ l[k]? ≠ m[k]?))
  | _, [], [], h => absurd rfl h
  | i, [], _ :: _, _ => ⟨0, rfl, rfl, .inl ⟨rfl, by simp⟩⟩
  | i, _ :: _, [], _ => ⟨0, rfl, rfl, .inr (.inl ⟨rfl, by simp⟩)⟩
  | i, x :: a, y :: b, h => by
    by_cases e : x = y
    · subst e
      obtain ⟨k, h1, h2, h3⟩ := difF_ne (i + 1) a b fun e => h (by rw [e])
      refine ⟨k + 1, ?_, by simp [h2], ?_⟩
      · rw [difF, if_pos rfl, h1]; congr 1; omega
      · simpa using h3
    · refine ⟨0, ?_, rfl, .inr (.inr ⟨by simp, by simp, by simpa using e⟩)⟩
      rw [difF, if_neg e]; rfl
theorem evs_take (l : List Ev) (k : Nat) : (evs l).take (k * 2) = evs (l.take k) := flat2_take _ _
/-- the first k -/
theorem first_ {w : World} {B k : Nat} {A : Option Addr} {l m : List Ev} (h : Reads w B 2 A l.length (evs l)) (hk : k ≤ l.length) (e : m = l.take k) : m.length = k ∧ Reads w B 2 A m.length (evs m) := by
  have hm : m.length = k := by rw [e, List.length_take]; omega
  refine ⟨hm, ?_⟩
  have := h.firsts hk
  rw [evs_take, ← e] at this
  rw [hm]
  exact this
abbrev FiT (w w' : World) : Prop := Below w.heap.size w w' ∧ Hid (Pow w')
theorem FiT.of {w w1 : World} (h : Below w.heap.size w w1) (hP : Pow w) : FiT w w1 := ⟨h, Lib.hid (hP.below h)⟩
theorem FiT.drew {w w1 : World} (h : FiT w w1) : FiT w w1.drew := ⟨h.1.drew, h.2⟩
theorem FiT.go {w w1 w2 : World} (h : FiT w w1) (hb : Below w1.heap.size w1 w2) : FiT w w2 := ⟨bt h.1 hb, Lib.hid (h.2.out.below hb)⟩
abbrev Fi4 (w : World) (b x b' y : Nat) (u0 u1 v0 v1 : Value) (w' : World) : Prop := FiT w w' ∧ w'.cell? ⟨b, x, none⟩ = some u0 ∧ w'.cell? ⟨b, x + 1, none⟩ = some u1 ∧ w'.cell? ⟨b', y, none⟩ = some v0 ∧ w'.cell? ⟨b', y + 1, none⟩ = some v1
section
variable {w w1 w2 : World} {b x b' y : Nat} {u0 u1 v0 v1 : Value}
theorem Fi4.drew (h : Fi4 w b x b' y u0 u1 v0 v1 w1) : Fi4 w b x b' y u0 u1 v0 v1 w1.drew := ⟨h.1.drew, h.2⟩
theorem Fi4.of (h : FiT w w1) (hb : b < w.heap.size) (hb' : b' < w.heap.size) (d0 : w.cell? ⟨b, x, none⟩ = some u0) (d1 : w.cell? ⟨b, x + 1, none⟩ = some u1) (e0 : w.cell? ⟨b', y, none⟩ = some v0) (e1 : w.cell? ⟨b', y + 1, none⟩ = some v1) : Fi4 w b x b' y u0 u1 v0 v1 w1 :=
  ⟨h, (h.1.cell (p := ⟨b, _, none⟩) hb).trans d0, (h.1.cell (p := ⟨b, _, none⟩) hb).trans d1, (h.1.cell (p := ⟨b', _, none⟩) hb').trans e0, (h.1.cell (p := ⟨b', _, none⟩) hb').trans e1⟩
end
set_option maxRecDepth 100000 in
set_option maxHeartbeats 20000000 in
theorem fst_eq (w : World) (A : Option Addr) (c : Nat) (l : List Ev) (HR : Hid (Reads w w.heap.size 2 A l.length (evs l))) (Hc : Hid (l.length ≤ c)) (A' : Option Addr) (c' : Nat) (m : List Ev) (HR' : Hid (Reads w w.heap.size 2 A' m.length (evs m))) (Hc' : Hid (m.length ≤ c')) (HP : Hid (Pow w))
    (hva : Hid (false = decide (400 < l.length ∧ l.length ≤ 5000 ∨ 5100 < l.length))) (hvb : Hid (false = decide (400 < m.length ∧ m.length ≤ 5000 ∨ 5100 < m.length))) (hlm : l = m) :
    Calls Tryd.prog 3 #[.slice A l.length c, .slice A' m.length c'] w fun e w' => e = .returned (.bool true) ∧ Below w.heap.size w w' := by
  have HF0 := Lib.hid (Fr.start w)
  have hl := Lib.hid (far_no hva)
  have hm := Lib.hid (far_no hvb)
  have hself := Lib.hid (show dif l l = -1 from difF_self 0 l)
  have hcom := Lib.hid (show dif m l = dif l m from difF_comm 0 l m)
  have hD := Lib.hid (show dif l m = -1 by rw [← hlm]; exact hself.out)
  obtain ⟨d, hd⟩ : ∃ d, Hid (d = dg l) := ⟨_, Lib.hid rfl⟩
  have hd' : Hid (d = dg m) := Lib.hid (by rw [← hlm]; exact hd.out)
  have hS := Lib.hid (decide_eq_true hlm)
  clear hlm
  go_enter Tryd.func3, Tryd.ntmps3
  go_wp2_with fail
  (with_reducible refine (far_ _ A c _ _ hva).mono ?_); rintro e w1 ⟨rfl, hw1⟩; subst w1
  go_wp2_with fail
  (with_reducible refine (far_ _ A' c' _ _ hvb).mono ?_); rintro e w1 ⟨rfl, hw1⟩; subst w1
  go_wp2_with fail
  (with_reducible refine (differ_ _ _ _ A A' c c' l m (HR.out.go HF0.out.bel) (HR'.out.go HF0.out.bel) (by have := hl.out; omega) (by have := hm.out; omega)).mono ?_); rintro e w1 ⟨rfl, hb1⟩
  have HF1 := Lib.hid (HF0.out.go hb1)
  clear hb1 HF0
  rw [hD.out]
  go_wp2_with fail
  (with_reducible refine (same_any _ _ _ A A' c c' l m (HR.out.go HF1.out.bel) (HR'.out.go HF1.out.bel) (by have := hl.out; omega)).mono ?_); rintro e w2 ⟨rfl, hb2⟩
  have HF2 := Lib.hid (HF1.out.go hb2)
  clear hb2 HF1
  rw [hS.out]
  go_wp2_with fail
  (with_reducible refine (differ_ _ _ _ A' A c' c m l (HR'.out.go HF2.out.bel) (HR.out.go HF2.out.bel) (by have := hm.out; omega) (by have := hl.out; omega)).mono ?_); rintro e w3 ⟨rfl, hb3⟩
  have HF3 := Lib.hid (HF2.out.go hb3)
  clear hb3 HF2
  rw [hcom.out, hD.out]
  go_wp2_with fail
  (with_reducible refine (digest_ _ A c l (HR.out.go HF3.out.bel) (by have := hl.out; omega)).mono ?_); rintro e w4 ⟨rfl, hb4⟩
  have HF4 := Lib.hid (HF3.out.go hb4)
  clear hb4 HF3
  rw [← hd.out]
  go_wp2_with fail
  (with_reducible refine (digest_ _ A' c' m (HR'.out.go HF4.out.bel) (by have := hm.out; omega)).mono ?_); rintro e w5 ⟨rfl, hb5⟩
  have HF5 := Lib.hid (HF4.out.go hb5)
  clear hb5 HF4
  rw [← hd'.out]
  go_wp2_with fail
  (with_reducible refine (differ_ _ _ _ A A c c l l (HR.out.go HF5.out.bel) (HR.out.go HF5.out.bel) (by have := hl.out; omega) (by have := hl.out; omega)).mono ?_); rintro e w6 ⟨rfl, hb6⟩
  have HF6 := Lib.hid (HF5.out.go hb6)
  clear hb6 HF5
  rw [hself.out]
  go_wp2_with fail
  (with_reducible refine (awake_ _ (by exact HP.out.below HF6.out.bel)).mono ?_); rintro e wz ⟨rfl, hbz⟩
  have hB := (HF6.out.go hbz).bel
  go_wp2
  go_ret
  exact ⟨rfl, hB⟩
end Go.Proofs.YtpgojecldmcopaaDoor
