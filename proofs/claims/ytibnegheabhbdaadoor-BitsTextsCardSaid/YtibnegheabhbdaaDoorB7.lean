/- Rows of bits: And, Or and Not of the reference. -/
import Derived.Test.YtibnegheabhbdaaDoorB6
namespace Go.Proofs.YtibnegheabhbdaaDoor
open Go.RowKit
def twoE (n m : Nat) : Int := if chkB n ≠ 0 then chkB n else if chkB m ≠ 0 then chkB m else if n ≠ m then 6 else 0
theorem twoE_ok {n m : Nat} (h : twoE n m = 0) : chkB n = 0 ∧ n = m := by
  unfold twoE at h
  by_cases h1 : chkB n ≠ 0
  · rw [if_pos h1] at h; exact absurd h h1
  rw [if_neg h1] at h
  by_cases h2 : chkB m ≠ 0
  · rw [if_pos h2] at h; exact absurd h h2
  rw [if_neg h2] at h
  by_cases h3 : n ≠ m
  · rw [if_pos h3] at h; cases h
  · exact ⟨by simpa using h1, by simpa using h3⟩
theorem two_ (w : World) (A A' : Option Addr) (c c' n m : Nat) (hn : n ≤ 9223372036854775807) (hm : m ≤ 9223372036854775807) (x : Int) (hx : Hid (x = twoE n m)) :
    Calls Tryd.prog 47 #[.slice A n c, .slice A' m c'] w fun e w' => e = .returned (.int .i64 x) ∧ w = w' := by
  obtain ⟨y, hy⟩ : ∃ y, y = chkB n := ⟨_, rfl⟩
  obtain ⟨z, hz⟩ : ∃ z, z = chkB m := ⟨_, rfl⟩
  have Hy := Lib.hid hy
  have Hz := Lib.hid hz
  have hxx := hx.out
  unfold twoE at hxx
  rw [← hy, ← hz] at hxx
  clear hy hz
  by_cases h1 : y = 0
  · subst h1
    by_cases h2 : z = 0
    · subst h2
      by_cases h3 : n = m
      · have e3 : ((n : Int) != (m : Int)) = false := by simp [h3]
        have HX := Lib.hid (show x = 0 by rw [hxx]; simp [h3])
        clear hxx h3
        go_enter Tryd.func47, Tryd.ntmps47
        go_wp2_with fail
        (with_reducible refine (rcheck_ _ A c n hn 0 Hy).mono ?_); rintro e w' ⟨rfl, rfl⟩
        go_wp2_with fail
        (with_reducible refine (rcheck_ _ A' c' m hm 0 Hz).mono ?_); rintro e w' ⟨rfl, rfl⟩
        go_wp2
        go_ret
        exact ⟨ret_int HX.out.symm, rfl⟩
      · have e3 : ((n : Int) != (m : Int)) = true := by simp; omega
        have HX := Lib.hid (show x = 6 by rw [hxx]; simp [h3])
        clear hxx h3
        go_enter Tryd.func47, Tryd.ntmps47
        go_wp2_with fail
        (with_reducible refine (rcheck_ _ A c n hn 0 Hy).mono ?_); rintro e w' ⟨rfl, rfl⟩
        go_wp2_with fail
        (with_reducible refine (rcheck_ _ A' c' m hm 0 Hz).mono ?_); rintro e w' ⟨rfl, rfl⟩
        go_wp2
        go_ret
        exact ⟨ret_int HX.out.symm, rfl⟩
    · have e2 : (z == 0) = false := by simpa using h2
      have HX := Lib.hid (show x = z by rw [hxx]; simp [h2])
      clear hxx h2
      go_enter Tryd.func47, Tryd.ntmps47
      go_wp2_with fail
      (with_reducible refine (rcheck_ _ A c n hn 0 Hy).mono ?_); rintro e w' ⟨rfl, rfl⟩
      go_wp2_with fail
      (with_reducible refine (rcheck_ _ A' c' m hm z Hz).mono ?_); rintro e w' ⟨rfl, rfl⟩
      go_wp2
      go_ret
      exact ⟨ret_int HX.out.symm, rfl⟩
  · have e1 : (y == 0) = false := by simpa using h1
    have HX := Lib.hid (show x = y by rw [hxx]; simp [h1])
    clear hxx h1
    go_enter Tryd.func47, Tryd.ntmps47
    go_wp2_with fail
    (with_reducible refine (rcheck_ _ A c n hn y Hy).mono ?_); rintro e w' ⟨rfl, rfl⟩
    go_wp2
    go_ret
    exact ⟨ret_int HX.out.symm, rfl⟩
def andL (l m : List Nat) : List Nat := if twoE l.length m.length = 0 then rowOf l.length (fun i => rbit l i && rbit m i) else []
def orL (l m : List Nat) : List Nat := if twoE l.length m.length = 0 then rowOf l.length (fun i => rbit l i || rbit m i) else []
def notL (l : List Nat) : List Nat := if chkB l.length = 0 then rowOf l.length (fun i => !rbit l i) else []
theorem RowAt.ret {w w' : World} {l : List Nat} {n : Nat} {f : Nat → Bool} {m : List Nat} {A : Option Addr} {c : Nat} (h : RowAt w n (64 * n) f m A c w') (hl : l = rowOf n f) : RetSl w 1 (u64s l) l.length 0 (.returned (.tuple #[.slice A n c, .int .i64 0])) w' := by
  have := h.up.done
  subst hl
  rw [this] at h
  exact ⟨A, c, by rw [rowOf_len], h.bel, by rw [rowOf_len]; exact h.rd, by rw [rowOf_len]; exact h.cap.1, h.cap.2⟩
theorem RowAt.zero (w : World) (n : Nat) (hn : n ≤ 100) (f : Nat → Bool) : RowAt w n 0 f (List.replicate n 0) (some ⟨w.heap.size, 0, none⟩) n (w.alloc (.cells (madeCells #[.int .u64 0] n) 55)) :=
  ⟨ba (Below.refl _ _) _, zeros_rd w n, ⟨Nat.le_refl _, by omega⟩, Upto.start n f⟩
set_option maxRecDepth 100000 in
set_option maxHeartbeats 2000000 in
theorem rand_ (w : World) (A A' : Option Addr) (c c' : Nat) (l m : List Nat) (h : Reads w w.heap.size 1 A l.length (u64s l)) (h' : Reads w w.heap.size 1 A' m.length (u64s m)) (hw : W64 l) (hw' : W64 m) (hl : l.length ≤ 9223372036854775807) (hl' : m.length ≤ 9223372036854775807) :
    Calls Tryd.prog 20 #[.slice A l.length c, .slice A' m.length c'] w (RetSl w 1 (u64s (andL l m)) (andL l m).length (twoE l.length m.length)) := by
  obtain ⟨x, hx⟩ : ∃ x, x = twoE l.length m.length := ⟨_, rfl⟩
  have Hx := Lib.hid hx
  rw [← hx]
  by_cases h0 : x = 0
  · subst h0
    obtain ⟨hc0, hlm⟩ := twoE_ok hx.symm
    obtain ⟨h1, h8⟩ := chkB_ok.1 hc0
    obtain ⟨f, hf⟩ : ∃ f : Nat → Bool, f = fun i => rbit l i && rbit m i := ⟨_, rfl⟩
    have HL := Lib.hid (show andL l m = rowOf l.length f by rw [hf]; exact if_pos hx.symm)
    have Hf := Lib.hid hf
    have Hg := Lib.hid (fun w1 (hb : Below w.heap.size w w1) i hi => get_ w1 A c l (h.go hb) (by omega) hw i hi)
    have Hg' := Lib.hid (fun w1 (hb : Below w.heap.size w w1) i hi => get_ w1 A' c' m (h'.go hb) (by omega) hw' i hi)
    have hmk := mk64 l.length (by omega)
    have hR0 := RowAt.zero w l.length (by omega) f
    have hn : IntKind.i64.wrap (64 * (l.length : Int)) = 64 * (l.length : Int) := IntWalk.i64_in _ (by omega)
    have Hlm := Lib.hid hlm
    clear hx h h' hw hw' hc0 hf hlm
    go_enter Tryd.func20, Tryd.ntmps20
    go_wp2_with fail
    (with_reducible refine (two_ _ A A' c c' l.length m.length hl hl' 0 Hx).mono ?_); rintro e w' ⟨rfl, rfl⟩
    go_wp2_with fail
    go_loopw [7, 8] (fun vv i wr => ∃ (q : Nat) (r : List Nat) (A2 : Option Addr) (c2 : Nat), q ≤ 64 * l.length ∧ i = .int .i64 q ∧ vv = .slice A2 l.length c2 ∧ RowAt w l.length q f r A2 c2 wr) (fun _ i _ => 64 * l.length - (intOf i).toNat)
    case atStart => exact ⟨0, _, _, l.length, by omega, rfl, rfl, hR0⟩
    case round =>
      obtain ⟨q, r, A2, c2, hq, rfl, rfl, hR⟩ := hrel
      clear hR0 hmk
      by_cases hql : q < 64 * l.length
      · have hfq : f q = (rbit l q && rbit m q) := by rw [Hf.out]
        have hg1 := Hg.out wr hR.bel q hql
        have hg2 := Hg'.out wr hR.bel q (by rw [← Hlm.out]; exact hql)
        have hlen2 : (setB r q (f q)).length = l.length := by rw [setB_len, hR.up.len]
        have hwq := with_ wr A2 c2 r (by rw [hR.up.len]; exact hR.rd) (by rw [hR.up.len]; omega) hR.up.w q (by rw [hR.up.len]; exact hql) (f q)
        rw [hR.up.len] at hwq
        have hwq2 : Calls Tryd.prog 43 #[.slice A2 l.length c2, .int .i64 q, .bool (f q)] wr fun e w' => ∃ A3 c3, e = .returned (.slice A3 l.length c3) ∧ RowAt w l.length (q + 1) f (setB r q (f q)) A3 c3 w' :=
          hwq.mono fun e w' ⟨A3, c3, he, ho, hb⟩ => ⟨A3, c3, by rw [he, hlen2], hR.of hql ho hb⟩
        generalize setB r q (f q) = r2 at *
        have Hwq := Lib.hid hwq2
        have Hg1 := Lib.hid hg1
        have Hg2 := Lib.hid hg2
        rw [hfq] at Hwq
        clear hg1 hg2 hwq hwq2 hR hlen2 hfq
        generalize rbit l q = b1 at *
        generalize rbit m q = b2 at *
        cases b1
        case false =>
          have Hw2 : Hid (Calls Tryd.prog 43 #[.slice A2 l.length c2, .int .i64 q, .bool false] wr fun e w' => ∃ A3 c3, e = .returned (.slice A3 l.length c3) ∧ RowAt w l.length (q + 1) f r2 A3 c3 w') := Hwq
          clear Hwq Hg2
          go_wp2_with fail
          (with_reducible refine (Hg1.out).mono ?_); rintro e w3 ⟨rfl, rfl⟩
          go_wp2_with fail
          (with_reducible refine (Hw2.out).mono ?_); rintro e w4 ⟨A3, c3, rfl, hR2⟩
          clear Hw2 Hg1
          go_wp2
          go_roundw
          case rel => exact ⟨q + 1, r2, A3, c3, by omega, by go_num, rfl, hR2⟩
          case measure => simp [intOf]; omega
        case true =>
          have Hw2 : Hid (Calls Tryd.prog 43 #[.slice A2 l.length c2, .int .i64 q, .bool b2] wr fun e w' => ∃ A3 c3, e = .returned (.slice A3 l.length c3) ∧ RowAt w l.length (q + 1) f r2 A3 c3 w') := Hwq
          clear Hwq
          go_wp2_with fail
          (with_reducible refine (Hg1.out).mono ?_); rintro e w3 ⟨rfl, rfl⟩
          go_wp2_with fail
          (with_reducible refine (Hg2.out).mono ?_); rintro e w3 ⟨rfl, rfl⟩
          go_wp2_with fail
          (with_reducible refine (Hw2.out).mono ?_); rintro e w4 ⟨A3, c3, rfl, hR2⟩
          clear Hw2 Hg1 Hg2
          go_wp2
          go_roundw
          case rel => exact ⟨q + 1, r2, A3, c3, by omega, by go_num, rfl, hR2⟩
          case measure => simp [intOf]; omega
      · obtain rfl : q = 64 * l.length := by omega
        have HR := Lib.hid hR
        clear hR
        go_wp2
        go_ret2
        exact HR.out.ret HL.out
  · have HL := Lib.hid (show andL l m = [] from if_neg (by rw [← hx]; exact h0))
    have e1 : (x != 0) = true := by simpa using h0
    clear hx h0 h h'
    go_enter Tryd.func20, Tryd.ntmps20
    go_wp2_with fail
    (with_reducible refine (two_ _ A A' c c' l.length m.length hl hl' x Hx).mono ?_); rintro e w' ⟨rfl, rfl⟩
    go_wp2
    go_ret2
    rw [HL.out]
    exact RetSl.nil (Below.refl _ _) rfl rfl
set_option maxRecDepth 100000 in
set_option maxHeartbeats 2000000 in
theorem ror_ (w : World) (A A' : Option Addr) (c c' : Nat) (l m : List Nat) (h : Reads w w.heap.size 1 A l.length (u64s l)) (h' : Reads w w.heap.size 1 A' m.length (u64s m)) (hw : W64 l) (hw' : W64 m) (hl : l.length ≤ 9223372036854775807) (hl' : m.length ≤ 9223372036854775807) :
    Calls Tryd.prog 22 #[.slice A l.length c, .slice A' m.length c'] w (RetSl w 1 (u64s (orL l m)) (orL l m).length (twoE l.length m.length)) := by
  obtain ⟨x, hx⟩ : ∃ x, x = twoE l.length m.length := ⟨_, rfl⟩
  have Hx := Lib.hid hx
  rw [← hx]
  by_cases h0 : x = 0
  · subst h0
    obtain ⟨hc0, hlm⟩ := twoE_ok hx.symm
    obtain ⟨h1, h8⟩ := chkB_ok.1 hc0
    obtain ⟨f, hf⟩ : ∃ f : Nat → Bool, f = fun i => rbit l i || rbit m i := ⟨_, rfl⟩
    have HL := Lib.hid (show orL l m = rowOf l.length f by rw [hf]; exact if_pos hx.symm)
    have Hf := Lib.hid hf
    have Hg := Lib.hid (fun w1 (hb : Below w.heap.size w w1) i hi => get_ w1 A c l (h.go hb) (by omega) hw i hi)
    have Hg' := Lib.hid (fun w1 (hb : Below w.heap.size w w1) i hi => get_ w1 A' c' m (h'.go hb) (by omega) hw' i hi)
    have hmk := mk64 l.length (by omega)
    have hR0 := RowAt.zero w l.length (by omega) f
    have hn : IntKind.i64.wrap (64 * (l.length : Int)) = 64 * (l.length : Int) := IntWalk.i64_in _ (by omega)
    have Hlm := Lib.hid hlm
    clear hx h h' hw hw' hc0 hf hlm
    go_enter Tryd.func22, Tryd.ntmps22
    go_wp2_with fail
    (with_reducible refine (two_ _ A A' c c' l.length m.length hl hl' 0 Hx).mono ?_); rintro e w' ⟨rfl, rfl⟩
    go_wp2_with fail
    go_loopw [7, 8] (fun vv i wr => ∃ (q : Nat) (r : List Nat) (A2 : Option Addr) (c2 : Nat), q ≤ 64 * l.length ∧ i = .int .i64 q ∧ vv = .slice A2 l.length c2 ∧ RowAt w l.length q f r A2 c2 wr) (fun _ i _ => 64 * l.length - (intOf i).toNat)
    case atStart => exact ⟨0, _, _, l.length, by omega, rfl, rfl, hR0⟩
    case round =>
      obtain ⟨q, r, A2, c2, hq, rfl, rfl, hR⟩ := hrel
      clear hR0 hmk
      by_cases hql : q < 64 * l.length
      · have hfq : f q = (rbit l q || rbit m q) := by rw [Hf.out]
        have hg1 := Hg.out wr hR.bel q hql
        have hg2 := Hg'.out wr hR.bel q (by rw [← Hlm.out]; exact hql)
        have hlen2 : (setB r q (f q)).length = l.length := by rw [setB_len, hR.up.len]
        have hwq := with_ wr A2 c2 r (by rw [hR.up.len]; exact hR.rd) (by rw [hR.up.len]; omega) hR.up.w q (by rw [hR.up.len]; exact hql) (f q)
        rw [hR.up.len] at hwq
        have hwq2 : Calls Tryd.prog 43 #[.slice A2 l.length c2, .int .i64 q, .bool (f q)] wr fun e w' => ∃ A3 c3, e = .returned (.slice A3 l.length c3) ∧ RowAt w l.length (q + 1) f (setB r q (f q)) A3 c3 w' :=
          hwq.mono fun e w' ⟨A3, c3, he, ho, hb⟩ => ⟨A3, c3, by rw [he, hlen2], hR.of hql ho hb⟩
        generalize setB r q (f q) = r2 at *
        have Hwq := Lib.hid hwq2
        have Hg1 := Lib.hid hg1
        have Hg2 := Lib.hid hg2
        rw [hfq] at Hwq
        clear hg1 hg2 hwq hwq2 hR hlen2 hfq
        generalize rbit l q = b1 at *
        generalize rbit m q = b2 at *
        cases b1
        case true =>
          have Hw2 : Hid (Calls Tryd.prog 43 #[.slice A2 l.length c2, .int .i64 q, .bool true] wr fun e w' => ∃ A3 c3, e = .returned (.slice A3 l.length c3) ∧ RowAt w l.length (q + 1) f r2 A3 c3 w') := Hwq
          clear Hwq Hg2
          go_wp2_with fail
          (with_reducible refine (Hg1.out).mono ?_); rintro e w3 ⟨rfl, rfl⟩
          go_wp2_with fail
          (with_reducible refine (Hw2.out).mono ?_); rintro e w4 ⟨A3, c3, rfl, hR2⟩
          clear Hw2 Hg1
          go_wp2
          go_roundw
          case rel => exact ⟨q + 1, r2, A3, c3, by omega, by go_num, rfl, hR2⟩
          case measure => simp [intOf]; omega
        case false =>
          have Hw2 : Hid (Calls Tryd.prog 43 #[.slice A2 l.length c2, .int .i64 q, .bool b2] wr fun e w' => ∃ A3 c3, e = .returned (.slice A3 l.length c3) ∧ RowAt w l.length (q + 1) f r2 A3 c3 w') := Hwq
          clear Hwq
          go_wp2_with fail
          (with_reducible refine (Hg1.out).mono ?_); rintro e w3 ⟨rfl, rfl⟩
          go_wp2_with fail
          (with_reducible refine (Hg2.out).mono ?_); rintro e w3 ⟨rfl, rfl⟩
          go_wp2_with fail
          (with_reducible refine (Hw2.out).mono ?_); rintro e w4 ⟨A3, c3, rfl, hR2⟩
          clear Hw2 Hg1 Hg2
          go_wp2
          go_roundw
          case rel => exact ⟨q + 1, r2, A3, c3, by omega, by go_num, rfl, hR2⟩
          case measure => simp [intOf]; omega
      · obtain rfl : q = 64 * l.length := by omega
        have HR := Lib.hid hR
        clear hR
        go_wp2
        go_ret2
        exact HR.out.ret HL.out
  · have HL := Lib.hid (show orL l m = [] from if_neg (by rw [← hx]; exact h0))
    have e1 : (x != 0) = true := by simpa using h0
    clear hx h0 h h'
    go_enter Tryd.func22, Tryd.ntmps22
    go_wp2_with fail
    (with_reducible refine (two_ _ A A' c c' l.length m.length hl hl' x Hx).mono ?_); rintro e w' ⟨rfl, rfl⟩
    go_wp2
    go_ret2
    rw [HL.out]
    exact RetSl.nil (Below.refl _ _) rfl rfl
set_option maxRecDepth 100000 in
set_option maxHeartbeats 2000000 in
theorem rnot_ (w : World) (A : Option Addr) (c : Nat) (l : List Nat) (h : Reads w w.heap.size 1 A l.length (u64s l)) (hw : W64 l) (hl : l.length ≤ 9223372036854775807) :
    Calls Tryd.prog 24 #[.slice A l.length c] w (RetSl w 1 (u64s (notL l)) (notL l).length (chkB l.length)) := by
  obtain ⟨x, hx⟩ : ∃ x, x = chkB l.length := ⟨_, rfl⟩
  have Hx := Lib.hid hx
  rw [← hx]
  by_cases h0 : x = 0
  · subst h0
    obtain ⟨h1, h8⟩ := chkB_ok.1 hx.symm
    obtain ⟨f, hf⟩ : ∃ f : Nat → Bool, f = fun i => !rbit l i := ⟨_, rfl⟩
    have HL := Lib.hid (show notL l = rowOf l.length f by rw [hf]; exact if_pos hx.symm)
    have Hf := Lib.hid hf
    have Hg := Lib.hid (fun w1 (hb : Below w.heap.size w w1) i hi => get_ w1 A c l (h.go hb) (by omega) hw i hi)
    have hmk := mk64 l.length (by omega)
    have hR0 := RowAt.zero w l.length (by omega) f
    have hn : IntKind.i64.wrap (64 * (l.length : Int)) = 64 * (l.length : Int) := IntWalk.i64_in _ (by omega)
    clear hx h hw hf
    go_enter Tryd.func24, Tryd.ntmps24
    go_wp2_with fail
    (with_reducible refine (rcheck_ _ A c l.length hl 0 Hx).mono ?_); rintro e w' ⟨rfl, rfl⟩
    go_wp2_with fail
    go_loopw [5, 6] (fun vv i wr => ∃ (q : Nat) (r : List Nat) (A2 : Option Addr) (c2 : Nat), q ≤ 64 * l.length ∧ i = .int .i64 q ∧ vv = .slice A2 l.length c2 ∧ RowAt w l.length q f r A2 c2 wr) (fun _ i _ => 64 * l.length - (intOf i).toNat)
    case atStart => exact ⟨0, _, _, l.length, by omega, rfl, rfl, hR0⟩
    case round =>
      obtain ⟨q, r, A2, c2, hq, rfl, rfl, hR⟩ := hrel
      clear hR0 hmk
      by_cases hql : q < 64 * l.length
      · have hfq : f q = !rbit l q := by rw [Hf.out]
        have hg1 := Hg.out wr hR.bel q hql
        have hlen2 : (setB r q (f q)).length = l.length := by rw [setB_len, hR.up.len]
        have hwq := with_ wr A2 c2 r (by rw [hR.up.len]; exact hR.rd) (by rw [hR.up.len]; omega) hR.up.w q (by rw [hR.up.len]; exact hql) (f q)
        rw [hR.up.len] at hwq
        have hwq2 : Calls Tryd.prog 43 #[.slice A2 l.length c2, .int .i64 q, .bool (f q)] wr fun e w' => ∃ A3 c3, e = .returned (.slice A3 l.length c3) ∧ RowAt w l.length (q + 1) f (setB r q (f q)) A3 c3 w' :=
          hwq.mono fun e w' ⟨A3, c3, he, ho, hb⟩ => ⟨A3, c3, by rw [he, hlen2], hR.of hql ho hb⟩
        generalize setB r q (f q) = r2 at *
        have Hwq := Lib.hid hwq2
        have Hg1 := Lib.hid hg1
        rw [hfq] at Hwq
        clear hg1 hwq hwq2 hR hlen2 hfq
        generalize rbit l q = b1 at *
        obtain ⟨nb1, hnb⟩ : ∃ nb1, nb1 = !b1 := ⟨_, rfl⟩
        rw [← hnb] at Hwq
        cases b1
        all_goals
          obtain rfl := hnb
          have Hw2 : Hid (Calls Tryd.prog 43 #[.slice A2 l.length c2, .int .i64 q, .bool _] wr fun e w' => ∃ A3 c3, e = .returned (.slice A3 l.length c3) ∧ RowAt w l.length (q + 1) f r2 A3 c3 w') := Hwq
          simp only [Bool.not_true, Bool.not_false] at Hw2
          clear Hwq
          go_wp2_with fail
          (with_reducible refine (Hg1.out).mono ?_); rintro e w3 ⟨rfl, rfl⟩
          go_wp2_with fail
          (with_reducible refine (Hw2.out).mono ?_); rintro e w4 ⟨A3, c3, rfl, hR2⟩
          clear Hw2 Hg1
          go_wp2
          go_roundw
          case rel => exact ⟨q + 1, r2, A3, c3, by omega, by go_num, rfl, hR2⟩
          case measure => simp [intOf]; omega
      · obtain rfl : q = 64 * l.length := by omega
        have HR := Lib.hid hR
        clear hR
        go_wp2
        go_ret2
        exact HR.out.ret HL.out
  · have HL := Lib.hid (show notL l = [] from if_neg (by rw [← hx]; exact h0))
    have e1 : (x != 0) = true := by simpa using h0
    clear hx h0 h
    go_enter Tryd.func24, Tryd.ntmps24
    go_wp2_with fail
    (with_reducible refine (rcheck_ _ A c l.length hl x Hx).mono ?_); rintro e w' ⟨rfl, rfl⟩
    go_wp2
    go_ret2
    rw [HL.out]
    exact RetSl.nil (Below.refl _ _) rfl rfl
end Go.Proofs.YtibnegheabhbdaaDoor
