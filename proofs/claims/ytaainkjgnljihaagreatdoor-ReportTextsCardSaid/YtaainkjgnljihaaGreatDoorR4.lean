/- Reports checked by the reference; compared. -/
import Derived.Test.YtaainkjgnljihaaGreatDoorR1
namespace Go.Proofs.YtaainkjgnljihaaGreatDoor
open Go.RowKit
abbrev RpT (w : World) (A : Option Addr) (l : List Hit) (c : Nat) (o : Bool) (d : Int) (w1 : World) : Prop := Fr w [(w.heap.size, repO A l.length c o d)] w1
theorem RpT.cells {w w1 : World} {A : Option Addr} {l : List Hit} {c : Nat} {o : Bool} {d : Int} (h : RpT w A l c o d w1) :
    w1.cell? ⟨w.heap.size, 0, none⟩ = some (.slice A l.length c) ∧ w1.cell? ⟨w.heap.size, 1, none⟩ = some (.bool o) ∧ w1.cell? ⟨w.heap.size, 2, none⟩ = some (.int .i64 d) ∧ w.heap.size < w1.heap.size :=
  ⟨Lib.cell_of_heap (h.at List.mem_cons_self) 0, Lib.cell_of_heap (h.at List.mem_cons_self) 1, Lib.cell_of_heap (h.at List.mem_cons_self) 2, h.lt List.mem_cons_self⟩
theorem flgB_or (o : Bool) (d m k : Int) : flgB o d m k = !((o != decide (0 < d)) || (o && (m != 0) && (m != k))) := by
  unfold flgB
  cases o <;> by_cases h : 0 < d <;> by_cases h1 : m = 0 <;> by_cases h2 : m = k <;> simp [h, h1, h2]
set_option maxRecDepth 100000 in
set_option maxHeartbeats 2000000 in
theorem rcheck_ (w : World) (A : Option Addr) (c : Nat) (l : List Hit) (h : Reads w w.heap.size 2 A l.length (hits l)) (hl : l.length ≤ 9223372036854775807) (o : Bool) (d k : Int) :
    Calls Tryz.prog 19 #[repV A l.length c o d, .int .i64 k] w fun e w' => e = .returned (.tuple #[.int .i64 (chkR l o d k).1, .int .i64 (chkR l o d k).2]) ∧ Below w.heap.size w w' := by
  generalize hx : chkR l o d k = x
  unfold chkR at hx
  obtain ⟨cp, hcp⟩ : ∃ cp, cp = capK k := ⟨_, rfl⟩
  rw [← hcp] at hx
  have Hcp := Lib.hid hcp
  clear hcp
  by_cases h0 : cp = false
  · rw [if_pos h0] at hx
    subst h0
    have Hx := Lib.hid hx.symm
    clear hx
    go_enter Tryz.func19, Tryz.ntmps19
    go_wp2_with fail
    (with_reducible refine (capacity_ k false Hcp _).mono ?_); rintro e w' ⟨rfl, rfl⟩
    go_wp2
    go_ret2
    exact ⟨ret_pr Hx.out, ba (Below.refl _ _) _⟩
  rw [if_neg h0] at hx
  obtain rfl : cp = true := by simpa using h0
  clear h0
  by_cases h1 : k < l.length
  · rw [if_pos h1] at hx
    have Hx := Lib.hid hx.symm
    clear hx
    go_enter Tryz.func19, Tryz.ntmps19
    go_wp2_with fail
    (with_reducible refine (capacity_ k true Hcp _).mono ?_); rintro e w' ⟨rfl, rfl⟩
    go_wp2
    go_ret2
    exact ⟨ret_pr Hx.out, ba (Below.refl _ _) _⟩
  rw [if_neg h1] at hx
  have Hx := Lib.hid hx
  clear hx
  go_enter Tryz.func19, Tryz.ntmps19
  go_wp2_with fail
  (with_reducible refine (capacity_ k true Hcp _).mono ?_); rintro e w' ⟨rfl, rfl⟩
  go_wp2_with fail
  go_loopw [6] (fun i wr => ∃ j : Nat, j ≤ l.length ∧ i = .int .i64 j ∧ WrgRel l j ∧ RpT w A l c o d wr) (fun i _ => l.length - (intOf i).toNat)
  case atStart => exact ⟨0, Nat.zero_le _, rfl, WrgRel.start l, (Fr.start w).newN rfl _⟩
  case round =>
    obtain ⟨j, hj, rfl, hr, hF⟩ := hrel
    obtain ⟨c0, c1, c2, hlt⟩ := hF.cells
    by_cases hjl : j < l.length
    · have hR := h.go hF.bel
      have hd := Lib.hid (List.drop_eq_getElem_cons hjl)
      have hA : hitAt l j = l[j] := by rw [hitAt_of hd]
      have hc := ascends_ wr A c l hR hl j hjl
      rw [hA] at hc
      by_cases he : hitErr (prevH l j) l[j] = 0
      · have hr2 := hr.step hd he
        rw [he] at hc
        have Hc := Lib.hid hc
        clear hc he hA hd hr
        go_wp2_with fail
        (with_reducible refine (Hc.out).mono ?_); rintro e w1 ⟨rfl, hb1⟩
        have hF1 : RpT w A l c o d w1 := hF.go hb1
        clear hF
        go_wp2
        go_roundw
        case rel => exact ⟨j + 1, by omega, by go_num, hr2, hF1⟩
        case measure => simp [intOf]; omega
      · have hS := hr.stop (n := hitErr (prevH l j) l[j]) hd rfl he
        generalize hitErr (prevH l j) l[j] = E at *
        have e2 : (E != 0) = true := by simpa using he
        have HX := Lib.hid (show x = ((j : Int), E) by rw [← Hx.out, hS, if_pos he])
        have Hc := Lib.hid hc
        clear hc hA hd hr he hS
        go_wp2_with fail
        (with_reducible refine (Hc.out).mono ?_); rintro e w1 ⟨rfl, hb1⟩
        have hB := bt hF.bel hb1
        clear hF
        go_wp2
        go_ret2
        exact ⟨ret_pr HX.out, hB⟩
    · have hS := hr.done (by omega)
      have hx2 := Hx.out
      rw [hS, if_neg (by simp)] at hx2
      have hB := hF.bel
      clear hS hr hF
      obtain rfl : j = l.length := by omega
      by_cases h3 : d < 0 ∨ 65535 < d
      · rw [if_pos h3] at hx2
        have HX := Lib.hid hx2.symm
        clear hx2
        go_wp2
        all_goals first | (exfalso; omega) | skip
        all_goals
          go_ret2
          exact ⟨ret_pr HX.out, hB⟩
      · rw [if_neg h3, flgB_or] at hx2
        have h31 : 0 ≤ d := by omega
        have h32 : d ≤ 65535 := by omega
        have HX := Lib.hid hx2
        clear h3 hx2 Hx
        cases o
        all_goals
          by_cases q1 : 0 < d
          all_goals
            have q2 := q1
            go_wp2
        all_goals
          go_ret2
          go_light
          refine ⟨ret_pr ?_, hB⟩
          have hx3 := HX.out
          first
            | (simp_all; done)
            | (simp_all; rw [if_neg (by omega)] at hx3; exact hx3.symm)
@[go_sem] theorem eqgHt : Tryz.prog.eqGuardType Tryz.prog.depth 34 = false := by kernel_rfl
@[go_sem] theorem eqHt (a b c d : Int) (w : World) : (Op.equalIn 10000 34 (.agg #[.int .i64 a, .int .i64 b]) (.agg #[.int .i64 c, .int .i64 d])).run Tryz.prog w = .ok (decide (((a, b) : Hit) = (c, d))) w := by
  have u3 := Tryz.underlying3
  have hS : Tryz.prog.underlying 34 = some (.struct (Tryz.prog.fieldsOf 34)) := by kernel_rfl
  rw [show (10000 : Nat) = 9999 + 1 from rfl, run_equalIn_agg w 9999 34 _ _ hS (by kernel_rfl)]
  simp only [Program.fieldsOf, Tryz.underlying34]
  go_simp
  by_cases h1 : a = c <;> by_cases h2 : b = d <;> simp [h1, h2]
@[go_sem high] theorem neqHt (a b c d : Int) (w : World) : (binOp .neq 34 (.agg #[.int .i64 a, .int .i64 b]) (.agg #[.int .i64 c, .int .i64 d])).run Tryz.prog w = .ok (.bool (!(decide (((a, b) : Hit) = (c, d))))) w := by
  rw [run_neq_struct, eqHt]; rfl
set_option maxRecDepth 100000 in
set_option maxHeartbeats 400000 in
theorem same_any (w : World) (B B' : Nat) (A A' : Option Addr) (c c' : Nat) (l m : List Hit) (h : Reads w B 2 A l.length (hits l)) (h' : Reads w B' 2 A' m.length (hits m)) (hl : l.length ≤ 9223372036854775807) :
    Calls Tryz.prog 28 #[.slice A l.length c, .slice A' m.length c'] w fun e w' => e = .returned (.bool (decide (l = m))) ∧ Below w.heap.size w w' := by
  by_cases hlen : l.length = m.length
  · have e0 : ((l.length : Int) != (m.length : Int)) = false := by simp [hlen]
    have hm : m.length ≤ l.length := by omega
    have Hlen := Lib.hid hlen
    clear hlen
    go_enter Tryz.func28, Tryz.ntmps28
    go_wp2
    go_loopw [5] (fun i wr => ∃ k : Nat, k ≤ l.length ∧ i = .int .i64 k ∧ Below w.heap.size w wr ∧ (∀ p, wr.cell? p = w.cell? p) ∧ CmpRel l m k) (fun i _ => l.length - (intOf i).toNat)
    case atStart => exact ⟨0, Nat.zero_le _, rfl, Below.refl _ _, fun _ => rfl, rfl⟩
    case round =>
      obtain ⟨k, hk, rfl, hbl, hsame, hr⟩ := hrel
      by_cases hlt : k < l.length
      · obtain ⟨b, off, K, n, rfl, hb, d1, d2, hd⟩ := htAt h hlt
        obtain ⟨b', off', K', n', rfl, hb', d1', d2', hd'⟩ := htAt h' (by rw [← Hlen.out]; exact hlt)
        have c1 := (hsame ⟨b, off + k * 2, none⟩).trans d1
        have c1' := (hsame ⟨b', off' + k * 2, none⟩).trans d1'
        have c2 := (hsame ⟨b, off + k * 2 + 1, none⟩).trans d2
        have c2' := (hsame ⟨b', off' + k * 2 + 1, none⟩).trans d2'
        have Hs := Lib.hid hsame
        clear d1 d1' d2 d2' hsame
        have hi1 : (k : Int) < (l.length : Int) := by omega
        have hi1' : (k : Int) < (m.length : Int) := by rw [← Hlen.out]; omega
        have hi0 : (0 : Int) ≤ (k : Int) := by omega
        go_wp2
        go_quiet (fail)
        go_wp2
        all_goals first
          | (go_roundw
             case rel =>
               go_light
               exact ⟨k + 1, by omega, by go_num, Go.RowKit.Below.trans hbl (drewN_below _ _), fun p => Hs.out p, hr.step hd hd' (by first | (simp_all; done) | (simp_all [bytes_eq]; done))⟩
             case measure => simp [intOf]; omega)
          | (go_ret
             go_light
             exact ⟨ret_ne rfl (CmpRel.stop hd hd' (by intro he; first | (simp_all; done) | (simp_all [bytes_eq]; done))), Go.RowKit.Below.trans hbl (drewN_below _ _)⟩)
      · go_wp2
        go_ret
        exact ⟨ret_eq rfl (hr.done (by omega) (by rw [← Hlen.out]; omega)), hbl⟩
  · have e0 : ((l.length : Int) != (m.length : Int)) = true := by rw [bne_iff_ne]; omega
    have Hn := Lib.hid (show l ≠ m from fun e => hlen (by rw [e]))
    clear hlen
    go_enter Tryz.func28, Tryz.ntmps28
    go_wp2
    go_ret
    exact ⟨ret_ne rfl Hn.out, Below.refl _ _⟩
end Go.Proofs.YtaainkjgnljihaaGreatDoor
