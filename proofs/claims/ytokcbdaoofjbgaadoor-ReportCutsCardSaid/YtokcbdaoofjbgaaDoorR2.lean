/- Reports checked, by the program and by its reference. -/
import Derived.Test.YtokcbdaoofjbgaaDoorR1
import Derived.IntWalk
namespace Go.Proofs.YtokcbdaoofjbgaaDoor
open Go.RowKit
theorem okH_iff {E I : Int} : okH (E, I) = true ↔ (1 ≤ E ∧ E ≤ 1000000) ∧ 1 ≤ I ∧ I ≤ 1000 := by simp [okH]; omega
abbrev WrT (w : World) (b off j : Nat) (E I E' I' : Int) (g : Nat) (w' : World) : Prop :=
  (Below w.heap.size w w' ∧ (b < w'.heap.size ∧ g < w'.heap.size)) ∧ w'.cell? ⟨b, off + j * 2, none⟩ = some (.int .i64 E') ∧ w'.cell? ⟨b, off + j * 2 + 1, none⟩ = some (.int .i64 I') ∧ w'.cell? ⟨g, 0, none⟩ = some (.int .i64 E) ∧ w'.cell? ⟨g, 1, none⟩ = some (.int .i64 I)
section
variable {w w1 w2 : World} {b off j g : Nat} {E I E' I' : Int}
theorem WrT.drew (h : WrT w b off j E I E' I' g w1) : WrT w b off j E I E' I' g w1.drew := ⟨⟨h.1.1.drew, h.1.2⟩, h.2⟩
theorem WrT.go (h : WrT w b off j E I E' I' g w1) (hb : Below w1.heap.size w1 w2) : WrT w b off j E I E' I' g w2 :=
  ⟨⟨bt h.1.1 hb, Nat.lt_of_lt_of_le h.1.2.1 hb.size, Nat.lt_of_lt_of_le h.1.2.2 hb.size⟩, (hb.cell (p := ⟨b, off + j * 2, none⟩) h.1.2.1).trans h.2.1, (hb.cell (p := ⟨b, off + j * 2 + 1, none⟩) h.1.2.1).trans h.2.2.1, (hb.cell (p := ⟨g, 0, none⟩) h.1.2.2).trans h.2.2.2.1, (hb.cell (p := ⟨g, 1, none⟩) h.1.2.2).trans h.2.2.2.2⟩
theorem WrT.bel (h : WrT w b off j E I E' I' g w1) : Below w.heap.size w w1 := h.1.1
end
set_option maxRecDepth 100000 in
set_option maxHeartbeats 2000000 in
theorem wrong_ (w : World) (A : Option Addr) (c : Nat) (l : List Hit) (h : Reads w w.heap.size 2 A l.length (hits l)) (hl : l.length ≤ 9223372036854775807) :
    Calls Tryd.prog 27 #[.slice A l.length c] w fun e w' => e = .returned (.tuple #[.int .i64 (wrg l).1, .int .i64 (wrg l).2]) ∧ Below w.heap.size w w' := by
  go_enter Tryd.func27, Tryd.ntmps27
  go_wp2
  go_loopw [8] (fun i wr => ∃ k : Nat, k ≤ l.length ∧ i = .int .i64 k ∧ WrgRel l k ∧ Below w.heap.size w wr) (fun i _ => l.length - (intOf i).toNat)
  case atStart => exact ⟨0, Nat.zero_le _, rfl, WrgRel.start l, Below.refl _ _⟩
  case round =>
    obtain ⟨k, hk, rfl, hr, hbl⟩ := hrel
    by_cases hlt : k < l.length
    · have hR := h.go hbl
      obtain ⟨b, off, E, I, rfl, hb, d1, d2, hd⟩ := htAt hR hlt
      by_cases ho : okH (E, I) = true
      · obtain ⟨⟨o1, o2⟩, o3, o4⟩ := okH_iff.1 ho
        by_cases hk0 : k = 0
        · subst hk0
          have hr2 := hr.step hd (hitErr_first ho)
          rw [Nat.zero_mul, Nat.add_zero] at d1 d2
          rw [show ((0 : Nat) : Int) = 0 from rfl]
          clear ho hr hd
          go_wp2_with fail
          go_quiet (fail)
          go_wp2
          go_roundw
          case rel => exact ⟨0 + 1, by omega, rfl, hr2, (ba hbl _).trans (drewN_below _ _)⟩
          case measure => simp [intOf]; omega
        · obtain ⟨j, hj⟩ : ∃ j, k = j + 1 := ⟨k - 1, by omega⟩
          obtain ⟨b', off', E', I', hA, hb', d1', d2', hd'⟩ := htAt hR (show j < l.length by omega)
          injection hA with hA; injection hA with hA1 hA2; subst hA1 hA2
          have hp := prevH_succ hd'
          rw [← hj] at hp
          have i0 : (0 : Int) < (k : Int) := by omega
          have i1 : IntKind.i64.wrap ((k : Int) - 1) = (k : Int) - 1 := IntWalk.i64_in _ (by omega)
          have i2 : (0 : Int) ≤ (k : Int) - 1 := by omega
          have i2' : (1 : Int) ≤ (k : Int) := by omega
          have i3 : (k : Int) - 1 < (l.length : Int) := by omega
          have i4 : ((k : Int) - 1).toNat = j := by omega
          have i5 : decide (0 < k) = true := by simpa using i0
          have i6 : 0 < k := by omega
          have HJ := Lib.hid hj
          clear hj hk0
          by_cases ha : abv (E, I) (E', I') = true
          · have hr2 := hr.step hd (by rw [hp]; exact hitErr_ok ho ha)
            have hge : decide (0 ≤ cmpH (E', I') (E, I)) = false := by
              rw [decide_eq_false_iff_not, cmpH_ge, ha]; simp
            have hT : WrT w b off j E I E' I' wr.heap.size (wr.alloc (.cells #[.int .i64 E, .int .i64 I] 48 (0, 0))) :=
              ⟨⟨ba hbl _, by simp; omega, by simp⟩, (World.cell?_alloc_lt wr _ _ hb).trans d1', (World.cell?_alloc_lt wr _ _ hb).trans d2', Lib.cell_of_heap (alloc1_new _ _) 0, Lib.cell_of_heap (alloc1_new _ _) 1⟩
            clear ho hr hd hd' hp ha d1' d2'
            go_wp2_with fail
            go_region_held3 (fun w' => WrT w b off j E I E' I' wr.heap.size w')
              (with_reducible (first | exact WrT.drew hT | exact WrT.go (by assumption) hb2))
              ((go_at_call 43; refine (rcompare (E', I') (E, I) _).mono ?_; rintro e w2 ⟨rfl, hb2⟩))
            have hB : Below w.heap.size w w2 := by with_reducible exact WrT.bel (by assumption)
            clear hT
            go_wp2
            go_roundw
            case rel => exact ⟨k + 1, by omega, by go_num, hr2, hB⟩
            case measure => simp [intOf]; omega
          · have ha' : abv (E, I) (E', I') = false := by simpa using ha
            have hS := hr.stop (n := 6) hd (by rw [hp]; exact hitErr_form ho ha') (by decide)
            have HS := Lib.hid hS
            have hge : decide (0 ≤ cmpH (E', I') (E, I)) = true := by
              rw [decide_eq_true_iff, cmpH_ge, ha']
            have hT : WrT w b off j E I E' I' wr.heap.size (wr.alloc (.cells #[.int .i64 E, .int .i64 I] 48 (0, 0))) :=
              ⟨⟨ba hbl _, by simp; omega, by simp⟩, (World.cell?_alloc_lt wr _ _ hb).trans d1', (World.cell?_alloc_lt wr _ _ hb).trans d2', Lib.cell_of_heap (alloc1_new _ _) 0, Lib.cell_of_heap (alloc1_new _ _) 1⟩
            clear ho hr hd hd' hp ha ha' d1' d2' hS
            go_wp2_with fail
            go_region_held3 (fun w' => WrT w b off j E I E' I' wr.heap.size w')
              (with_reducible (first | exact WrT.drew hT | exact WrT.go (by assumption) hb2))
              ((go_at_call 43; refine (rcompare (E', I') (E, I) _).mono ?_; rintro e w2 ⟨rfl, hb2⟩))
            have hB : Below w.heap.size w w2 := by with_reducible exact WrT.bel (by assumption)
            clear hT
            go_wp2
            go_ret2
            exact ⟨by rw [HS.out]; rfl, hB⟩
      · have HS := Lib.hid (hr.stop hd (hitErr_range (by simpa using ho)) (by decide))
        have ho' : ¬ ((1 ≤ E ∧ E ≤ 1000000) ∧ 1 ≤ I ∧ I ≤ 1000) := fun hh => ho (okH_iff.2 hh)
        clear ho hr hd
        go_wp2
        all_goals first | (exfalso; omega) | skip
        all_goals
          go_ret2
          exact ⟨by rw [HS.out]; rfl, ba hbl _⟩
    · have HS := Lib.hid (hr.done (by omega))
      go_wp2
      go_ret2
      exact ⟨by rw [HS.out]; rfl, hbl⟩
end Go.Proofs.YtokcbdaoofjbgaaDoor
