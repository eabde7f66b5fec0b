/- Sets of bytes: each, Not, Union of the program. No condition. -/
import Derived.Test.YtcopnpllaoahaaaGreatDoorCmp
import Derived.StillTailTactics
namespace Go.Proofs.YtcopnpllaoahaaaGreatDoor
open Go.RowKit
abbrev st0O : Obj := .cells #[.int .u64 0, .int .u64 0, .int .u64 0, .int .u64 0] 36 (0, 0)
theorem wK_no (j : Nat) : wK (fun _ => false) j = 0 := (wK_ext _ j (by decide) fun i _ => by rw [Nat.zero_testBit]).symm
theorem st0_eq : st0O = stO fun _ => false := by unfold stO; rw [wK_no, wK_no, wK_no, wK_no]; rfl
theorem notF_ (f : Nat → Bool) (j : Nat) (w : World) : Calls Tryz.prog 98 #[.int .u64 ((wK f j : Nat) : Int), .int .u64 ((wK f j : Nat) : Int)] w fun e w' => e = .returned (.int .u64 ((wK (fun i => !f i) j : Nat) : Int)) ∧ w = w' := by
  have hx := wK_lt f j
  have hv := u64_xor_nat 18446744073709551615 (wK f j) (by decide) hx
  rw [Nat.xor_comm, wK_not] at hv
  have HV := Lib.hid hv
  clear hv
  generalize wK (fun i => !f i) j = y at *
  generalize wK f j = x at *
  go_enter Tryz.func98, Tryz.ntmps98
  go_wp2
  go_ret
  refine ⟨ret_int ?_, rfl⟩
  rw [← HV.out]
  first | rfl | (simp [IntKind.max, IntKind.bits, IntKind.signed]; done)
theorem orF_ (f g : Nat → Bool) (j : Nat) (w : World) : Calls Tryz.prog 103 #[.int .u64 ((wK f j : Nat) : Int), .int .u64 ((wK g j : Nat) : Int)] w fun e w' => e = .returned (.int .u64 ((wK (fun i => f i || g i) j : Nat) : Int)) ∧ w = w' := by
  have hv := u64_or_nat (wK f j) (wK g j) (wK_lt f j) (wK_lt g j)
  rw [wK_or] at hv
  generalize wK (fun i => f i || g i) j = y at *
  generalize wK f j = x at *
  generalize wK g j = z at *
  go_enter Tryz.func103, Tryz.ntmps103
  go_wp2
  go_ret
  exact ⟨rfl, rfl⟩
set_option maxRecDepth 100000 in
set_option maxHeartbeats 4000000 in
theorem eachNot (f : Nat → Bool) (w : World) : Calls Tryz.prog 97 #[stV f, stV f, .func (.func 98) #[] #[]] w fun e w' => e = .returned (stV fun i => !f i) ∧ Below w.heap.size w w' := by
  obtain ⟨h, hh⟩ : ∃ h, h = fun i => !f i := ⟨_, rfl⟩
  have hF : ∀ (j : Nat) (w : World), Calls Tryz.prog 98 #[.int .u64 ((wK f j : Nat) : Int), .int .u64 ((wK f j : Nat) : Int)] w fun e w' => e = .returned (.int .u64 ((wK h j : Nat) : Int)) ∧ w = w' := by
    rw [hh]; exact notF_ f
  have HFn := Lib.hid hF
  rw [← hh]
  have HF0 := Lib.hid ((((Fr.start w).newN rfl (stO f)).newN (g := w.heap.size + 1) (by simp) (stO f)).newN (g := w.heap.size + 1 + 1) (by simp) st0O)
  clear hF hh
  go_enter Tryz.func97, Tryz.ntmps97
  go_wp2
  go_loopw [8] (fun i wr => ∃ k : Nat, k ≤ 4 ∧ i = .int .i64 k ∧ Fr w [(w.heap.size, stO (mxK k f h)), (w.heap.size + 1, stO f), (w.heap.size + 1 + 1, st0O)] wr) (fun i _ => 4 - (intOf i).toNat)
  case atStart =>
    refine ⟨0, by omega, rfl, ?_⟩
    have e : stO (mxK 0 f h) = stO f := by unfold stO; simp [wK_mx]
    rw [e]
    exact HF0.out.sub (by simp)
  case round =>
    obtain ⟨k, hk, rfl, hFr⟩ := hrel
    by_cases hlt : k < 4
    · have e1 : wK (mxK k f h) k = wK f k := by rw [wK_mx, if_neg (by omega)]
      have hFs := Lib.hid (Fr.stSet hFr (by omega) (by simp <;> omega) hlt)
      have hc0 : wr.cell? ⟨w.heap.size, k, none⟩ = some (.int .u64 ((wK f k : Nat) : Int)) := by
        rw [Lib.cell_of_heap (hFr.at (g := w.heap.size) (o := stO (mxK k f h)) (by simp)) k, ← e1]
        rcases (show k = 0 ∨ k = 1 ∨ k = 2 ∨ k = 3 by omega) with rfl | rfl | rfl | rfl <;> rfl
      have hc1 : wr.cell? ⟨w.heap.size + 1, k, none⟩ = some (.int .u64 ((wK f k : Nat) : Int)) := by
        rw [Lib.cell_of_heap (hFr.at (g := w.heap.size + 1) (o := stO f) (by simp)) k]
        rcases (show k = 0 ∨ k = 1 ∨ k = 2 ∨ k = 3 by omega) with rfl | rfl | rfl | rfl <;> rfl
      have hf0 : wr.frozen? ⟨w.heap.size, k, none⟩ = false := Lib.frozen_of_heap (hFr.at (g := w.heap.size) (o := stO (mxK k f h)) (by simp)) k
      have i1 : (k : Int) < 4 := by omega
      have i0 : (0 : Int) ≤ (k : Int) := by omega
      have hl0 := hFr.lt (g := w.heap.size) (o := stO (mxK k f h)) (by simp)
      have HFk := Lib.hid (HFn.out k)
      clear hFr HFn e1
      generalize wK f k = x at *
      generalize wK h k = y at *
      go_wp2_with fail
      go_still_tail 10, (by kernel_rfl)
      still_call ((HFk.out _).mono fun _ _ h => ⟨h.1, h.2.symm⟩)
      still_step
      refine wpStill_nil ?_
      change wpList _ _ _ _ _ wr.drew
      have HFd : Hid (Fr w [(w.heap.size, stO (mxK (k + 1) f h)), (w.heap.size + 1, stO f), (w.heap.size + 1 + 1, st0O)] (wr.drew.setCell ⟨w.heap.size, k, none⟩ (.int .u64 (y : Int)))) := Lib.hid hFs.out.drew
      have d0 : wr.drew.cell? ⟨w.heap.size, k, none⟩ = some (.int .u64 (x : Int)) := hc0
      have d1 : wr.drew.frozen? ⟨w.heap.size, k, none⟩ = false := hf0
      have d2 : w.heap.size < wr.drew.heap.size := hl0
      clear hFs hc0 hc1 hf0 hl0
      generalize wr.drew = w2 at *
      go_wp2
      go_roundw
      case rel => exact ⟨k + 1, by omega, by go_num, HFd.out⟩
      case measure => (simp [intOf]) <;> omega
    · obtain rfl : k = 4 := by omega
      have e4 : stO (mxK 4 f h) = stO h := by unfold stO; simp [wK_mx]
      rw [e4] at hFr
      have ha := hFr.at (g := w.heap.size) (o := stO h) (by simp)
      have hr := hFr.at (g := w.heap.size + 1 + 1) (o := st0O) (by simp)
      obtain ⟨⟨c0, c1, c2, c3⟩, _⟩ := bx4 ha
      obtain ⟨⟨d0, d1, d2, d3⟩, ⟨f0, f1, f2, f3⟩, hlt⟩ := bx4 hr
      have hB := hFr.bel
      clear hFr ha hr HF0 HFn
      go_wp2
      refine bodyPost_ret (v := stV h) (by simp [results, go_sem, d0, d1, d2, d3]) rfl ⟨rfl, ?_⟩
      repeat' (first | with_reducible exact hB | with_reducible refine bs ?_ ?_ | (simp only; omega))
set_option maxRecDepth 100000 in
set_option maxHeartbeats 4000000 in
theorem eachOr (f g : Nat → Bool) (w : World) : Calls Tryz.prog 97 #[stV f, stV g, .func (.func 103) #[] #[]] w fun e w' => e = .returned (stV fun i => f i || g i) ∧ Below w.heap.size w w' := by
  obtain ⟨h, hh⟩ : ∃ h, h = fun i => f i || g i := ⟨_, rfl⟩
  have hF : ∀ (j : Nat) (w : World), Calls Tryz.prog 103 #[.int .u64 ((wK f j : Nat) : Int), .int .u64 ((wK g j : Nat) : Int)] w fun e w' => e = .returned (.int .u64 ((wK h j : Nat) : Int)) ∧ w = w' := by
    rw [hh]; exact orF_ f g
  have HFn := Lib.hid hF
  rw [← hh]
  have HF0 := Lib.hid ((((Fr.start w).newN rfl (stO f)).newN (g := w.heap.size + 1) (by simp) (stO g)).newN (g := w.heap.size + 1 + 1) (by simp) st0O)
  clear hF hh
  go_enter Tryz.func97, Tryz.ntmps97
  go_wp2
  go_loopw [8] (fun i wr => ∃ k : Nat, k ≤ 4 ∧ i = .int .i64 k ∧ Fr w [(w.heap.size, stO (mxK k f h)), (w.heap.size + 1, stO g), (w.heap.size + 1 + 1, st0O)] wr) (fun i _ => 4 - (intOf i).toNat)
  case atStart =>
    refine ⟨0, by omega, rfl, ?_⟩
    have e : stO (mxK 0 f h) = stO f := by unfold stO; simp [wK_mx]
    rw [e]
    exact HF0.out.sub (by simp)
  case round =>
    obtain ⟨k, hk, rfl, hFr⟩ := hrel
    by_cases hlt : k < 4
    · have e1 : wK (mxK k f h) k = wK f k := by rw [wK_mx, if_neg (by omega)]
      have hFs := Lib.hid (Fr.stSet hFr (by omega) (by simp <;> omega) hlt)
      have hc0 : wr.cell? ⟨w.heap.size, k, none⟩ = some (.int .u64 ((wK f k : Nat) : Int)) := by
        rw [Lib.cell_of_heap (hFr.at (g := w.heap.size) (o := stO (mxK k f h)) (by simp)) k, ← e1]
        rcases (show k = 0 ∨ k = 1 ∨ k = 2 ∨ k = 3 by omega) with rfl | rfl | rfl | rfl <;> rfl
      have hc1 : wr.cell? ⟨w.heap.size + 1, k, none⟩ = some (.int .u64 ((wK g k : Nat) : Int)) := by
        rw [Lib.cell_of_heap (hFr.at (g := w.heap.size + 1) (o := stO g) (by simp)) k]
        rcases (show k = 0 ∨ k = 1 ∨ k = 2 ∨ k = 3 by omega) with rfl | rfl | rfl | rfl <;> rfl
      have hf0 : wr.frozen? ⟨w.heap.size, k, none⟩ = false := Lib.frozen_of_heap (hFr.at (g := w.heap.size) (o := stO (mxK k f h)) (by simp)) k
      have i1 : (k : Int) < 4 := by omega
      have i0 : (0 : Int) ≤ (k : Int) := by omega
      have hl0 := hFr.lt (g := w.heap.size) (o := stO (mxK k f h)) (by simp)
      have HFk := Lib.hid (HFn.out k)
      clear hFr HFn e1
      generalize wK f k = x at *
      generalize wK g k = z at *
      generalize wK h k = y at *
      go_wp2_with fail
      go_still_tail 10, (by kernel_rfl)
      still_call ((HFk.out _).mono fun _ _ h => ⟨h.1, h.2.symm⟩)
      still_step
      refine wpStill_nil ?_
      change wpList _ _ _ _ _ wr.drew
      have HFd : Hid (Fr w [(w.heap.size, stO (mxK (k + 1) f h)), (w.heap.size + 1, stO g), (w.heap.size + 1 + 1, st0O)] (wr.drew.setCell ⟨w.heap.size, k, none⟩ (.int .u64 (y : Int)))) := Lib.hid hFs.out.drew
      have d0 : wr.drew.cell? ⟨w.heap.size, k, none⟩ = some (.int .u64 (x : Int)) := hc0
      have d1 : wr.drew.frozen? ⟨w.heap.size, k, none⟩ = false := hf0
      have d2 : w.heap.size < wr.drew.heap.size := hl0
      clear hFs hc0 hc1 hf0 hl0
      generalize wr.drew = w2 at *
      go_wp2
      go_roundw
      case rel => exact ⟨k + 1, by omega, by go_num, HFd.out⟩
      case measure => (simp [intOf]) <;> omega
    · obtain rfl : k = 4 := by omega
      have e4 : stO (mxK 4 f h) = stO h := by unfold stO; simp [wK_mx]
      rw [e4] at hFr
      have ha := hFr.at (g := w.heap.size) (o := stO h) (by simp)
      have hr := hFr.at (g := w.heap.size + 1 + 1) (o := st0O) (by simp)
      obtain ⟨⟨c0, c1, c2, c3⟩, _⟩ := bx4 ha
      obtain ⟨⟨d0, d1, d2, d3⟩, ⟨f0, f1, f2, f3⟩, hlt⟩ := bx4 hr
      have hB := hFr.bel
      clear hFr ha hr HF0 HFn
      go_wp2
      refine bodyPost_ret (v := stV h) (by simp [results, go_sem, d0, d1, d2, d3]) rfl ⟨rfl, ?_⟩
      repeat' (first | with_reducible exact hB | with_reducible refine bs ?_ ?_ | (simp only; omega))
set_option maxHeartbeats 1000000 in
theorem not_ (f : Nat → Bool) (w : World) : Calls Tryz.prog 77 #[stV f] w fun e w' => e = .returned (stV fun i => !f i) ∧ Below w.heap.size w w' := by
  have HF0 := Lib.hid (((Fr.start w).newN rfl (stO f)).newN (g := w.heap.size + 1) (by simp) st0O)
  have HE := Lib.hid (eachNot f)
  generalize (fun i => !f i) = h at *
  go_enter Tryz.func77, Tryz.ntmps77
  go_wp2_with fail
  (with_reducible refine (HE.out _).mono ?_); rintro e w1 ⟨rfl, hb1⟩
  have hF1 := HF0.out.go hb1
  obtain ⟨⟨d0, d1, d2, d3⟩, ⟨f0, f1, f2, f3⟩, hlt⟩ := bx4 (hF1.at (g := w.heap.size + 1) (o := st0O) (by simp))
  have hB := hF1.bel
  clear hF1 HF0 hb1
  go_wp2
  refine bodyPost_ret (v := stV h) (by simp [results, go_sem, d0, d1, d2, d3]) rfl ⟨rfl, ?_⟩
  repeat' (first | with_reducible exact hB | with_reducible refine bs ?_ ?_ | (simp only; omega))
set_option maxHeartbeats 1000000 in
theorem union_ (f g : Nat → Bool) (w : World) : Calls Tryz.prog 82 #[stV f, stV g] w fun e w' => e = .returned (stV fun i => f i || g i) ∧ Below w.heap.size w w' := by
  have HF0 := Lib.hid ((((Fr.start w).newN rfl (stO f)).newN (g := w.heap.size + 1) (by simp) (stO g)).newN (g := w.heap.size + 1 + 1) (by simp) st0O)
  have HE := Lib.hid (eachOr f g)
  generalize (fun i => f i || g i) = h at *
  go_enter Tryz.func82, Tryz.ntmps82
  go_wp2_with fail
  (with_reducible refine (HE.out _).mono ?_); rintro e w1 ⟨rfl, hb1⟩
  have hF1 := HF0.out.go hb1
  obtain ⟨⟨d0, d1, d2, d3⟩, ⟨f0, f1, f2, f3⟩, hlt⟩ := bx4 (hF1.at (g := w.heap.size + 1 + 1) (o := st0O) (by simp))
  have hB := hF1.bel
  clear hF1 HF0 hb1
  go_wp2
  refine bodyPost_ret (v := stV h) (by simp [results, go_sem, d0, d1, d2, d3]) rfl ⟨rfl, ?_⟩
  repeat' (first | with_reducible exact hB | with_reducible refine bs ?_ ?_ | (simp only; omega))
set_option maxHeartbeats 1000000 in
theorem all_ (w : World) : Calls Tryz.prog 62 #[] w fun e w' => e = .returned (stV fun _ => true) ∧ Below w.heap.size w w' := by
  have HF0 := Lib.hid ((Fr.start w).newN rfl st0O)
  have he : ∀ w : World, Calls Tryz.prog 77 #[.agg #[.int .u64 0, .int .u64 0, .int .u64 0, .int .u64 0]] w fun e w' => e = .returned (stV fun _ => true) ∧ Below w.heap.size w w' := fun w => by
    have := not_ (fun _ => false) w
    rw [show stV (fun _ => false) = .agg #[.int .u64 0, .int .u64 0, .int .u64 0, .int .u64 0] by unfold stV; rw [wK_no, wK_no, wK_no, wK_no]; rfl] at this
    exact this
  have HE := Lib.hid he
  clear he
  generalize (fun _ => true : Nat → Bool) = h at *
  go_enter Tryz.func62, Tryz.ntmps62
  go_wp2_with fail
  (with_reducible refine (HE.out _).mono ?_); rintro e w1 ⟨rfl, hb1⟩
  have hF1 := HF0.out.go hb1
  obtain ⟨⟨d0, d1, d2, d3⟩, ⟨f0, f1, f2, f3⟩, hlt⟩ := bx4 (hF1.at (g := w.heap.size) (o := st0O) (by simp))
  have hB := hF1.bel
  clear hF1 HF0 hb1
  go_wp2
  refine bodyPost_ret (v := stV h) (by simp [results, go_sem, d0, d1, d2, d3]) rfl ⟨rfl, ?_⟩
  repeat' (first | with_reducible exact hB | with_reducible refine bs ?_ ?_ | (simp only; omega))
end Go.Proofs.YtcopnpllaoahaaaGreatDoor
