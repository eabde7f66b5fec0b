/- Sets of bytes: Add, Range, Count of the program. No condition. Sets of bytes: Add, Range, All of the reference. No condition. -/
import Derived.Test.YtcopnpllaoahaaaGreatDoorG2
import Derived.Test.YtcopnpllaoahaaaGreatDoorB23
import Derived.Deep.DeepCutAuto
namespace Go.Proofs.YtcopnpllaoahaaaGreatDoor
open Go.RowKit
theorem wrapU64 (x : Nat) (h : x < 18446744073709551616) : IntKind.u64.wrap (x : Int) = (x : Int) := by
  simp [IntKind.wrap, IntKind.bits, IntKind.signed]; omega
theorem wrap_pow (n : Nat) (hn : n < 64) : IntKind.u64.wrap (2 ^ n) = ((2 ^ n : Nat) : Int) := by
  have hp : (2 : Nat) ^ n < 18446744073709551616 := Nat.lt_of_lt_of_le (Nat.pow_lt_pow_right (by omega) hn) (by decide)
  rw [show ((2 : Int) ^ n) = ((2 ^ n : Nat) : Int) by simp]
  exact wrapU64 _ hp
theorem stO_word {f h : Nat → Bool} {k : Nat} (hk : k < 4) (ho : ∀ j, j ≠ k → wK h j = wK f j) :
    stO h = .cells ((#[.int .u64 ((wK f 0 : Nat) : Int), .int .u64 ((wK f 1 : Nat) : Int), .int .u64 ((wK f 2 : Nat) : Int), .int .u64 ((wK f 3 : Nat) : Int)] : Array Value).setIfInBounds k (.int .u64 ((wK h k : Nat) : Int))) 36 (0, 0) := by
  unfold stO
  rcases (show k = 0 ∨ k = 1 ∨ k = 2 ∨ k = 3 by omega) with rfl | rfl | rfl | rfl
  · rw [ho 1 (by decide), ho 2 (by decide), ho 3 (by decide)]; rfl
  · rw [ho 0 (by decide), ho 2 (by decide), ho 3 (by decide)]; rfl
  · rw [ho 0 (by decide), ho 1 (by decide), ho 3 (by decide)]; rfl
  · rw [ho 0 (by decide), ho 1 (by decide), ho 2 (by decide)]; rfl
/-- one word of a box turns -/
theorem Fr.stWord {w0 w1 : World} {L : List (Nat × Obj)} {g k : Nat} {f h : Nat → Bool} (hF : Fr w0 ((g, stO f) :: L) w1) (hg : w0.heap.size ≤ g) (hL : ∀ p ∈ L, p.1 ≠ g) (hk : k < 4) (ho : ∀ j, j ≠ k → wK h j = wK f j) :
    Fr w0 ((g, stO h) :: L) (w1.setCell ⟨g, k, none⟩ (.int .u64 ((wK h k : Nat) : Int))) := by
  rw [stO_word hk ho]
  exact hF.set hg hL k _
theorem stWordAt {w : World} {g k : Nat} {f : Nat → Bool} (h : w.heap[g]? = some (stO f)) (hk : k < 4) : w.cell? ⟨g, k, none⟩ = some (.int .u64 ((wK f k : Nat) : Int)) := by
  rw [Lib.cell_of_heap h k]
  rcases (show k = 0 ∨ k = 1 ∨ k = 2 ∨ k = 3 by omega) with rfl | rfl | rfl | rfl <;> rfl
theorem u8_and63 (b : Nat) (hb : b < 256) : bits .and .u8 (b : Int) 63 = ((b % 64 : Nat) : Int) := by
  have := u8_and_nat b 63 hb (by decide)
  rw [nat_mask6] at this
  exact this
set_option maxRecDepth 100000 in
set_option maxHeartbeats 1000000 in
theorem add_ (f : Nat → Bool) (b : Nat) (hb : b < 256) (w : World) : Calls Tryz.prog 102 #[stV f, .int .u8 (b : Int)] w fun e w' => e = .returned (stV (adK f b)) ∧ Below w.heap.size w w' := by
  have hF0 := ((Fr.start w).newN (g := w.heap.size) rfl (stO f)).newN (g := w.heap.size + 1) (by simp) st0O
  have hq : b / 64 < 4 := by omega
  have hp : (2 : Nat) ^ (b % 64) < 18446744073709551616 := Nat.lt_of_lt_of_le (Nat.pow_lt_pow_right (by omega) (show b % 64 < 64 by omega)) (by decide)
  have hc := stWordAt (hF0.at (g := w.heap.size) (o := stO f) (by simp)) hq
  have hfz := Lib.frozen_of_heap (hF0.at (g := w.heap.size) (o := stO f) (by simp)) (b / 64)
  have hlt := hF0.lt (g := w.heap.size) (o := stO f) (by simp)
  have hF1 := Lib.hid (Fr.stWord (k := b / 64) (f := f) (h := adK f b) (hF0.sub (M := [(w.heap.size, stO f), (w.heap.size + 1, st0O)]) (by simp)) (Nat.le_refl _) (by simp) hq (fun j hj => wK_ad_other f b hj))
  have h63 := u8_and63 b hb
  have hor : bits .or .u64 ((wK f (b / 64) : Nat) : Int) (IntKind.u64.wrap (2 ^ (b % 64))) = ((wK (adK f b) (b / 64) : Nat) : Int) := by
    rw [wrap_pow _ (by omega), u64_or_nat _ _ (wK_lt _ _) hp, wK_ad]
  have q0 : ((b : Int) / 64).toNat = b / 64 := by omega
  have q1 : (0 : Int) ≤ (b : Int) / 64 := by omega
  have q2 : (b : Int) / 64 < 4 := by omega
  have q3 : ((b % 64 : Nat) : Int) < 64 := by omega
  generalize wK (adK f b) (b / 64) = y at *
  generalize wK f (b / 64) = x at *
  clear hF0
  go_enter Tryz.func102, Tryz.ntmps102
  go_upto_region 1 with fail
  generalize (w.alloc (stO f)).alloc st0O = W0 at *
  go_upto_region 2 with fail
  generalize W0.setCell ⟨w.heap.size, b / 64, none⟩ (.int .u64 (y : Int)) = W1 at *
  obtain ⟨⟨c0, c1, c2, c3⟩, _⟩ := bx4 (hF1.out.at (g := w.heap.size) (o := stO (adK f b)) (by simp))
  obtain ⟨⟨d0, d1, d2, d3⟩, ⟨f0, f1, f2, f3⟩, hlt1⟩ := bx4 (hF1.out.at (g := w.heap.size + 1) (o := st0O) (by simp))
  have hB := hF1.out.bel
  clear hc hor h63 q0 q1 q2 q3 hfz hlt
  go_wp2
  refine bodyPost_ret (v := stV (adK f b)) (by simp [results, go_sem, d0, d1, d2, d3]) rfl ⟨rfl, ?_⟩
  repeat' (first | with_reducible exact hB | with_reducible refine bs ?_ ?_ | (simp only; omega))
/-- the bytes from lo on, up to k -/
def rgK (lo k : Nat) (i : Nat) : Bool := decide (lo ≤ i ∧ i < k)
theorem rgK_step (lo k : Nat) (h : lo ≤ k) : adK (rgK lo k) k = rgK lo (k + 1) := by
  funext i
  unfold adK rgK
  rw [Bool.eq_iff_iff]
  simp only [Bool.or_eq_true, decide_eq_true_eq]
  omega
theorem rgK_none (lo : Nat) : stO (rgK lo lo) = st0O := by
  rw [st0_eq]
  have e : rgK lo lo = fun _ => false := by funext i; unfold rgK; simp
  rw [e]
set_option maxRecDepth 100000 in
set_option maxHeartbeats 1000000 in
theorem range_no (lo hi : Nat) (h1 : lo < 256) (h2 : hi < 256) (h : hi < lo) (w : World) : Calls Tryz.prog 81 #[.int .i64 (lo : Int), .int .i64 (hi : Int)] w fun e w' => e = .returned (.tuple #[.agg #[.int .u64 0, .int .u64 0, .int .u64 0, .int .u64 0], .int .i64 7]) ∧ Below w.heap.size w w' := by
  have j1 : ¬ ((lo : Int) < 0) := by omega
  have j2 : ¬ ((255 : Int) < (hi : Int)) := by omega
  have j3 : (hi : Int) < (lo : Int) := by omega
  have hF0 := (Fr.start w).newN (g := w.heap.size) rfl st0O
  obtain ⟨⟨d0, d1, d2, d3⟩, ⟨f0, f1, f2, f3⟩, hlt1⟩ := bx4 (hF0.at (g := w.heap.size) (o := st0O) (by simp))
  have hB := hF0.bel
  clear hF0
  go_enter Tryz.func81, Tryz.ntmps81
  go_upto_region 1 with fail
  generalize w.alloc st0O = W0 at *
  go_wp2
  refine bodyPost_ret (v := .tuple #[.agg #[.int .u64 0, .int .u64 0, .int .u64 0, .int .u64 0], .int .i64 7]) (by simp [results, go_sem, d0, d1, d2, d3]) rfl ⟨rfl, ?_⟩
  repeat' (first | with_reducible exact hB | with_reducible refine bs ?_ ?_ | (simp only; done) | (simp only; omega))
set_option maxRecDepth 100000 in
set_option maxHeartbeats 2000000 in
theorem range_ (lo hi : Nat) (h1 : lo < 256) (h2 : hi < 256) (h : lo ≤ hi) (w : World) : Calls Tryz.prog 81 #[.int .i64 (lo : Int), .int .i64 (hi : Int)] w fun e w' => e = .returned (.tuple #[stV (rgK lo (hi + 1)), .int .i64 0]) ∧ Below w.heap.size w w' := by
  have j1 : ¬ ((lo : Int) < 0) := by omega
  have j2 : ¬ ((255 : Int) < (hi : Int)) := by omega
  have j3 : ¬ ((hi : Int) < (lo : Int)) := by omega
  have HF0 := Lib.hid (((Fr.start w).newN (g := w.heap.size) rfl st0O).newN (g := w.heap.size + 1) (by simp) st0O)
  go_enter Tryz.func81, Tryz.ntmps81
  go_wp2
  go_loopw [7] (fun i wr => ∃ k : Nat, lo ≤ k ∧ k ≤ hi + 1 ∧ i = .int .i64 k ∧ Fr w [(w.heap.size + 1, stO (rgK lo k)), (w.heap.size, st0O)] wr) (fun i _ => hi + 1 - (intOf i).toNat)
  case atStart => exact ⟨lo, Nat.le_refl _, by omega, rfl, by rw [rgK_none]; exact HF0.out⟩
  case round =>
    obtain ⟨k, hk, hk2, rfl, hFr⟩ := hrel
    obtain ⟨⟨c0, c1, c2, c3⟩, ⟨g0, g1, g2, g3⟩, hl1⟩ := bx4 (hFr.at (g := w.heap.size + 1) (o := stO (rgK lo k)) (by simp))
    by_cases hlt : k ≤ hi
    · have i1 : (k : Int) ≤ (hi : Int) := by omega
      have i2 : IntKind.u8.wrap (k : Int) = (k : Int) := by simp [IntKind.wrap, IntKind.bits, IntKind.signed]; omega
      have HA := Lib.hid (add_ (rgK lo k) k (by omega))
      rw [rgK_step lo k hk] at HA
      have HFr := Lib.hid hFr
      clear hFr HF0
      go_wp2_with fail
      (with_reducible refine (HA.out _).mono ?_); rintro e w1 ⟨rfl, hb1⟩
      have hF1 := HFr.out.go hb1
      obtain ⟨⟨b0, b1, b2, b3⟩, ⟨n0, n1, n2, n3⟩, hl2⟩ := bx4 (hF1.at (g := w.heap.size + 1) (o := stO (rgK lo k)) (by simp))
      have HF2 := Lib.hid (Fr.stPut (h := rgK lo (k + 1)) hF1 (by omega) (by simp))
      clear hF1 HFr c0 c1 c2 c3 g0 g1 g2 g3 hl1 hb1 HA
      go_wp2
      go_roundw
      case rel => exact ⟨k + 1, by omega, by omega, by go_num, HF2.out⟩
      case measure => (simp [intOf]) <;> omega
    · have i1 : ¬ ((k : Int) ≤ (hi : Int)) := by omega
      obtain rfl : k = hi + 1 := by omega
      obtain ⟨⟨d0, d1, d2, d3⟩, ⟨f0, f1, f2, f3⟩, hl0⟩ := bx4 (hFr.at (g := w.heap.size) (o := st0O) (by simp))
      have hB := hFr.bel
      clear hFr HF0
      go_wp2
      refine bodyPost_ret (v := .tuple #[stV (rgK lo (hi + 1)), .int .i64 0]) (by simp [results, go_sem, d0, d1, d2, d3]) rfl ⟨rfl, ?_⟩
      repeat' (first | with_reducible exact hB | with_reducible refine bs ?_ ?_ | (simp only; omega))
theorem stAt0 (a b c d : Int) (w : World) : (Instr.index 36 (.agg #[.int .u64 a, .int .u64 b, .int .u64 c, .int .u64 d]) (.int .i64 0)).run Tryz.prog w = .ok (.int .u64 a) w := by kernel_rfl
theorem stAt1 (a b c d : Int) (w : World) : (Instr.index 36 (.agg #[.int .u64 a, .int .u64 b, .int .u64 c, .int .u64 d]) (.int .i64 1)).run Tryz.prog w = .ok (.int .u64 b) w := by kernel_rfl
theorem stAt2 (a b c d : Int) (w : World) : (Instr.index 36 (.agg #[.int .u64 a, .int .u64 b, .int .u64 c, .int .u64 d]) (.int .i64 2)).run Tryz.prog w = .ok (.int .u64 c) w := by kernel_rfl
theorem stAt3 (a b c d : Int) (w : World) : (Instr.index 36 (.agg #[.int .u64 a, .int .u64 b, .int .u64 c, .int .u64 d]) (.int .i64 3)).run Tryz.prog w = .ok (.int .u64 d) w := by kernel_rfl
/-- how many bytes a set has -/
def ctK (f : Nat → Bool) (n : Nat) : Nat := bsum n f
theorem ctK_word (f : Nat → Bool) (k : Nat) : bsum (64 * (k + 1)) f = bsum (64 * k) f + ones64 (wK f k) := by
  rw [Nat.mul_succ, bsum_add, ones64_bits _ (wK_lt f k)]
  congr 1
  exact bsum_congr fun i hi => (wK_bit f k i hi).symm
set_option maxRecDepth 100000 in
set_option maxHeartbeats 2000000 in
theorem count_ (f : Nat → Bool) (w : World) : Calls Tryz.prog 109 #[stV f] w fun e w' => e = .returned (.int .i64 ((bsum 256 f : Nat) : Int)) ∧ Below w.heap.size w w' := by
  have HF0 := Lib.hid ((Fr.start w).newN (g := w.heap.size) rfl (stO f))
  go_enter Tryz.func109, Tryz.ntmps109
  go_wp2
  go_loopw [3, 7] (fun n i wr => ∃ k : Nat, k ≤ 4 ∧ i = .int .i64 k ∧ n = .int .i64 ((bsum (64 * k) f : Nat) : Int) ∧ Below w.heap.size w wr) (fun _ i _ => 4 - (intOf i).toNat)
  case atStart => exact ⟨0, by omega, rfl, rfl, HF0.out.bel⟩
  case round =>
    obtain ⟨k, hk, rfl, rfl, hB⟩ := hrel
    have hle := bsum_le (64 * k) f
    by_cases hlt : k < 4
    · have HS := Lib.hid (ctK_word f k)
      have HO := Lib.hid (fun W => ones64_ W (wK f k) (wK_lt f k))
      have hol := ones64_lt (wK f k)
      generalize bsum (64 * k) f = n at *
      rcases (show k = 0 ∨ k = 1 ∨ k = 2 ∨ k = 3 by omega) with rfl | rfl | rfl | rfl
      all_goals
        have a0 := stAt0; have a1 := stAt1; have a2 := stAt2; have a3 := stAt3
        go_wp2_with fail
        (with_reducible refine (HO.out _).mono ?_); rintro e w1 ⟨rfl, rfl⟩
        go_wp2
        go_roundw
        case rel => first | exact ⟨0 + 1, by omega, rfl, by rw [HS.out]; go_num, hB⟩ | exact ⟨1 + 1, by omega, rfl, by rw [HS.out]; go_num, hB⟩ | exact ⟨2 + 1, by omega, rfl, by rw [HS.out]; go_num, hB⟩ | exact ⟨3 + 1, by omega, rfl, by rw [HS.out]; go_num, hB⟩
        case measure => (simp [intOf]) <;> omega
    · obtain rfl : k = 4 := by omega
      go_wp2
      go_ret
      exact ⟨rfl, hB⟩
end Go.Proofs.YtcopnpllaoahaaaGreatDoor
namespace Go.Proofs.YtcopnpllaoahaaaGreatDoor
open Go.RowKit
set_option maxRecDepth 100000 in
set_option maxHeartbeats 1000000 in
theorem radd_ (f : Nat → Bool) (b : Nat) (hb : b < 256) (w : World) : Calls Tryz.prog 40 #[stV f, .int .u8 (b : Int)] w fun e w' => e = .returned (stV (adK f b)) ∧ Below w.heap.size w w' := by
  have hF0 := ((Fr.start w).newN (g := w.heap.size) rfl (stO f)).newN (g := w.heap.size + 1) (by simp) st0O
  have hq : b / 64 < 4 := by omega
  have hp : (2 : Nat) ^ (b % 64) < 18446744073709551616 := Nat.lt_of_lt_of_le (Nat.pow_lt_pow_right (by omega) (show b % 64 < 64 by omega)) (by decide)
  have hc := stWordAt (hF0.at (g := w.heap.size) (o := stO f) (by simp)) hq
  have hfz := Lib.frozen_of_heap (hF0.at (g := w.heap.size) (o := stO f) (by simp)) (b / 64)
  have hlt := hF0.lt (g := w.heap.size) (o := stO f) (by simp)
  have hF1 := Lib.hid (Fr.stWord (k := b / 64) (f := f) (h := adK f b) (hF0.sub (M := [(w.heap.size, stO f), (w.heap.size + 1, st0O)]) (by simp)) (Nat.le_refl _) (by simp) hq (fun j hj => wK_ad_other f b hj))
  have hor : bits .or .u64 ((wK f (b / 64) : Nat) : Int) (IntKind.u64.wrap (2 ^ (b % 64))) = ((wK (adK f b) (b / 64) : Nat) : Int) := by
    rw [wrap_pow _ (by omega), u64_or_nat _ _ (wK_lt _ _) hp, wK_ad]
  have q0 : ((b : Int) / 64).toNat = b / 64 := by omega
  have q1 : (0 : Int) ≤ (b : Int) / 64 := by omega
  have q2 : (b : Int) / 64 < 4 := by omega
  have q3 : ((b % 64 : Nat) : Int) < 64 := by omega
  generalize wK (adK f b) (b / 64) = y at *
  generalize wK f (b / 64) = x at *
  clear hF0
  go_enter Tryz.func40, Tryz.ntmps40
  go_upto_region 1 with fail
  generalize (w.alloc (stO f)).alloc st0O = W0 at *
  go_upto_region 2 with fail
  generalize W0.setCell ⟨w.heap.size, b / 64, none⟩ (.int .u64 (y : Int)) = W1 at *
  obtain ⟨⟨c0, c1, c2, c3⟩, _⟩ := bx4 (hF1.out.at (g := w.heap.size) (o := stO (adK f b)) (by simp))
  obtain ⟨⟨d0, d1, d2, d3⟩, ⟨f0, f1, f2, f3⟩, hlt1⟩ := bx4 (hF1.out.at (g := w.heap.size + 1) (o := st0O) (by simp))
  have hB := hF1.out.bel
  clear hc hor q0 q1 q2 q3 hfz hlt
  go_wp2
  refine bodyPost_ret (v := stV (adK f b)) (by simp [results, go_sem, d0, d1, d2, d3]) rfl ⟨rfl, ?_⟩
  repeat' (first | with_reducible exact hB | with_reducible refine bs ?_ ?_ | (simp only; omega))
set_option maxRecDepth 100000 in
set_option maxHeartbeats 2000000 in
theorem rrange_ (lo hi : Nat) (h1 : lo < 256) (h2 : hi < 256) (h : lo ≤ hi) (w : World) : Calls Tryz.prog 25 #[.int .i64 (lo : Int), .int .i64 (hi : Int)] w fun e w' => e = .returned (.tuple #[stV (rgK lo (hi + 1)), .int .i64 0]) ∧ Below w.heap.size w w' := by
  have j1 : ¬ ((lo : Int) < 0) := by omega
  have j2 : ¬ ((255 : Int) < (hi : Int)) := by omega
  have j3 : ¬ ((hi : Int) < (lo : Int)) := by omega
  have HF0 := Lib.hid (((Fr.start w).newN (g := w.heap.size) rfl st0O).newN (g := w.heap.size + 1) (by simp) st0O)
  go_enter Tryz.func25, Tryz.ntmps25
  go_wp2
  go_loopw [7] (fun i wr => ∃ k : Nat, lo ≤ k ∧ k ≤ hi + 1 ∧ i = .int .i64 k ∧ Fr w [(w.heap.size + 1, stO (rgK lo k)), (w.heap.size, st0O)] wr) (fun i _ => hi + 1 - (intOf i).toNat)
  case atStart => exact ⟨lo, Nat.le_refl _, by omega, rfl, by rw [rgK_none]; exact HF0.out⟩
  case round =>
    obtain ⟨k, hk, hk2, rfl, hFr⟩ := hrel
    obtain ⟨⟨c0, c1, c2, c3⟩, ⟨g0, g1, g2, g3⟩, hl1⟩ := bx4 (hFr.at (g := w.heap.size + 1) (o := stO (rgK lo k)) (by simp))
    by_cases hlt : k ≤ hi
    · have i1 : (k : Int) ≤ (hi : Int) := by omega
      have i2 : IntKind.u8.wrap (k : Int) = (k : Int) := by simp [IntKind.wrap, IntKind.bits, IntKind.signed]; omega
      have HA := Lib.hid (radd_ (rgK lo k) k (by omega))
      rw [rgK_step lo k hk] at HA
      have HFr := Lib.hid hFr
      clear hFr HF0
      go_wp2_with fail
      (with_reducible refine (HA.out _).mono ?_); rintro e w1 ⟨rfl, hb1⟩
      have hF1 := HFr.out.go hb1
      obtain ⟨⟨b0, b1, b2, b3⟩, ⟨n0, n1, n2, n3⟩, hl2⟩ := bx4 (hF1.at (g := w.heap.size + 1) (o := stO (rgK lo k)) (by simp))
      have HF2 := Lib.hid (Fr.stPut (h := rgK lo (k + 1)) hF1 (by omega) (by simp))
      clear hF1 HFr c0 c1 c2 c3 g0 g1 g2 g3 hl1 hb1 HA
      go_wp2
      go_roundw
      case rel => exact ⟨k + 1, by omega, by omega, by go_num, HF2.out⟩
      case measure => (simp [intOf]) <;> omega
    · have i1 : ¬ ((k : Int) ≤ (hi : Int)) := by omega
      obtain rfl : k = hi + 1 := by omega
      obtain ⟨⟨d0, d1, d2, d3⟩, ⟨f0, f1, f2, f3⟩, hl0⟩ := bx4 (hFr.at (g := w.heap.size) (o := st0O) (by simp))
      have hB := hFr.bel
      clear hFr HF0
      go_wp2
      refine bodyPost_ret (v := .tuple #[stV (rgK lo (hi + 1)), .int .i64 0]) (by simp [results, go_sem, d0, d1, d2, d3]) rfl ⟨rfl, ?_⟩
      repeat' (first | with_reducible exact hB | with_reducible refine bs ?_ ?_ | (simp only; omega))
set_option maxHeartbeats 1000000 in
theorem rall_ (w : World) : Calls Tryz.prog 12 #[] w fun e w' => e = .returned (stV fun _ => true) ∧ Below w.heap.size w w' := by
  have he := rrange_ 0 255 (by decide) (by decide) (by decide)
  have hst : stV (rgK 0 (255 + 1)) = stV fun _ => true := stV_congr fun i hi => by unfold rgK; simp; omega
  rw [hst] at he
  have he' : ∀ w : World, Calls Tryz.prog 25 #[.int .i64 0, .int .i64 255] w fun e w' => e = .returned (.tuple #[stV fun _ => true, .int .i64 0]) ∧ Below w.heap.size w w' := he
  have HE := Lib.hid he'
  have HF0 := Lib.hid ((Fr.start w).newN (g := w.heap.size) rfl st0O)
  clear he he' hst
  generalize (fun _ => true : Nat → Bool) = h at *
  go_enter Tryz.func12, Tryz.ntmps12
  go_wp2_with fail
  (with_reducible refine (HE.out _).mono ?_); rintro e w1 ⟨rfl, hb1⟩
  have hF1 := ((HF0.out.go hb1).al (stO h)).cons (alloc1_new w1 (stO h))
  have hne : w1.heap.size ≠ w.heap.size := by have := (HF0.out.go hb1).lt (g := w.heap.size) (o := st0O) (by simp); omega
  obtain ⟨⟨d0, d1, d2, d3⟩, ⟨f0, f1, f2, f3⟩, hlt⟩ := bx4 (hF1.at (g := w.heap.size) (o := st0O) (by simp))
  obtain ⟨⟨c0, c1, c2, c3⟩, _⟩ := bx4 (hF1.at (g := w1.heap.size) (o := stO h) (by simp))
  have hB := hF1.bel
  clear hF1 HF0 hb1
  go_upto_region 2 with fail
  generalize w1.alloc (stO h) = W1 at *
  generalize w1.heap.size = g1 at *
  go_wp2
  refine bodyPost_ret (v := stV h) (by simp [results, go_sem, d0, d1, d2, d3]) rfl ⟨rfl, ?_⟩
  repeat' (first | with_reducible exact hB | with_reducible refine bs ?_ ?_ | (simp only; done) | (simp only; omega))
end Go.Proofs.YtcopnpllaoahaaaGreatDoor
