/- LexerKnown: the examples of the document. Printed by genlxknown.py. -/
import Derived.Test.YtfleamgncodkpaaDoorJ13
namespace Go.Proofs.YtfleamgncodkpaaDoor
open Go.RowKit
theorem kn_bad {L : List UInt8} {p : Nat} (h : (lineK L).2 = (p, 6)) (h1 : (lineK L).1.isEmpty = true) : lineK L = ([], p, 6) := by
  rcases hh : lineK L with ⟨l, q⟩
  rw [hh] at h h1
  exact Prod.ext (List.isEmpty_iff.1 h1) h
theorem kn0 : lineK [114, 117, 108, 101, 115] = ([], 0, 6) := kn_bad (by decide +kernel) (by decide +kernel)
theorem kn1 : lineK [114, 117, 108, 101, 55] = ([], 0, 6) := kn_bad (by decide +kernel) (by decide +kernel)
theorem kn2 : lineK [49, 120] = ([], 1, 6) := kn_bad (by decide +kernel) (by decide +kernel)
theorem kn3 : lineK [34, 97, 34, 98] = ([], 3, 6) := kn_bad (by decide +kernel) (by decide +kernel)
theorem kn4 : lineK [34, 97] = ([], 0, 6) := kn_bad (by decide +kernel) (by decide +kernel)
theorem kn5 : lineK [105] = ([], 0, 6) := kn_bad (by decide +kernel) (by decide +kernel)
theorem kn6 : lineK [105, 32, 120] = ([], 0, 6) := kn_bad (by decide +kernel) (by decide +kernel)
theorem kn7 : lineK [91, 97] = ([], 2, 6) := kn_bad (by decide +kernel) (by decide +kernel)
theorem kn8 : lineK [91, 97, 93, 98] = ([], 3, 6) := kn_bad (by decide +kernel) (by decide +kernel)
theorem kn9 : lineK [49, 50, 51, 52, 53, 54, 55, 56, 57, 48] = ([], 9, 6) := kn_bad (by decide +kernel) (by decide +kernel)
theorem kn10 : lineK [34, 92, 120, 52, 49, 34] = ([], 0, 6) := kn_bad (by decide +kernel) (by decide +kernel)
theorem knG : (lineK [32, 32, 48, 48, 55, 32, 32, 32, 34, 65, 34, 32, 46]).2 = (0, 0) := by decide +kernel
theorem knP : prnL ((lineK [32, 32, 48, 48, 55, 32, 32, 32, 34, 65, 34, 32, 46]).1.map t9) = (⟨#[55, 32, 34, 65, 34, 32, 46]⟩, 0, 0) := by decide +kernel
theorem knN : (lineK [32, 32, 48, 48, 55, 32, 32, 32, 34, 65, 34, 32, 46]).1.length = 3 := by decide +kernel
theorem ln_no (s : ByteArray) (hs : s.size ≤ 100000) (L : List UInt8) (hL : s.data.toList = L) (p : Nat) (P : Int) (hP : P = (p : Int)) (h : lineK L = ([], p, 6)) (w : World) (hE : Esc w) (hM : ML w) :
    Calls Tryd.prog 14 #[.string s] w fun e w' => ∃ A c, e = .returned (.tuple #[.slice A 0 c, .int .i64 P, .int .i64 6]) ∧ Below w.heap.size w w' := by
  refine (ln_at s hs L hL [] P 6 (Lib.hid ⟨p, h, hP⟩) w hE hM).mono ?_
  rintro e w' ⟨A, c, he, hb, _⟩
  exact ⟨A, c, he, hb⟩
abbrev knLO : Obj := .cells #[.string ⟨#[114, 117, 108, 101, 115]⟩, .string ⟨#[114, 117, 108, 101, 55]⟩, .string ⟨#[49, 120]⟩, .string ⟨#[34, 97, 34, 98]⟩, .string ⟨#[34, 97]⟩, .string ⟨#[105]⟩, .string ⟨#[105, 32, 120]⟩, .string ⟨#[91, 97]⟩, .string ⟨#[91, 97, 93, 98]⟩, .string ⟨#[49, 50, 51, 52, 53, 54, 55, 56, 57, 48]⟩] 39 (0, 0)
abbrev knFO : Obj := .cells #[.int .i64 0, .int .i64 0, .int .i64 1, .int .i64 3, .int .i64 0, .int .i64 0, .int .i64 0, .int .i64 2, .int .i64 3, .int .i64 9] 40 (0, 0)
set_option maxRecDepth 100000 in
set_option maxHeartbeats 8000000 in
theorem lexerKnown_walk (w : World) (hW : LxW w) (hM : ML w) : Calls Tryd.prog 7 #[] w fun e w' => e = .returned (.bool true) ∧ Below w.heap.size w w' := by
  obtain ⟨lg, hlg⟩ : ∃ l, l = (lineK [32, 32, 48, 48, 55, 32, 32, 32, 34, 65, 34, 32, 46]).1 := ⟨_, rfl⟩
  have HG : Hid (∃ q : Nat, lineK [32, 32, 48, 48, 55, 32, 32, 32, 34, 65, 34, 32, 46] = (lg, q, 0) ∧ (0 : Int) = (q : Int)) := Lib.hid ⟨0, Prod.ext hlg.symm knG, rfl⟩
  have HP : Hid (∃ q : Nat, prnL (lg.map t9) = (⟨#[55, 32, 34, 65, 34, 32, 46]⟩, q, 0) ∧ (0 : Int) = (q : Int)) := Lib.hid ⟨0, by rw [hlg]; exact knP, rfl⟩
  have hln : lg.length = 3 := by rw [hlg]; exact knN
  have HN := Lib.hid (show (lg.map t9).length = lg.length from List.length_map _)
  have hl2 : lg.length ≤ 100000 := by omega
  have HF0 := Lib.hid (Fr.start w)
  have HW := Lib.hid hW
  have HM := Lib.hid hM
  clear hlg hW hM hln
  go_enter Tryd.func7, Tryd.ntmps7
  go_upto_region 3 with fail
  have hF1 : Fr w [(w.heap.size, knLO), (w.heap.size + 1, knFO)] ((w.alloc knLO).alloc knFO) := (((HF0.out.new knLO).newN (g := w.heap.size + 1) (by simp) knFO).sub (by simp))
  have HF1 := Lib.hid hF1
  clear hF1
  generalize ((w.alloc knLO).alloc knFO) = W1 at *
  go_wp2
  go_loopw [3] (fun i wr => ∃ k : Nat, k ≤ 10 ∧ i = .int .i64 (k : Int) ∧ Hid (Fr w [(w.heap.size, knLO), (w.heap.size + 1, knFO)] wr)) (fun i _ => 10 - (intOf i).toNat)
  case atStart => exact ⟨0, by omega, rfl, HF1⟩
  case round =>
    obtain ⟨k, hk, rfl, HF⟩ := hrel
    rcases (show k = 0 ∨ k = 1 ∨ k = 2 ∨ k = 3 ∨ k = 4 ∨ k = 5 ∨ k = 6 ∨ k = 7 ∨ k = 8 ∨ k = 9 ∨ k = 10 by omega) with rfl | rfl | rfl | rfl | rfl | rfl | rfl | rfl | rfl | rfl | rfl
    · have hl := Lib.cell_of_heap (HF.out.at (g := w.heap.size) (o := knLO) (by simp)) 0
      go_wp2_with fail
      (with_reducible refine (ln_no ⟨#[114, 117, 108, 101, 115]⟩ (by decide) [114, 117, 108, 101, 115] rfl 0 0 rfl kn0 _ (HW.out.below HF.out.bel).esc (HM.out.below HF.out.bel)).mono ?_)
      rintro e w3 ⟨A, c, rfl, hb⟩
      have HF3 := Lib.hid (HF.out.go hb)
      have hf := Lib.cell_of_heap (HF3.out.at (g := w.heap.size + 1) (o := knFO) (by simp)) 0
      clear hl hb HF
      go_wp2
      go_roundw
      case rel => exact ⟨1, by omega, rfl, HF3⟩
      case measure => simp [intOf]
    · have hl := Lib.cell_of_heap (HF.out.at (g := w.heap.size) (o := knLO) (by simp)) 1
      go_wp2_with fail
      (with_reducible refine (ln_no ⟨#[114, 117, 108, 101, 55]⟩ (by decide) [114, 117, 108, 101, 55] rfl 0 0 rfl kn1 _ (HW.out.below HF.out.bel).esc (HM.out.below HF.out.bel)).mono ?_)
      rintro e w3 ⟨A, c, rfl, hb⟩
      have HF3 := Lib.hid (HF.out.go hb)
      have hf := Lib.cell_of_heap (HF3.out.at (g := w.heap.size + 1) (o := knFO) (by simp)) 1
      clear hl hb HF
      go_wp2
      go_roundw
      case rel => exact ⟨2, by omega, rfl, HF3⟩
      case measure => simp [intOf]
    · have hl := Lib.cell_of_heap (HF.out.at (g := w.heap.size) (o := knLO) (by simp)) 2
      go_wp2_with fail
      (with_reducible refine (ln_no ⟨#[49, 120]⟩ (by decide) [49, 120] rfl 1 1 rfl kn2 _ (HW.out.below HF.out.bel).esc (HM.out.below HF.out.bel)).mono ?_)
      rintro e w3 ⟨A, c, rfl, hb⟩
      have HF3 := Lib.hid (HF.out.go hb)
      have hf := Lib.cell_of_heap (HF3.out.at (g := w.heap.size + 1) (o := knFO) (by simp)) 2
      clear hl hb HF
      go_wp2
      go_roundw
      case rel => exact ⟨3, by omega, rfl, HF3⟩
      case measure => simp [intOf]
    · have hl := Lib.cell_of_heap (HF.out.at (g := w.heap.size) (o := knLO) (by simp)) 3
      go_wp2_with fail
      (with_reducible refine (ln_no ⟨#[34, 97, 34, 98]⟩ (by decide) [34, 97, 34, 98] rfl 3 3 rfl kn3 _ (HW.out.below HF.out.bel).esc (HM.out.below HF.out.bel)).mono ?_)
      rintro e w3 ⟨A, c, rfl, hb⟩
      have HF3 := Lib.hid (HF.out.go hb)
      have hf := Lib.cell_of_heap (HF3.out.at (g := w.heap.size + 1) (o := knFO) (by simp)) 3
      clear hl hb HF
      go_wp2
      go_roundw
      case rel => exact ⟨4, by omega, rfl, HF3⟩
      case measure => simp [intOf]
    · have hl := Lib.cell_of_heap (HF.out.at (g := w.heap.size) (o := knLO) (by simp)) 4
      go_wp2_with fail
      (with_reducible refine (ln_no ⟨#[34, 97]⟩ (by decide) [34, 97] rfl 0 0 rfl kn4 _ (HW.out.below HF.out.bel).esc (HM.out.below HF.out.bel)).mono ?_)
      rintro e w3 ⟨A, c, rfl, hb⟩
      have HF3 := Lib.hid (HF.out.go hb)
      have hf := Lib.cell_of_heap (HF3.out.at (g := w.heap.size + 1) (o := knFO) (by simp)) 4
      clear hl hb HF
      go_wp2
      go_roundw
      case rel => exact ⟨5, by omega, rfl, HF3⟩
      case measure => simp [intOf]
    · have hl := Lib.cell_of_heap (HF.out.at (g := w.heap.size) (o := knLO) (by simp)) 5
      go_wp2_with fail
      (with_reducible refine (ln_no ⟨#[105]⟩ (by decide) [105] rfl 0 0 rfl kn5 _ (HW.out.below HF.out.bel).esc (HM.out.below HF.out.bel)).mono ?_)
      rintro e w3 ⟨A, c, rfl, hb⟩
      have HF3 := Lib.hid (HF.out.go hb)
      have hf := Lib.cell_of_heap (HF3.out.at (g := w.heap.size + 1) (o := knFO) (by simp)) 5
      clear hl hb HF
      go_wp2
      go_roundw
      case rel => exact ⟨6, by omega, rfl, HF3⟩
      case measure => simp [intOf]
    · have hl := Lib.cell_of_heap (HF.out.at (g := w.heap.size) (o := knLO) (by simp)) 6
      go_wp2_with fail
      (with_reducible refine (ln_no ⟨#[105, 32, 120]⟩ (by decide) [105, 32, 120] rfl 0 0 rfl kn6 _ (HW.out.below HF.out.bel).esc (HM.out.below HF.out.bel)).mono ?_)
      rintro e w3 ⟨A, c, rfl, hb⟩
      have HF3 := Lib.hid (HF.out.go hb)
      have hf := Lib.cell_of_heap (HF3.out.at (g := w.heap.size + 1) (o := knFO) (by simp)) 6
      clear hl hb HF
      go_wp2
      go_roundw
      case rel => exact ⟨7, by omega, rfl, HF3⟩
      case measure => simp [intOf]
    · have hl := Lib.cell_of_heap (HF.out.at (g := w.heap.size) (o := knLO) (by simp)) 7
      go_wp2_with fail
      (with_reducible refine (ln_no ⟨#[91, 97]⟩ (by decide) [91, 97] rfl 2 2 rfl kn7 _ (HW.out.below HF.out.bel).esc (HM.out.below HF.out.bel)).mono ?_)
      rintro e w3 ⟨A, c, rfl, hb⟩
      have HF3 := Lib.hid (HF.out.go hb)
      have hf := Lib.cell_of_heap (HF3.out.at (g := w.heap.size + 1) (o := knFO) (by simp)) 7
      clear hl hb HF
      go_wp2
      go_roundw
      case rel => exact ⟨8, by omega, rfl, HF3⟩
      case measure => simp [intOf]
    · have hl := Lib.cell_of_heap (HF.out.at (g := w.heap.size) (o := knLO) (by simp)) 8
      go_wp2_with fail
      (with_reducible refine (ln_no ⟨#[91, 97, 93, 98]⟩ (by decide) [91, 97, 93, 98] rfl 3 3 rfl kn8 _ (HW.out.below HF.out.bel).esc (HM.out.below HF.out.bel)).mono ?_)
      rintro e w3 ⟨A, c, rfl, hb⟩
      have HF3 := Lib.hid (HF.out.go hb)
      have hf := Lib.cell_of_heap (HF3.out.at (g := w.heap.size + 1) (o := knFO) (by simp)) 8
      clear hl hb HF
      go_wp2
      go_roundw
      case rel => exact ⟨9, by omega, rfl, HF3⟩
      case measure => simp [intOf]
    · have hl := Lib.cell_of_heap (HF.out.at (g := w.heap.size) (o := knLO) (by simp)) 9
      go_wp2_with fail
      (with_reducible refine (ln_no ⟨#[49, 50, 51, 52, 53, 54, 55, 56, 57, 48]⟩ (by decide) [49, 50, 51, 52, 53, 54, 55, 56, 57, 48] rfl 9 9 rfl kn9 _ (HW.out.below HF.out.bel).esc (HM.out.below HF.out.bel)).mono ?_)
      rintro e w3 ⟨A, c, rfl, hb⟩
      have HF3 := Lib.hid (HF.out.go hb)
      have hf := Lib.cell_of_heap (HF3.out.at (g := w.heap.size + 1) (o := knFO) (by simp)) 9
      clear hl hb HF
      go_wp2
      go_roundw
      case rel => exact ⟨10, by omega, rfl, HF3⟩
      case measure => simp [intOf]
    · go_wp2_with fail
      (with_reducible refine (ln_no ⟨#[34, 92, 120, 52, 49, 34]⟩ (by decide) [34, 92, 120, 52, 49, 34] rfl 0 0 rfl kn10 _ (HW.out.below HF.out.bel).esc (HM.out.below HF.out.bel)).mono ?_)
      rintro e w3 ⟨A, c, rfl, hb⟩
      have HF3 := Lib.hid (HF.out.go hb)
      clear hb HF
      go_wp2_with fail
      (with_reducible refine (ln_at ⟨#[32, 32, 48, 48, 55, 32, 32, 32, 34, 65, 34, 32, 46]⟩ (by decide) [32, 32, 48, 48, 55, 32, 32, 32, 34, 65, 34, 32, 46] rfl lg 0 0 HG _ (HW.out.below HF3.out.bel).esc (HM.out.below HF3.out.bel)).mono ?_)
      rintro e w4 ⟨A4, c4, rfl, hb, hr⟩
      have HF4 := Lib.hid (HF3.out.go hb)
      have HR4 := Lib.hid hr
      clear hb hr HF3
      go_wp2_with fail
      (with_reducible refine (pr_at (lg.map t9) lg.length HN.out _ A4 c4 HR4.out hl2 ⟨#[55, 32, 34, 65, 34, 32, 46]⟩ 0 0 HP (HW.out.below HF4.out.bel)).mono ?_); rintro e w5 ⟨rfl, hb⟩
      have HF5 := Lib.hid (HF4.out.go hb)
      clear hb HF4 HR4
      go_wp2_with fail
      (with_reducible refine (shown_ _ (HW.out.below HF5.out.bel) (HM.out.below HF5.out.bel)).mono ?_); rintro e w6 ⟨rfl, hb⟩
      have HB := Lib.hid (bt HF5.out.bel hb)
      clear hb HF5
      go_wp2
      go_ret
      exact ⟨rfl, HB.out⟩
end Go.Proofs.YtfleamgncodkpaaDoor
