/- SyntaxKnown: the examples of the document. No condition. -/
import Derived.Test.YtcopnpllaoahaaaGreatDoorE18
import Derived.Test.YtcopnpllaoahaaaGreatDoorY5
namespace Go.Proofs.YtcopnpllaoahaaaGreatDoor
open Go.RowKit
theorem no_rules {L : List UInt8} {p : Nat} {q er : Int} (h : (psK L).2 = (p, q, er)) (he : er ≠ 0) : psK L = ([], p, q, er) := by
  have h2 := of_snd h
  have := (psK_fault h2 he).1
  rw [h2, this]
abbrev knT : Nat → List UInt8
  | 0 => [114, 117, 108, 101]
  | 1 => [114, 117, 108, 101, 32, 49]
  | 2 => [114, 117, 108, 101, 32, 120]
  | 3 => [114, 117, 108, 101, 32, 49, 32, 103, 97, 112, 32, 50]
  | 4 => [114, 117, 108, 101, 32, 49, 32, 103, 97, 112, 32, 50, 32, 46]
  | _ => [114, 117, 108, 101, 32, 49, 32, 51]
abbrev knA : Nat → Int
  | 0 => 4
  | 1 => 6
  | 2 => 5
  | 3 => 12
  | 4 => 13
  | _ => 7
theorem kn_ps (k : Nat) (hk : k < 6) : psK (knT k ++ [10]) = ([], 1, knA k, 6) := by
  rcases (show k = 0 ∨ k = 1 ∨ k = 2 ∨ k = 3 ∨ k = 4 ∨ k = 5 by omega) with rfl | rfl | rfl | rfl | rfl | rfl
  · exact no_rules syk0 (by decide)
  · exact no_rules syk1 (by decide)
  · exact no_rules syk2 (by decide)
  · exact no_rules syk3 (by decide)
  · exact no_rules syk4 (by decide)
  · exact no_rules syk5 (by decide)
theorem psG : ∃ l, psK [10, 114, 117, 108, 101, 32, 49, 32, 105, 34, 97, 34, 32, 46, 10] = (l, 0, 0, 0) ∧ rusQ l [exK] = true := ⟨_, of_snd sykG, sykQ⟩
abbrev tsC : List Value := [.string ⟨(knT 0).toArray⟩, .string ⟨(knT 1).toArray⟩, .string ⟨(knT 2).toArray⟩, .string ⟨(knT 3).toArray⟩, .string ⟨(knT 4).toArray⟩, .string ⟨(knT 5).toArray⟩]
abbrev asC : List Value := [.int .i64 4, .int .i64 6, .int .i64 5, .int .i64 12, .int .i64 13, .int .i64 7]
abbrev tsO : Obj := .cells #[.string ⟨#[114, 117, 108, 101]⟩, .string ⟨#[114, 117, 108, 101, 32, 49]⟩, .string ⟨#[114, 117, 108, 101, 32, 120]⟩, .string ⟨#[114, 117, 108, 101, 32, 49, 32, 103, 97, 112, 32, 50]⟩, .string ⟨#[114, 117, 108, 101, 32, 49, 32, 103, 97, 112, 32, 50, 32, 46]⟩, .string ⟨#[114, 117, 108, 101, 32, 49, 32, 51]⟩] 32 (0, 0)
abbrev asO : Obj := .cells #[.int .i64 4, .int .i64 6, .int .i64 5, .int .i64 12, .int .i64 13, .int .i64 7] 33 (0, 0)
set_option maxRecDepth 100000 in
set_option maxHeartbeats 8000000 in
theorem syntaxKnown_walk (w : World) (hL : LxW w) (hH : Hd w) (hM : ML w) :
    Calls Tryz.prog 5 #[] w fun e w' => e = .returned (.bool true) ∧ Below w.heap.size w w' := by
  have HW := Lib.hid (show SyW w from ⟨hL, hH, hM⟩)
  have HSh := Lib.hid shown_
  clear hL hH hM
  have HF0 := Lib.hid ((((Fr.start w).newN (g := w.heap.size) rfl tsO).newN (g := w.heap.size + 1) (by simp) asO).sub (M := [(w.heap.size, tsO), (w.heap.size + 1, asO)]) (by simp))
  obtain ⟨lg, hg1, hg2⟩ := psG
  have HG := Lib.hid (fun W (hW : SyW W) => ps_ ⟨#[10, 114, 117, 108, 101, 32, 49, 32, 105, 34, 97, 34, 32, 46, 10]⟩ _ rfl (by decide) lg 0 0 0 (Lib.hid hg1) W hW)
  have HQ := Lib.hid hg2
  clear hg1 hg2
  go_enter Tryz.func5, Tryz.ntmps5
  go_upto_region 3 with fail
  generalize (w.alloc tsO).alloc asO = W1 at *
  go_wp2
  go_loopw [3] (fun i wr => ∃ k : Nat, k ≤ 6 ∧ i = .int .i64 (k : Int) ∧ Fr w [(w.heap.size, tsO), (w.heap.size + 1, asO)] wr) (fun i _ => 6 - (intOf i).toNat)
  case atStart => exact ⟨0, by omega, rfl, HF0.out⟩
  case round =>
    obtain ⟨k, hk, rfl, hF⟩ := hrel
    by_cases hlt : k < 6
    · have i1 : (k : Int) < 6 := by omega
      have i0 : (0 : Int) ≤ (k : Int) := by omega
      have HF := Lib.hid hF
      have hkn := kn_ps k hlt
      have c0 : wr.cell? ⟨w.heap.size, k, none⟩ = some (.string ⟨(knT k).toArray⟩) := by
        have h := Lib.cell_of_heap (hF.at (g := w.heap.size) (o := tsO) (by simp)) k
        rw [h]
        rcases (show k = 0 ∨ k = 1 ∨ k = 2 ∨ k = 3 ∨ k = 4 ∨ k = 5 by omega) with rfl | rfl | rfl | rfl | rfl | rfl <;> rfl
      have hts : (⟨(knT k).toArray⟩ : ByteArray).data.toList = knT k := by simp
      have hsz : (⟨(knT k).toArray⟩ : ByteArray).size ≤ 20 := by
        rcases (show k = 0 ∨ k = 1 ∨ k = 2 ∨ k = 3 ∨ k = 4 ∨ k = 5 by omega) with rfl | rfl | rfl | rfl | rfl | rfl <;> decide
      generalize (⟨(knT k).toArray⟩ : ByteArray) = T at *
      have hcat : (T ++ (⟨#[10]⟩ : ByteArray)).data.toList = knT k ++ [10] := by rw [← hts]; simp
      have hcs : (T ++ (⟨#[10]⟩ : ByteArray)).size ≤ 140737488351232 := by
        rw [ByteArray.size_append]
        have : (⟨#[10]⟩ : ByteArray).size = 1 := rfl
        omega
      have s1 : ¬ (9223372036854775807 < T.size + 1) := by omega
      have HP := Lib.hid (fun W (hW : SyW W) => ps_ (T ++ (⟨#[10]⟩ : ByteArray)) _ hcat hcs [] 1 (knA k) 6 (Lib.hid hkn) W hW)
      have hlw := hF.lt (g := w.heap.size) (o := tsO) (by simp)
      clear hF hkn hts hcat hcs hsz
      go_wp2_with fail
      (with_reducible refine (HP.out _ (HW.out.below HF.out.bel)).mono ?_); rintro e w3 ⟨A, c, Rs, rfl, hb3, _, _, hl3, _⟩
      have hF3 := HF.out.go hb3
      have d0 : w3.cell? ⟨w.heap.size + 1, k, none⟩ = some (.int .i64 (knA k)) := by
        have h := Lib.cell_of_heap (hF3.at (g := w.heap.size + 1) (o := asO) (by simp)) k
        rw [h]
        rcases (show k = 0 ∨ k = 1 ∨ k = 2 ∨ k = 3 ∨ k = 4 ∨ k = 5 by omega) with rfl | rfl | rfl | rfl | rfl | rfl <;> rfl
      have i4 : ((Rs.length : Int) != 0) = false := by rw [hl3]; rfl
      have i5 : (knA k != knA k) = false := by simp
      have HF3 := Lib.hid hF3
      clear hb3 hl3 hF3 c0
      generalize knA k = X at *
      go_wp2
      go_roundw
      case rel => exact ⟨k + 1, by omega, by go_num, HF3.out⟩
      case measure => (simp [intOf]) <;> omega
    · obtain rfl : k = 6 := by omega
      have HB := Lib.hid hF.bel
      have HA := Lib.hid rall_
      obtain ⟨fa, hfa⟩ : ∃ f : Nat → Bool, f = fun _ => true := ⟨_, rfl⟩
      rw [← hfa] at HA
      have HX := Lib.hid (show els exK.2 = [.int .i64 2, .string ⟨#[97]⟩, .int .u64 0, .int .u64 0, .int .u64 0, .int .u64 0, .int .i64 0, .int .i64 0,
          .int .i64 3, .string ⟨#[]⟩, .int .u64 ((wK fa 0 : Nat) : Int), .int .u64 ((wK fa 1 : Nat) : Int), .int .u64 ((wK fa 2 : Nat) : Int), .int .u64 ((wK fa 3 : Nat) : Int), .int .i64 0, .int .i64 0] by
        rw [hfa]
        unfold exK els elC noB noK
        simp only [List.flatMap_cons, List.flatMap_nil, wK_no]
        rfl)
      clear hF hfa
      go_wp2_with fail
      (with_reducible refine (HG.out _ (HW.out.below HB.out)).mono ?_); rintro e w3 ⟨A, c, Rs, rfl, hb3, hI3, hm3, hl3, hc3⟩
      have HB3 := Lib.hid (bt HB.out hb3)
      have HI3 := Lib.hid hI3
      have HM3 := Lib.hid hm3
      have hRl : Rs.length ≤ 9223372036854775807 := by rw [hl3]; exact Nat.le_trans hc3.1 hc3.2
      clear hb3 hI3 hm3 hl3 hc3
      go_wp2_with fail
      (with_reducible refine (HA.out _).mono ?_); rintro e w4 ⟨rfl, hb4⟩
      have hB4 := ba (ba (bt HB3.out hb4) (.cells (els exK.2).toArray 38 (0, 0))) (bxO 1 (some ⟨w4.heap.size, 0, none⟩) 2 2)
      have hI4 := ((HI3.out.go hb4).go ((Below.refl _ _).alloc (Nat.le_refl _) (.cells (els exK.2).toArray 38 (0, 0)))).go ((Below.refl _ _).alloc (Nat.le_refl _) (bxO 1 (some ⟨w4.heap.size, 0, none⟩) 2 2))
      have hr4 : IsRu (w4.alloc (.cells (els exK.2).toArray 38 (0, 0))) (1, some ⟨w4.heap.size, 0, none⟩, 2, exK.2) := by
        refine ⟨?_, show 2 ≤ 2 by decide, show 2 ≤ 9223372036854775807 by decide⟩
        have := reads_blkN (size := 8) (n := 2) (cs := els exK.2) (w := w4.alloc (.cells (els exK.2).toArray 38 (0, 0))) (g := w4.heap.size) (t := 38) (alloc1_new _ _) (by rw [els_len]; rfl)
        exact this
      have hIs := is_one (alloc1_new (w4.alloc (.cells (els exK.2).toArray 38 (0, 0))) (bxO 1 (some ⟨w4.heap.size, 0, none⟩) 2 2)) (hr4.go ((Below.refl _ _).alloc (Nat.le_refl _) (bxO 1 (some ⟨w4.heap.size, 0, none⟩) 2 2)))
      have esz : (w4.alloc (.cells (els exK.2).toArray 38 (0, 0))).heap.size = w4.heap.size + 1 := by simp
      rw [esz] at hIs
      have hAl := allR_ Rs [(1, some ⟨w4.heap.size, 0, none⟩, 2, exK.2)] _ A _ c 1 hI4 hIs hRl true (Lib.hid (by rw [HM3.out]; exact HQ.out))
      rw [List.length_singleton, HX.out] at hAl
      rw [HX.out] at hB4
      have HAl := Lib.hid hAl
      have HB4 := Lib.hid hB4
      clear hb4 hB4 hI4 hr4 hIs esz hAl
      go_wp2_with fail
      (with_reducible refine (HAl.out).mono ?_); rintro e w6 ⟨rfl, hb6⟩
      have HB6 := Lib.hid (bt HB4.out hb6)
      clear hb6
      go_wp2_with fail
      (with_reducible refine (HSh.out _ (HW.out.below HB6.out)).mono ?_); rintro e w7 ⟨rfl, hb7⟩
      have HB7 := Lib.hid (bt HB6.out hb7)
      clear hb7
      go_wp2
      go_ret
      exact ⟨rfl, HB7.out⟩
end Go.Proofs.YtcopnpllaoahaaaGreatDoor
