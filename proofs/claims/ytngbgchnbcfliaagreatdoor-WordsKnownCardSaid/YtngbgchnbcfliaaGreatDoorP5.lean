/- words: ParseList of the program at 0-600. No condition. -/
import Derived.Test.YtngbgchnbcfliaaGreatDoorP4
import Derived.Test.YtngbgchnbcfliaaGreatDoorN10
namespace Go.Proofs.YtngbgchnbcfliaaGreatDoor
open Go.RowKit
theorem atoiC (s : ByteArray) (v : Int) (w : World) (hs : s.size ≤ 1000) (h : Hid (Lib.atoiAll s.data.toList = .ok v)) :
    Calls Tryz.prog 32 #[.string s] w fun e w' => e = .returned (.tuple #[.int .i64 v, .nilIface]) ∧ Below w.heap.size w w' := by
  refine (Tryz.strconv_Atoi_ok s (by omega) v h.out w).mono ?_
  rintro e w' ⟨rfl, rfl | ⟨t, rfl⟩⟩
  · exact ⟨rfl, Below.refl _ _⟩
  · exact ⟨rfl, Lib.bytesWorld_below _ _ _⟩
theorem dg_big : Dg 1000000000 = ⟨#[49, 48, 48, 48, 48, 48, 48, 48, 48, 48]⟩ := by
  show (⟨(Lib.itoa 1000000000).toArray⟩ : ByteArray) = _
  have h : Lib.itoa 1000000000 = [49, 48, 48, 48, 48, 48, 48, 48, 48, 48] := by
    rw [show (1000000000 : Int) = ((1000000000 : Nat) : Int) from rfl, Lib.itoa_nonneg, Lib.decDigits_eq]
    decide +kernel
  rw [h]
set_option maxRecDepth 100000 in
set_option maxHeartbeats 1000000 in
theorem pl0600 (w : World) (hM : ML w) (hP : Pow w) :
    Calls Tryz.prog 9 #[.string ⟨#[48, 45, 54, 48, 48]⟩] w fun e w' => e = .returned (.tuple #[.slice none 0 0, .int .i64 3]) ∧ Below w.heap.size w w' := by
  have q0 := Lib.hid (show Lib.splitB ⟨#[44]⟩ 0 (Lib.countB ⟨#[48, 45, 54, 48, 48]⟩ ⟨#[44]⟩) ⟨#[48, 45, 54, 48, 48]⟩ = [⟨#[48, 45, 54, 48, 48]⟩] by decide +kernel)
  have q1 := Lib.hid (show Lib.countB ⟨#[48, 45, 54, 48, 48]⟩ ⟨#[44]⟩ + 1 = ([⟨#[48, 45, 54, 48, 48]⟩] : List ByteArray).length by decide +kernel)
  have q2 := Lib.hid (show Lib.cut (⟨#[48, 45, 54, 48, 48]⟩ : ByteArray).data.toList [45] = ((⟨#[48]⟩ : ByteArray).data.toList, (⟨#[54, 48, 48]⟩ : ByteArray).data.toList, true) by decide +kernel)
  have q3 := Lib.hid (show decL (⟨#[48]⟩ : ByteArray).data.toList = true by decide +kernel)
  have q4 := Lib.hid (show decL (⟨#[54, 48, 48]⟩ : ByteArray).data.toList = true by decide +kernel)
  have q5 := Lib.hid (show cmpI (⟨#[48]⟩ : ByteArray).data.toList (⟨#[54, 48, 48]⟩ : ByteArray).data.toList = -2 by decide +kernel)
  have q6 := Lib.hid (show cmpI (⟨#[54, 48, 48]⟩ : ByteArray).data.toList (⟨#[49, 48, 48, 48, 48, 48, 48, 48, 48, 48]⟩ : ByteArray).data.toList = -7 by decide +kernel)
  have q7 := Lib.hid (show Lib.atoiAll (⟨#[48]⟩ : ByteArray).data.toList = .ok 0 by rfl)
  have q8 := Lib.hid (show Lib.atoiAll (⟨#[54, 48, 48]⟩ : ByteArray).data.toList = .ok 600 by rfl)
  have q9 := Lib.hid dg_big.symm
  go_enter Tryz.func9, Tryz.ntmps9
  go_wp2_with fail
  (with_reducible refine (splitC _ _ _ hM (by decide) q0 q1).mono ?_); rintro e w1 ⟨rfl, hw1⟩
  have c0 : w1.cell? ⟨w.heap.size, 0, none⟩ = some (.string ⟨#[48, 45, 54, 48, 48]⟩) := by rw [hw1]; exact Lib.cell_of_heap (alloc1_new _ _) 0
  have hb1 := Lib.hid (show Below w.heap.size w w1 by rw [hw1]; exact ba (Below.refl _ _) _)
  clear hw1
  go_wp2
  go_loopw [4, 5, 24] (fun l v i wr => (l = .string ⟨#[]⟩ ∧ v = .slice none 0 0 ∧ i = .int .i64 0 ∧ w1 = wr) ∨ (l = .string ⟨#[54, 48, 48]⟩ ∧ i = .int .i64 1 ∧ Below w.heap.size w wr ∧ wr.ownsRow w.heap.size 67 2 v 1 [.string ⟨#[48]⟩, .string ⟨#[54, 48, 48]⟩])) (fun _ _ i _ => 2 - (intOf i).toNat)
  case atStart => exact .inl ⟨rfl, rfl, rfl, rfl⟩
  case round =>
   rcases hrel with ⟨rfl, rfl, rfl, rfl⟩ | ⟨rfl, rfl, hbw, hown⟩
   · have hbw := hb1.out
     go_wp2_with fail
     (with_reducible refine (cutC _ ⟨#[48]⟩ ⟨#[54, 48, 48]⟩ true _ (hM.below hbw) (by decide) q2).mono ?_); rintro e w2 ⟨rfl, hb2⟩
     have hB2 := bt hbw hb2
     go_wp2_with fail
     (with_reducible refine (decC _ true _ (by decide) q3).mono ?_); rintro e w3 ⟨rfl, hb3⟩
     have hB3 := bt hB2 hb3
     go_wp2_with fail
     (with_reducible refine (decC _ true _ (by decide) q4).mono ?_); rintro e w4 ⟨rfl, hb4⟩
     have hB4 := bt hB3 hb4
     go_wp2_with fail
     (with_reducible refine (cmpC _ _ (-2) _ (by decide) (by decide) q5).mono ?_); rintro e w4 ⟨rfl, hw⟩; subst hw
     go_wp2_with (at_builtin; refine wpList_ap prEl (w0 := w) ((World.ownsRow_nil _ _ _ _ : w4.ownsRow w.heap.size 67 2 (.slice none 0 0) 0 []).alloc _) (ba hB4 _) [.string ⟨#[48]⟩, .string ⟨#[54, 48, 48]⟩] (alloc1_new _ _) ?_)
     intro g0 cap0 w5 ho0 hb5 hg0
     go_wp2
     go_roundw
     case rel => exact .inr ⟨rfl, rfl, hb5, by simpa using ho0⟩
     case measure => simp [intOf]
   · obtain ⟨A9, c9, rfl, hr9, _, _⟩ := own_sl hown
     obtain ⟨b, off, rfl, hlb, hcell⟩ := hr9.2 (by omega)
     have k0 := hcell 0 _ rfl
     have k1 := hcell 1 _ rfl
     rw [Nat.add_zero] at k0
     clear c0 hown hr9 hcell
     go_wp2_with fail
     (with_reducible refine (itoa_ 1000000000 _ q9 (by omega) (by omega) _ (hP.below hbw)).mono ?_); rintro e w6 ⟨rfl, hb6⟩
     have hB6 := bt hbw hb6
     have k0 := (hb6.cell (p := ⟨b, off, none⟩) hlb).trans k0
     have k1 := (hb6.cell (p := ⟨b, off + 1, none⟩) hlb).trans k1
     go_wp2_with fail
     (with_reducible refine (cmpC _ _ (-7) _ (by decide) (by decide) q6).mono ?_); rintro e w6 ⟨rfl, hw⟩; subst hw
     go_wp2
     go_loopw [11, 84] (fun l i wr => l = .slice none 0 0 ∧ i = .int .i64 0 ∧ w6 = wr) (fun _ _ _ => 0)
     case atStart => exact ⟨rfl, rfl, rfl⟩
     case round =>
       obtain ⟨rfl, rfl, rfl⟩ := hrel
       go_wp2_with fail
       (with_reducible refine (atoiC _ 0 _ (by decide) q7).mono ?_); rintro e w7 ⟨rfl, hb7⟩
       have hB7 := bt (ba hB6 _) hb7
       have n0 := Lib.cell_of_heap (below_blk hb7 (heap_lt (alloc1_new _ _)) (alloc1_new _ _)) 1
       go_wp2_with fail
       (with_reducible refine (atoiC _ 600 _ (by decide) q8).mono ?_); rintro e w8 ⟨rfl, hb8⟩
       have hB8 := bt hB7 hb8
       go_wp2
       go_ret2
       exact ⟨rfl, hB8⟩
end Go.Proofs.YtngbgchnbcfliaaGreatDoor
