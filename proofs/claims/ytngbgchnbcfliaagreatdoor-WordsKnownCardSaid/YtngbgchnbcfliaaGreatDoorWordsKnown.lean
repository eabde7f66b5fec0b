/- WordsKnown: the law returns true. No condition. -/
import Derived.Test.YtngbgchnbcfliaaGreatDoorP5
import Derived.Test.YtngbgchnbcfliaaGreatDoorN12
namespace Go.Proofs.YtngbgchnbcfliaaGreatDoor
open Go.RowKit
theorem intC (s : ByteArray) (l h n e0 : Int) (w : World) (hs : s.size ≤ 1000) (hR : ER w) (hq : Hid (intR s.data.toList l h = (n, e0))) :
    Calls Tryz.prog 12 #[.string s, .int .i64 l, .int .i64 h] w fun e w' => e = .returned (.tuple #[.int .i64 n, .int .i64 e0]) ∧ Below w.heap.size w w' := by
  have := int_ s l h w (by omega) hR
  rw [hq.out] at this
  exact this
theorem unqC (s : ByteArray) (w : World) (hE : Esc w) (hs : s.size ≤ 1000) (hq : Hid (uqOk s.data.toList = false)) :
    Calls Tryz.prog 13 #[.string s] w fun e w' => e = .returned (.tuple #[.string ⟨#[]⟩, .int .i64 6]) ∧ Below w.heap.size w w' := by
  have := unquoteW s w hE (by omega)
  obtain ⟨h1, h2⟩ := uq_no hq.out
  rw [h1, h2] at this
  exact this
theorem splC (s : ByteArray) (e0 : Int) (w : World) (hE : Esc w) (hM : ML w) (hq : Hid (splitL s.data.toList = ([], e0))) :
    Calls Tryz.prog 14 #[.string s] w (RetSl w 2 [] 0 e0) := by
  have := split_ s w hE hM
  rw [hq.out] at this
  exact this
theorem namC (s : ByteArray) (b : Bool) (w : World) (hs : s.size ≤ 1000) (hq : Hid (nameL s.data.toList = b)) :
    Calls Tryz.prog 15 #[.string s] w fun e w' => e = .returned (.bool b) ∧ Below w.heap.size w w' := by
  have := name_ s w (by omega)
  rw [hq.out] at this
  exact this
theorem lisC (w : World) (hP : Pow w) :
    Calls Tryz.prog 7 #[.slice none 0 0] w fun e w' => e = .returned (.tuple #[.string ⟨#[45]⟩, .int .i64 0]) ∧ Below w.heap.size w w' := by
  have := list_ w none 0 [] Reads.none_ hP
  rw [listL_nil] at this
  exact this
set_option maxRecDepth 100000 in
set_option maxHeartbeats 2000000 in
theorem wordsKnown_walk (w : World) (hP : Pow w) (hR : ER w) (hE : Esc w) (hM : ML w) :
    Calls Tryz.prog 4 #[] w fun e w' => e = .returned (.bool true) ∧ Below w.heap.size w w' := by
  have a0 := Lib.hid (show intR (⟨#[48, 48, 55]⟩ : ByteArray).data.toList 0 10 = (0, 6) by decide +kernel)
  have a1 := Lib.hid (show intR (⟨#[45, 48]⟩ : ByteArray).data.toList 0 10 = (0, 6) by decide +kernel)
  have a2 := Lib.hid (show intR (⟨#[49, 50]⟩ : ByteArray).data.toList 0 10 = (0, 7) by decide +kernel)
  have b0 := Lib.hid (show uqOk (⟨#[34, 92, 120, 52, 49, 34]⟩ : ByteArray).data.toList = false by decide +kernel)
  have b1 := Lib.hid (show uqOk (⟨#[34, 92, 120, 55, 70, 34]⟩ : ByteArray).data.toList = false by decide +kernel)
  have b2 := Lib.hid (show uqOk (⟨#[34, 97]⟩ : ByteArray).data.toList = false by decide +kernel)
  have d0 := Lib.hid (show splitL (⟨#[97, 32, 32, 98]⟩ : ByteArray).data.toList = ([], 6) by decide +kernel)
  have d1 := Lib.hid (show splitL (⟨#[]⟩ : ByteArray).data.toList = ([], 0) by decide +kernel)
  have n0 := Lib.hid (show nameL (⟨#[87, 101, 98]⟩ : ByteArray).data.toList = false by decide +kernel)
  have n1 := Lib.hid (show nameL (⟨#[97, 97, 97, 97, 97, 97, 97, 97, 97, 97, 97, 97, 97, 97, 97, 97, 97]⟩ : ByteArray).data.toList = false by decide +kernel)
  go_enter Tryz.func4, Tryz.ntmps4
  go_wp2_with fail
  (with_reducible refine (intC _ 0 10 0 6 _ (by decide) (hR) a0).mono ?_); rintro e w1 ⟨rfl, hb1⟩
  have hB1 := hb1
  go_wp2_with fail
  (with_reducible refine (intC _ 0 10 0 6 _ (by decide) (hR.below hB1) a1).mono ?_); rintro e w2 ⟨rfl, hb2⟩
  have hB2 := bt hB1 hb2
  go_wp2_with fail
  (with_reducible refine (intC _ 0 10 0 7 _ (by decide) (hR.below hB2) a2).mono ?_); rintro e w3 ⟨rfl, hb3⟩
  have hB3 := bt hB2 hb3
  go_wp2_with fail
  (with_reducible refine (unqC _ _ (hE.below hB3) (by decide) b0).mono ?_); rintro e w4 ⟨rfl, hb4⟩
  have hB4 := bt hB3 hb4
  go_wp2_with fail
  (with_reducible refine (unqC _ _ (hE.below hB4) (by decide) b1).mono ?_); rintro e w5 ⟨rfl, hb5⟩
  have hB5 := bt hB4 hb5
  go_wp2_with fail
  (with_reducible refine (unqC _ _ (hE.below hB5) (by decide) b2).mono ?_); rintro e w6 ⟨rfl, hb6⟩
  have hB6 := bt hB5 hb6
  go_wp2_with fail
  (with_reducible refine (splC _ 6 _ (hE.below hB6) (hM.below hB6) d0).mono ?_); rintro e w7 ⟨A7, c7, rfl, hb7, _, _, _⟩
  have hB7 := bt hB6 hb7
  go_wp2_with fail
  (with_reducible refine (splC _ 0 _ (hE.below hB7) (hM.below hB7) d1).mono ?_); rintro e w8 ⟨A8, c8, rfl, hb8, _, _, _⟩
  have hB8 := bt hB7 hb8
  go_wp2_with fail
  (with_reducible refine (lisC _ (hP.below hB8)).mono ?_); rintro e w9 ⟨rfl, hb9⟩
  have hB9 := bt hB8 hb9
  go_wp2_with fail
  (with_reducible refine (pl134 _ (hM.below hB9)).mono ?_); rintro e w10 ⟨rfl, hb10⟩
  have hB10 := bt hB9 hb10
  go_wp2_with fail
  (with_reducible refine (pl33 _ (hM.below hB10)).mono ?_); rintro e w11 ⟨rfl, hb11⟩
  have hB11 := bt hB10 hb11
  go_wp2_with fail
  (with_reducible refine (pl21 _ (hM.below hB11)).mono ?_); rintro e w12 ⟨rfl, hb12⟩
  have hB12 := bt hB11 hb12
  go_wp2_with fail
  (with_reducible refine (pl0600 _ (hM.below hB12) (hP.below hB12)).mono ?_); rintro e w13 ⟨rfl, hb13⟩
  have hB13 := bt hB12 hb13
  go_wp2_with fail
  (with_reducible refine (namC _ false _ (by decide) n0).mono ?_); rintro e w14 ⟨rfl, hb14⟩
  have hB14 := bt hB13 hb14
  go_wp2_with fail
  (with_reducible refine (namC _ false _ (by decide) n1).mono ?_); rintro e w15 ⟨rfl, hb15⟩
  have hB15 := bt hB14 hb15
  go_wp2_with fail
  (with_reducible refine (shown_ _ (hE.below hB15) (hM.below hB15) (hR.below hB15) (hP.below hB15)).mono ?_); rintro e w16 ⟨rfl, hb16⟩
  have hB16 := bt hB15 hb16
  go_wp2
  go_ret
  exact ⟨rfl, hB16⟩
end Go.Proofs.YtngbgchnbcfliaaGreatDoor
