/- words: ParseList of the program at the document's examples. No condition. -/
import Derived.Test.YtngbgchnbcfliaaGreatDoorP2
import Derived.Test.YtngbgchnbcfliaaGreatDoorN12
import Derived.Deep.DeepCutAuto
namespace Go.Proofs.YtngbgchnbcfliaaGreatDoor
open Go.RowKit
theorem splitC (s : ByteArray) (L : List ByteArray) (w : World) (hM : ML w) (hs : s.size ≤ 1000) (h1 : Hid (Lib.splitB ⟨#[44]⟩ 0 (Lib.countB s ⟨#[44]⟩) s = L)) (h2 : Hid (Lib.countB s ⟨#[44]⟩ + 1 = L.length)) :
    Calls Tryz.prog 27 #[.string s, .string ⟨#[44]⟩] w fun e w' => e = .returned (.slice (some ⟨w.heap.size, 0, none⟩) L.length L.length) ∧ w' = w.alloc (.cells (L.map Value.string).toArray 9 (0, 0)) := by
  obtain ⟨m, hm⟩ := hM
  have := Tryz.strings_Split s ⟨#[44]⟩ m w (by omega) hm (by decide)
  rw [h1.out, h2.out] at this
  exact this
theorem cutC (s a b : ByteArray) (is : Bool) (w : World) (hM : ML w) (hs : s.size ≤ 1000) (h : Hid (Lib.cut s.data.toList [45] = (a.data.toList, b.data.toList, is))) :
    Calls Tryz.prog 28 #[.string s, .string ⟨#[45]⟩] w fun e w' => e = .returned (.tuple #[.string a, .string b, .bool is]) ∧ Below w.heap.size w w' := by
  obtain ⟨m, hm⟩ := hM
  refine (Tryz.strings_Cut s ⟨#[45]⟩ m w (by omega) hm).mono ?_
  rintro e w' ⟨rfl, n, rfl⟩
  refine ⟨?_, drewN_below _ _⟩
  rw [show (⟨#[45]⟩ : ByteArray).data.toList = [45] from rfl, h.out]
theorem decC (s : ByteArray) (b : Bool) (w : World) (hs : s.size ≤ 1000) (h : Hid (decL s.data.toList = b)) :
    Calls Tryz.prog 29 #[.string s] w fun e w' => e = .returned (.bool b) ∧ Below w.heap.size w w' := by
  rw [← h.out]; exact isDecimal_ s w (by omega)
theorem cmpC (a b : ByteArray) (r : Int) (w : World) (ha : a.size ≤ 1000) (hb : b.size ≤ 1000) (h : Hid (cmpI a.data.toList b.data.toList = r)) :
    Calls Tryz.prog 30 #[.string a, .string b] w fun e w' => e = .returned (.int .i64 r) ∧ w' = w := by
  rw [← h.out]; exact compare_ a b w (by omega) (by omega)
theorem folC (a b : ByteArray) (r : Bool) (w : World) (ha : a.size ≤ 1000) (hb : b.size ≤ 1000) (hd : Hid (a.data.toList.all digB = true)) (h : Hid (decide (cmpI (nextL a.data.toList) b.data.toList < 0) = r)) :
    Calls Tryz.prog 31 #[.string a, .string b] w fun e w' => e = .returned (.bool r) ∧ Below w.heap.size w w' := by
  rw [← h.out]; exact follows_ a b w (by omega) (by omega) hd.out
theorem prEl : Elem Tryz.prog 60 67 (.agg #[.string ⟨#[]⟩, .string ⟨#[]⟩]) 2 32 := ⟨Tryz.underlying60, by kernel_rfl, rfl, by decide⟩
set_option maxRecDepth 100000 in
set_option maxHeartbeats 1000000 in
theorem pl33 (w : World) (hM : ML w) :
    Calls Tryz.prog 9 #[.string ⟨#[51, 45, 51]⟩] w fun e w' => e = .returned (.tuple #[.slice none 0 0, .int .i64 6]) ∧ Below w.heap.size w w' := by
  have q0 := Lib.hid (show Lib.splitB ⟨#[44]⟩ 0 (Lib.countB ⟨#[51, 45, 51]⟩ ⟨#[44]⟩) ⟨#[51, 45, 51]⟩ = [⟨#[51, 45, 51]⟩] by decide +kernel)
  have q1 := Lib.hid (show Lib.countB ⟨#[51, 45, 51]⟩ ⟨#[44]⟩ + 1 = ([⟨#[51, 45, 51]⟩] : List ByteArray).length by decide +kernel)
  have q2 := Lib.hid (show Lib.cut (⟨#[51, 45, 51]⟩ : ByteArray).data.toList [45] = ((⟨#[51]⟩ : ByteArray).data.toList, (⟨#[51]⟩ : ByteArray).data.toList, true) by decide +kernel)
  have q3 := Lib.hid (show decL (⟨#[51]⟩ : ByteArray).data.toList = true by decide +kernel)
  have q4 := Lib.hid (show cmpI (⟨#[51]⟩ : ByteArray).data.toList (⟨#[51]⟩ : ByteArray).data.toList = 0 by decide +kernel)
  go_enter Tryz.func9, Tryz.ntmps9
  go_wp2_with fail
  (with_reducible refine (splitC _ _ _ hM (by decide) q0 q1).mono ?_); rintro e w1 ⟨rfl, hw1⟩
  have c0 : w1.cell? ⟨w.heap.size, 0, none⟩ = some (.string ⟨#[51, 45, 51]⟩) := by rw [hw1]; exact Lib.cell_of_heap (alloc1_new _ _) 0
  have hb1 := Lib.hid (show Below w.heap.size w w1 by rw [hw1]; exact ba (Below.refl _ _) _)
  have hlt1 : w.heap.size < w1.heap.size := by rw [hw1]; simp
  clear hw1
  go_wp2
  go_loopw [4, 5, 24] (fun l v i wr => l = .string ⟨#[]⟩ ∧ v = .slice none 0 0 ∧ i = .int .i64 0 ∧ w1 = wr) (fun _ _ _ _ => 0)
  case atStart => exact ⟨rfl, rfl, rfl, rfl⟩
  case round =>
    obtain ⟨rfl, rfl, rfl, rfl⟩ := hrel
    go_wp2_with fail
    (with_reducible refine (cutC _ ⟨#[51]⟩ ⟨#[51]⟩ true _ (hM.below hb1.out) (by decide) q2).mono ?_); rintro e w2 ⟨rfl, hb2⟩
    have hB2 := bt hb1.out hb2
    go_wp2_with fail
    (with_reducible refine (decC _ true _ (by decide) q3).mono ?_); rintro e w3 ⟨rfl, hb3⟩
    have hB3 := bt hB2 hb3
    go_wp2_with fail
    (with_reducible refine (decC _ true _ (by decide) q3).mono ?_); rintro e w4 ⟨rfl, hb4⟩
    have hB4 := bt hB3 hb4
    go_wp2_with fail
    (with_reducible refine (cmpC _ _ (0) _ (by decide) (by decide) q4).mono ?_); rintro e w4 ⟨rfl, hw⟩; subst hw
    go_wp2
    go_ret2
    exact ⟨rfl, hB4⟩
set_option maxRecDepth 100000 in
set_option maxHeartbeats 1000000 in
theorem pl134 (w : World) (hM : ML w) :
    Calls Tryz.prog 9 #[.string ⟨#[49, 45, 51, 44, 52]⟩] w fun e w' => e = .returned (.tuple #[.slice none 0 0, .int .i64 6]) ∧ Below w.heap.size w w' := by
  have q0 := Lib.hid (show Lib.splitB ⟨#[44]⟩ 0 (Lib.countB ⟨#[49, 45, 51, 44, 52]⟩ ⟨#[44]⟩) ⟨#[49, 45, 51, 44, 52]⟩ = [⟨#[49, 45, 51]⟩, ⟨#[52]⟩] by decide +kernel)
  have q1 := Lib.hid (show Lib.countB ⟨#[49, 45, 51, 44, 52]⟩ ⟨#[44]⟩ + 1 = ([⟨#[49, 45, 51]⟩, ⟨#[52]⟩] : List ByteArray).length by decide +kernel)
  have q2 := Lib.hid (show Lib.cut (⟨#[49, 45, 51]⟩ : ByteArray).data.toList [45] = ((⟨#[49]⟩ : ByteArray).data.toList, (⟨#[51]⟩ : ByteArray).data.toList, true) by decide +kernel)
  have q3 := Lib.hid (show decL (⟨#[49]⟩ : ByteArray).data.toList = true by decide +kernel)
  have q4 := Lib.hid (show decL (⟨#[51]⟩ : ByteArray).data.toList = true by decide +kernel)
  have q5 := Lib.hid (show Lib.cut (⟨#[52]⟩ : ByteArray).data.toList [45] = ((⟨#[52]⟩ : ByteArray).data.toList, (⟨#[]⟩ : ByteArray).data.toList, false) by decide +kernel)
  have q6 := Lib.hid (show decL (⟨#[52]⟩ : ByteArray).data.toList = true by decide +kernel)
  have q7 := Lib.hid (show cmpI (⟨#[49]⟩ : ByteArray).data.toList (⟨#[51]⟩ : ByteArray).data.toList = -1 by decide +kernel)
  have q8 := Lib.hid (show (⟨#[51]⟩ : ByteArray).data.toList.all digB = true by decide +kernel)
  have q9 := Lib.hid (show decide (cmpI (nextL (⟨#[51]⟩ : ByteArray).data.toList) (⟨#[52]⟩ : ByteArray).data.toList < 0) = false by decide +kernel)
  go_enter Tryz.func9, Tryz.ntmps9
  go_wp2_with fail
  (with_reducible refine (splitC _ _ _ hM (by decide) q0 q1).mono ?_); rintro e w1 ⟨rfl, hw1⟩
  have c0 : w1.cell? ⟨w.heap.size, 0, none⟩ = some (.string ⟨#[49, 45, 51]⟩) := by rw [hw1]; exact Lib.cell_of_heap (alloc1_new _ _) 0
  have c1 : w1.cell? ⟨w.heap.size, 1, none⟩ = some (.string ⟨#[52]⟩) := by rw [hw1]; exact Lib.cell_of_heap (alloc1_new _ _) 1
  have hb1 := Lib.hid (show Below w.heap.size w w1 by rw [hw1]; exact ba (Below.refl _ _) _)
  have hlt1 : w.heap.size < w1.heap.size := by rw [hw1]; simp
  clear hw1
  go_wp2
  go_loopw [4, 5, 24] (fun l v i wr => (l = .string ⟨#[]⟩ ∧ v = .slice none 0 0 ∧ i = .int .i64 0 ∧ w1 = wr) ∨ (l = .string ⟨#[51]⟩ ∧ i = .int .i64 1 ∧ Below w1.heap.size w1 wr)) (fun _ _ i _ => 2 - (intOf i).toNat)
  case atStart => exact .inl ⟨rfl, rfl, rfl, rfl⟩
  case round =>
   rcases hrel with ⟨rfl, rfl, rfl, rfl⟩ | ⟨rfl, rfl, hbr⟩
   · have hbw := hb1.out
     have hs1 : Below w1.heap.size w1 w1 := Below.refl _ _
     go_wp2_with fail
     (with_reducible refine (cutC _ ⟨#[49]⟩ ⟨#[51]⟩ true _ (hM.below hbw) (by decide) q2).mono ?_); rintro e w2 ⟨rfl, hb2⟩
     have hB2 := bt hbw hb2
     go_wp2_with fail
     (with_reducible refine (decC _ true _ (by decide) q3).mono ?_); rintro e w3 ⟨rfl, hb3⟩
     have hB3 := bt hB2 hb3
     go_wp2_with fail
     (with_reducible refine (decC _ true _ (by decide) q4).mono ?_); rintro e w4 ⟨rfl, hb4⟩
     have hB4 := bt hB3 hb4
     go_wp2_with fail
     (with_reducible refine (cmpC _ _ (-1) _ (by decide) (by decide) q7).mono ?_); rintro e w4 ⟨rfl, hw⟩; subst hw
     go_wp2_with (at_builtin; refine wpList_ap prEl (w0 := w) ((World.ownsRow_nil _ _ _ _ : w4.ownsRow w.heap.size 67 2 (.slice none 0 0) 0 []).alloc _) (ba hB4 _) [.string ⟨#[49]⟩, .string ⟨#[51]⟩] (alloc1_new _ _) ?_)
     intro g0 cap0 w5 ho0 hb5 hg0
     have hkeep : Below w1.heap.size w1 w5 := ((bt (bt hb2 hb3) hb4).alloc (bt (bt hb2 hb3) hb4).size _).grown hg0 (by have := (bt (bt hb2 hb3) hb4).size; simp; omega) (fun k hk => by cases hk)
     go_wp2
     go_roundw
     case rel => exact .inr ⟨rfl, rfl, hkeep⟩
     case measure => simp [intOf]
   · have hbw := bt hb1.out hbr
     have c1 := (hbr.cell (p := ⟨w.heap.size, 1, none⟩) hlt1).trans c1
     clear c0
     go_wp2_with fail
     (with_reducible refine (cutC _ ⟨#[52]⟩ ⟨#[]⟩ false _ (hM.below hbw) (by decide) q5).mono ?_); rintro e w12 ⟨rfl, hb12⟩
     have hB12 := bt hbw hb12
     go_wp2_with fail
     (with_reducible refine (decC _ true _ (by decide) q6).mono ?_); rintro e w13 ⟨rfl, hb13⟩
     have hB13 := bt hB12 hb13
     go_wp2_with fail
     (with_reducible refine (decC _ true _ (by decide) q6).mono ?_); rintro e w14 ⟨rfl, hb14⟩
     have hB14 := bt hB13 hb14
     go_wp2_with fail
     (with_reducible refine (folC _ _ false _ (by decide) (by decide) q8 q9).mono ?_); rintro e w15 ⟨rfl, hb15⟩
     have hB15 := bt hB14 hb15
     go_wp2
     go_ret2
     exact ⟨rfl, hB15⟩
set_option maxRecDepth 100000 in
set_option maxHeartbeats 1000000 in
theorem pl21 (w : World) (hM : ML w) :
    Calls Tryz.prog 9 #[.string ⟨#[50, 44, 49]⟩] w fun e w' => e = .returned (.tuple #[.slice none 0 0, .int .i64 6]) ∧ Below w.heap.size w w' := by
  have q0 := Lib.hid (show Lib.splitB ⟨#[44]⟩ 0 (Lib.countB ⟨#[50, 44, 49]⟩ ⟨#[44]⟩) ⟨#[50, 44, 49]⟩ = [⟨#[50]⟩, ⟨#[49]⟩] by decide +kernel)
  have q1 := Lib.hid (show Lib.countB ⟨#[50, 44, 49]⟩ ⟨#[44]⟩ + 1 = ([⟨#[50]⟩, ⟨#[49]⟩] : List ByteArray).length by decide +kernel)
  have q2 := Lib.hid (show Lib.cut (⟨#[50]⟩ : ByteArray).data.toList [45] = ((⟨#[50]⟩ : ByteArray).data.toList, (⟨#[]⟩ : ByteArray).data.toList, false) by decide +kernel)
  have q3 := Lib.hid (show decL (⟨#[50]⟩ : ByteArray).data.toList = true by decide +kernel)
  have q4 := Lib.hid (show Lib.cut (⟨#[49]⟩ : ByteArray).data.toList [45] = ((⟨#[49]⟩ : ByteArray).data.toList, (⟨#[]⟩ : ByteArray).data.toList, false) by decide +kernel)
  have q5 := Lib.hid (show decL (⟨#[49]⟩ : ByteArray).data.toList = true by decide +kernel)
  have q6 := Lib.hid (show (⟨#[50]⟩ : ByteArray).data.toList.all digB = true by decide +kernel)
  have q7 := Lib.hid (show decide (cmpI (nextL (⟨#[50]⟩ : ByteArray).data.toList) (⟨#[49]⟩ : ByteArray).data.toList < 0) = false by decide +kernel)
  go_enter Tryz.func9, Tryz.ntmps9
  go_wp2_with fail
  (with_reducible refine (splitC _ _ _ hM (by decide) q0 q1).mono ?_); rintro e w1 ⟨rfl, hw1⟩
  have c0 : w1.cell? ⟨w.heap.size, 0, none⟩ = some (.string ⟨#[50]⟩) := by rw [hw1]; exact Lib.cell_of_heap (alloc1_new _ _) 0
  have c1 : w1.cell? ⟨w.heap.size, 1, none⟩ = some (.string ⟨#[49]⟩) := by rw [hw1]; exact Lib.cell_of_heap (alloc1_new _ _) 1
  have hb1 := Lib.hid (show Below w.heap.size w w1 by rw [hw1]; exact ba (Below.refl _ _) _)
  have hlt1 : w.heap.size < w1.heap.size := by rw [hw1]; simp
  clear hw1
  go_wp2
  go_loopw [4, 5, 24] (fun l v i wr => (l = .string ⟨#[]⟩ ∧ v = .slice none 0 0 ∧ i = .int .i64 0 ∧ w1 = wr) ∨ (l = .string ⟨#[50]⟩ ∧ i = .int .i64 1 ∧ Below w1.heap.size w1 wr)) (fun _ _ i _ => 2 - (intOf i).toNat)
  case atStart => exact .inl ⟨rfl, rfl, rfl, rfl⟩
  case round =>
   rcases hrel with ⟨rfl, rfl, rfl, rfl⟩ | ⟨rfl, rfl, hbr⟩
   · have hbw := hb1.out
     have hs1 : Below w1.heap.size w1 w1 := Below.refl _ _
     go_wp2_with fail
     (with_reducible refine (cutC _ ⟨#[50]⟩ ⟨#[]⟩ false _ (hM.below hbw) (by decide) q2).mono ?_); rintro e w2 ⟨rfl, hb2⟩
     have hB2 := bt hbw hb2
     go_wp2_with fail
     (with_reducible refine (decC _ true _ (by decide) q3).mono ?_); rintro e w3 ⟨rfl, hb3⟩
     have hB3 := bt hB2 hb3
     go_wp2_with fail
     (with_reducible refine (decC _ true _ (by decide) q3).mono ?_); rintro e w4 ⟨rfl, hb4⟩
     have hB4 := bt hB3 hb4
     go_wp2_with (at_builtin; refine wpList_ap prEl (w0 := w) ((World.ownsRow_nil _ _ _ _ : w4.ownsRow w.heap.size 67 2 (.slice none 0 0) 0 []).alloc _) (ba hB4 _) [.string ⟨#[50]⟩, .string ⟨#[50]⟩] (alloc1_new _ _) ?_)
     intro g0 cap0 w5 ho0 hb5 hg0
     have hkeep : Below w1.heap.size w1 w5 := ((bt (bt hb2 hb3) hb4).alloc (bt (bt hb2 hb3) hb4).size _).grown hg0 (by have := (bt (bt hb2 hb3) hb4).size; simp; omega) (fun k hk => by cases hk)
     go_wp2
     go_roundw
     case rel => exact .inr ⟨rfl, rfl, hkeep⟩
     case measure => simp [intOf]
   · have hbw := bt hb1.out hbr
     have c1 := (hbr.cell (p := ⟨w.heap.size, 1, none⟩) hlt1).trans c1
     clear c0
     go_wp2_with fail
     (with_reducible refine (cutC _ ⟨#[49]⟩ ⟨#[]⟩ false _ (hM.below hbw) (by decide) q4).mono ?_); rintro e w12 ⟨rfl, hb12⟩
     have hB12 := bt hbw hb12
     go_wp2_with fail
     (with_reducible refine (decC _ true _ (by decide) q5).mono ?_); rintro e w13 ⟨rfl, hb13⟩
     have hB13 := bt hB12 hb13
     go_wp2_with fail
     (with_reducible refine (decC _ true _ (by decide) q5).mono ?_); rintro e w14 ⟨rfl, hb14⟩
     have hB14 := bt hB13 hb14
     go_wp2_with fail
     (with_reducible refine (folC _ _ false _ (by decide) (by decide) q6 q7).mono ?_); rintro e w15 ⟨rfl, hb15⟩
     have hB15 := bt hB14 hb15
     go_wp2
     go_ret2
     exact ⟨rfl, hB15⟩
end Go.Proofs.YtngbgchnbcfliaaGreatDoor
