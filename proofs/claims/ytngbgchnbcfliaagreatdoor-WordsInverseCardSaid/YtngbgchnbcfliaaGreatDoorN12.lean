/- words: the calls that every law looks at. No condition. -/
import Derived.Test.YtngbgchnbcfliaaGreatDoorN6
import Derived.Test.YtngbgchnbcfliaaGreatDoorN9
import Derived.Test.YtngbgchnbcfliaaGreatDoorN10
import Derived.Test.YtngbgchnbcfliaaGreatDoorN11
namespace Go.Proofs.YtngbgchnbcfliaaGreatDoor
open Go.RowKit
def shF : List Fd := [([103, 101, 116], false), ([47], false), ([97, 32, 98], true)]
theorem sh_split : splitL [103, 101, 116, 32, 47, 32, 34, 97, 32, 98, 34] = (shF, 0) := by decide +kernel
theorem sh_int : intR [45, 49, 50] (-20) 20 = (-12, 0) := by decide +kernel
theorem sh_unq : uqS [34, 97, 92, 110, 92, 120, 48, 48, 92, 34, 34] = ⟨#[97, 10, 0, 34]⟩ ∧ uqE [34, 97, 92, 110, 92, 120, 48, 48, 92, 34, 34] = 0 := uq_yes (l := [34, 97, 92, 110, 92, 120, 48, 48, 92, 34, 34]) (by decide +kernel)
theorem sh_name : nameL [119, 101, 98, 45, 49] = true := by decide
theorem itoa_one (i : Nat) (h : i < 10) : dgL (i : Int) = [UInt8.ofNat (48 + i)] := by
  unfold dgL; rw [Lib.itoa_nonneg, Lib.decDigits_one h]
theorem sh_list : listL [1, 2, 3, 5, 8, 9] = ([49, 45, 51, 44, 53, 44, 56, 45, 57], 0) := by
  rw [listL_ok (by decide) (by decide) (by decide) (by decide)]
  rw [lsL_cons, show runN 1 [2, 3, 5, 8, 9] = 2 by decide, show List.drop 2 ([2, 3, 5, 8, 9] : List Int) = [5, 8, 9] from rfl]
  rw [lsL_cons, show runN 5 [8, 9] = 0 by decide, show List.drop 0 ([8, 9] : List Int) = [8, 9] from rfl]
  rw [lsL_cons, show runN 8 [9] = 1 by decide, show List.drop 1 ([9] : List Int) = [] from rfl, lsL_nil]
  have d1 := itoa_one 1 (by decide)
  have d3 := itoa_one 3 (by decide)
  have d5 := itoa_one 5 (by decide)
  have d8 := itoa_one 8 (by decide)
  have d9 := itoa_one 9 (by decide)
  simp only [runTx]
  rw [show (1 : Int) = ((1 : Nat) : Int) from rfl, d1, show ((1 : Nat) : Int) + ((2 : Nat) : Int) = ((3 : Nat) : Int) from rfl, d3, show (5 : Int) = ((5 : Nat) : Int) from rfl, d5, show (8 : Int) = ((8 : Nat) : Int) from rfl, d8, show ((8 : Nat) : Int) + ((1 : Nat) : Int) = ((9 : Nat) : Int) from rfl, d9]
  decide
theorem split0 (w : World) (hE : Esc w) (hM : ML w) : Calls Tryz.prog 14 #[.string ⟨#[103, 101, 116, 32, 47, 32, 34, 97, 32, 98, 34]⟩] w (RetSl w 2 (fds shF) 3 0) := by
  have := split_ ⟨#[103, 101, 116, 32, 47, 32, 34, 97, 32, 98, 34]⟩ w hE hM
  rw [show (⟨#[103, 101, 116, 32, 47, 32, 34, 97, 32, 98, 34]⟩ : ByteArray).data.toList = [103, 101, 116, 32, 47, 32, 34, 97, 32, 98, 34] from rfl, sh_split] at this
  exact this
theorem int0 (w : World) (hR : ER w) : Calls Tryz.prog 12 #[.string ⟨#[45, 49, 50]⟩, .int .i64 (-20), .int .i64 20] w fun e w' => e = .returned (.tuple #[.int .i64 (-12), .int .i64 0]) ∧ Below w.heap.size w w' := by
  have := int_ ⟨#[45, 49, 50]⟩ (-20) 20 w (by decide) hR
  rw [show (⟨#[45, 49, 50]⟩ : ByteArray).data.toList = [45, 49, 50] from rfl, sh_int] at this
  exact this
theorem list0 (w : World) (g : Nat) (hg : w.heap[g]? = some (.cells #[.int .i64 1, .int .i64 2, .int .i64 3, .int .i64 5, .int .i64 8, .int .i64 9] 3 (0, 0))) (hP : Pow w) :
    Calls Tryz.prog 7 #[.slice (some ⟨g, 0, none⟩) 6 6] w fun e w' => e = .returned (.tuple #[.string ⟨#[49, 45, 51, 44, 53, 44, 56, 45, 57]⟩, .int .i64 0]) ∧ Below w.heap.size w w' := by
  have := list_ w (some ⟨g, 0, none⟩) 6 [1, 2, 3, 5, 8, 9] (reads_blk (cs := ivs [1, 2, 3, 5, 8, 9]) hg) hP
  rw [sh_list] at this
  exact this
theorem unq0 (w : World) (hE : Esc w) : Calls Tryz.prog 13 #[.string ⟨#[34, 97, 92, 110, 92, 120, 48, 48, 92, 34, 34]⟩] w fun e w' => e = .returned (.tuple #[.string ⟨#[97, 10, 0, 34]⟩, .int .i64 0]) ∧ Below w.heap.size w w' := by
  have := unquoteW ⟨#[34, 97, 92, 110, 92, 120, 48, 48, 92, 34, 34]⟩ w hE (by decide)
  rw [show (⟨#[34, 97, 92, 110, 92, 120, 48, 48, 92, 34, 34]⟩ : ByteArray).data.toList = [34, 97, 92, 110, 92, 120, 48, 48, 92, 34, 34] from rfl, sh_unq.1, sh_unq.2] at this
  exact this
theorem name0 (w : World) : Calls Tryz.prog 15 #[.string ⟨#[119, 101, 98, 45, 49]⟩] w fun e w' => e = .returned (.bool true) ∧ Below w.heap.size w w' := by
  have := name_ ⟨#[119, 101, 98, 45, 49]⟩ w (by decide)
  rw [show (⟨#[119, 101, 98, 45, 49]⟩ : ByteArray).data.toList = [119, 101, 98, 45, 49] from rfl, sh_name] at this
  exact this
theorem same0 (w : World) (A : Option Addr) (c g : Nat) (h : Reads w w.heap.size 2 A 3 (fds shF)) (hg : w.heap[g]? = some (.cells #[.string ⟨#[103, 101, 116]⟩, .bool false, .string ⟨#[47]⟩, .bool false, .string ⟨#[97, 32, 98]⟩, .bool true] 47 (0, 0))) :
    Calls Tryz.prog 18 #[.slice A 3 c, .slice (some ⟨g, 0, none⟩) 3 3] w fun e w' => e = .returned (.bool true) ∧ Below w.heap.size w w' := by
  have := same_any w _ _ A (some ⟨g, 0, none⟩) c 3 shF shF h (reads_blkN (size := 2) (n := 3) (cs := fds shF) hg rfl) (by decide)
  rw [show decide (shF = shF) = true by simp] at this
  exact this
set_option maxRecDepth 100000 in
set_option maxHeartbeats 2000000 in
theorem shown_ (w : World) (hE : Esc w) (hM : ML w) (hR : ER w) (hP : Pow w) :
    Calls Tryz.prog 6 #[] w fun e w' => e = .returned (.bool true) ∧ Below w.heap.size w w' := by
  go_enter Tryz.func6, Tryz.ntmps6
  go_wp2_with fail
  (with_reducible refine (split0 _ hE hM).mono ?_); rintro e w1 ⟨A1, c1, rfl, hb1, hr1, _, _⟩
  go_wp2_with fail
  (with_reducible refine (int0 _ (hR.below hb1)).mono ?_); rintro e w2 ⟨rfl, hb2⟩
  have hB2 := bt hb1 hb2
  have hr2 := hr1.go hb2
  clear hr1
  go_wp2_with fail
  (with_reducible refine (list0 _ _ (alloc1_new _ _) (hP.below (ba hB2 _))).mono ?_); rintro e w3 ⟨rfl, hb3⟩
  have hB3 := bt (ba hB2 _) hb3
  have hr3 := (hr2.al _).go hb3
  clear hr2
  go_wp2_with fail
  (with_reducible refine (unq0 _ (hE.below hB3)).mono ?_); rintro e w4 ⟨rfl, hb4⟩
  have hB4 := bt hB3 hb4
  have hr4 := hr3.go hb4
  clear hr3
  go_wp2_with fail
  (with_reducible refine (same0 _ A1 c1 _ (hr4.al _) (alloc1_new _ _)).mono ?_); rintro e w5 ⟨rfl, hb5⟩
  have hB5 := bt (ba hB4 _) hb5
  go_wp2_with fail
  (with_reducible refine (name0 _).mono ?_); rintro e w6 ⟨rfl, hb6⟩
  go_wp2
  go_ret
  exact ⟨rfl, bt hB5 hb6⟩
end Go.Proofs.YtngbgchnbcfliaaGreatDoor
