/- ReportKnown: the examples of the document. -/
import Derived.Test.YtokcbdaoofjbgaaDoorR20
import Derived.Test.YtokcbdaoofjbgaaDoorR10
import Derived.Lib.SlBytesConst
namespace Go.Proofs.YtokcbdaoofjbgaaDoor
open Go.RowKit
def exD1 : List Int := [0, 3, 0, 0, 0, 0, 0, 0, 0, 0, 0, 0, 0, 0, 0, 0, 0]
def exD2 : List Int := [0, 1, 2, 0, 0, 0, 0, 0, 3, 0, 7, 0, 0, 0, 0, 0, 0]
theorem exD1_dec : decR exD1 2 = noDec 0 6 := by kernel_rfl
theorem exD2_dec : decR exD2 2 = noDec 2 6 := by kernel_rfl
theorem exD_bytes1 : Bytes exD1 := by unfold exD1; intro x hx; simp at hx; omega
theorem exD_bytes2 : Bytes exD2 := by unfold exD2; intro x hx; simp at hx; omega
theorem exK1 : sizeI 1 = 11 ∧ sizeE 1 = 0 := by decide
theorem exK33 : sizeI 33 = 0 ∧ sizeE 33 = 7 := by decide
theorem exK3 : chkR [(0, 1)] false 0 1 = (0, 7) := by decide
theorem reads_blkF {w : World} {g size n : Nat} {t : TypeId} {cs : List Value} {fr : Nat × Nat} (h : w.heap[g]? = some (.cells cs.toArray t fr)) (hl : cs.length = n * size) : Reads w w.heap.size size (some ⟨g, 0, none⟩) n cs :=
  ⟨hl, fun _ => ⟨g, 0, rfl, heap_lt h, fun j u hu => by
    have : w.cell? ⟨g, 0 + j, none⟩ = cs.toArray[0 + j]? := by simp [World.cell?, h]
    rw [this]; simpa using hu⟩⟩
set_option maxRecDepth 100000 in
set_option maxHeartbeats 2000000 in
theorem reportKnown_walk (w : World) (hP : Pow w) :
    Calls Tryd.prog 8 #[] w fun e w' => e = .returned (.bool true) ∧ Below w.heap.size w w' := by
  have HP := Lib.hid hP
  have hs1 := size_ 1
  rw [exK1.1, exK1.2] at hs1
  have Hs1 := Lib.hid hs1
  have hs2 := size_ 33
  rw [exK33.1, exK33.2] at hs2
  have Hs2 := Lib.hid hs2
  clear hP hs1 hs2
  have hd1 : ∀ w1 g, w1.heap[g]? = some (.cells (u8s exD1).toArray 5 (17, 18)) → Calls Tryd.prog 22 #[.slice (some ⟨g, 0, none⟩) 17 17, .int .i64 2] w1 (RetDec w1 (noDec 0 6)) := fun w1 g hg => by
    have := decode_any w1 (some ⟨g, 0, none⟩) 17 exD1 (reads_blkF hg (by rfl)) exD_bytes1 ⟨by decide, by omega⟩ 2
    rwa [exD1_dec] at this
  have hd2 : ∀ w1 g, w1.heap[g]? = some (.cells (u8s exD2).toArray 5 (17, 18)) → Calls Tryd.prog 22 #[.slice (some ⟨g, 0, none⟩) 17 17, .int .i64 2] w1 (RetDec w1 (noDec 2 6)) := fun w1 g hg => by
    have := decode_any w1 (some ⟨g, 0, none⟩) 17 exD2 (reads_blkF hg (by rfl)) exD_bytes2 ⟨by decide, by omega⟩ 2
    rwa [exD2_dec] at this
  have hc3 : ∀ w1 g, w1.heap[g]? = some (.cells #[.int .i64 0, .int .i64 1] 48 (0, 0)) → Calls Tryd.prog 12 #[repV (some ⟨g, 0, none⟩) 1 1 false 0, .int .i64 1] w1 fun e w' => e = .returned (.tuple #[.int .i64 0, .int .i64 7]) ∧ Below w1.heap.size w1 w' := fun w1 g hg => by
    have := check_ w1 (some ⟨g, 0, none⟩) 1 [(0, 1)] (rdH [(0, 1)] hg) (by decide) false 0 1
    rwa [exK3] at this
  have Hd1 := Lib.hid hd1
  have Hd2 := Lib.hid hd2
  have Hc3 := Lib.hid hc3
  clear hd1 hd2 hc3
  have kc := fun (w : World) (C : Array Value) (n c : Nat) => Lib.run_convert_bytes_const (P := Tryd.prog) w 41 5 C n c Tryd.underlying41 Tryd.underlying5
  have kc2 : ∀ (W : World) (o : Obj) (C : Array Value) (n c : Nat), (convert 41 41 (.slice (some ⟨W.heap.size + 1, 0, none⟩) n c)).run Tryd.prog ((W.alloc o).alloc (.cells C 5)) = .ok (.slice (some ⟨W.heap.size + 1, 0, none⟩) n c) ((W.alloc o).alloc (.cells C 5 (C.size, C.size + 1))) := fun W o C n c => by
    have := kc (W.alloc o) C n c
    simpa using this
  go_enter Tryd.func8, Tryd.ntmps8
  go_wp2_with fail
  (with_reducible refine (Hs1.out _).mono ?_); rintro e w1 ⟨rfl, rfl⟩
  go_wp2_with fail
  (with_reducible refine (Hs2.out _).mono ?_); rintro e w1 ⟨rfl, rfl⟩
  go_wp2_with fail
  refine (Hd1.out _ w.heap.size (by exact alloc1_new w _)).mono ?_; rintro e w3 ⟨A3, c3, rfl, hb3, hr3, hl3, hm3⟩
  have HB3 := Lib.hid (ba (bt (ba (Below.refl w.heap.size w) _) hb3) (repO A3 0 c3 false 0))
  clear hb3 hr3 hl3 hm3
  go_wp2_with fail
  refine (Hd2.out _ (w3.heap.size + 1) (by exact alloc2_new w3 _ _)).mono ?_; rintro e w4 ⟨A4, c4, rfl, hb4, hr4, hl4, hm4⟩
  have HB4 := Lib.hid (ba (bt (ba HB3.out _) hb4) (repO A4 0 c4 false 0))
  clear hb4 hr4 hl4 hm4 HB3
  go_wp2_with fail
  refine (Hc3.out _ (w4.heap.size + 1) (by exact alloc2_new w4 _ _)).mono ?_; rintro e w5 ⟨rfl, hb5⟩
  have HB5 := Lib.hid (bt (ba HB4.out _) hb5)
  clear hb5 HB4
  go_wp2_with fail
  (with_reducible refine (shown_ _ (by exact HP.out.below HB5.out)).mono ?_); rintro e w6 ⟨rfl, hb6⟩
  have hB := bt HB5.out hb6
  go_wp2
  go_ret
  exact ⟨rfl, hB⟩
end Go.Proofs.YtokcbdaoofjbgaaDoor
