/- Reports: the examples that every law asks for first. -/
import Derived.Test.YtaainkjgnljihaaGreatDoorR9
namespace Go.Proofs.YtaainkjgnljihaaGreatDoor
open Go.RowKit
theorem ex1 : encR [(3, 7)] false 0 2 = [0, 1, 0, 0, 0, 0, 0, 0, 3, 0, 7, 0, 0, 0, 0, 0, 0] ∧ encE [(3, 7)] false 0 2 = 0 := by decide
theorem ex2 : mkL [(3, 7), (4, 1), (4, 2)] 2 = [(3, 7), (4, 1)] ∧ mkO [(3, 7), (4, 1), (4, 2)] 2 = true ∧ mkD [(3, 7), (4, 1), (4, 2)] 2 = 1 ∧ mkE [(3, 7), (4, 1), (4, 2)] 2 = 0 := by decide
theorem ex3 : sizeI 32 = 197 ∧ sizeE 32 = 0 := by decide
theorem ex4 : chkR [(4, 1), (4, 1)] false 0 2 = (1, 6) := by decide
theorem itoa0 : Lib.itoa 0 = [48] := by kernel_rfl
theorem itoa1 : Lib.itoa 1 = [49] := by kernel_rfl
theorem itoa3 : Lib.itoa 3 = [51] := by kernel_rfl
theorem itoa7 : Lib.itoa 7 = [55] := by kernel_rfl
theorem ex5 : prR [(3, 7)] false 0 1 = ⟨#[104, 105, 116, 115, 32, 49, 10, 100, 114, 111, 112, 112, 101, 100, 32, 48, 10, 104, 105, 116, 32, 51, 32, 55, 10]⟩ ∧ (chkR [(3, 7)] false 0 1).2 = 0 := by
  have h : (chkR [(3, 7)] false 0 1).2 = 0 := by decide
  refine ⟨?_, h⟩
  unfold prR
  rw [if_pos h]
  simp [prL, headL, headH, hitsL, rowL, numsL, numL, itoa0, itoa1, itoa3, itoa7, wHit, wHits, wDropped]
theorem rdH {w : World} {g : Nat} (l : List Hit) (h : w.heap[g]? = some (.cells (hits l).toArray 34 (0, 0))) : Reads w w.heap.size 2 (some ⟨g, 0, none⟩) l.length (hits l) :=
  reads_blkN h (flat2_length _)
def exB : List UInt8 := [0, 1, 0, 0, 0, 0, 0, 0, 3, 0, 7, 0, 0, 0, 0, 0, 0]
theorem ex1b : u8s [0, 1, 0, 0, 0, 0, 0, 0, 3, 0, 7, 0, 0, 0, 0, 0, 0] = exB.map (fun b => Value.int .u8 (b.toNat : Int)) := by rfl
set_option maxRecDepth 100000 in
set_option maxHeartbeats 2000000 in
theorem shown_ (w : World) (hP : Pow w) : Calls Tryz.prog 4 #[] w fun e w' => e = .returned (.bool true) ∧ Below w.heap.size w w' := by
  have HP := Lib.hid hP
  clear hP
  have Hx1 := Lib.hid ex1
  have Hx2 := Lib.hid ex2
  have Hx3 := Lib.hid ex3
  have Hx4 := Lib.hid ex4
  have Hx5 := Lib.hid ex5
  go_enter Tryz.func4, Tryz.ntmps4
  have hF := ((Fr.start w).newN rfl (.cells #[.int .i64 3, .int .i64 7] 34 (0, 0))).newN (by simp; rfl) (repO (some ⟨w.heap.size, 0, none⟩) 1 1 false 0)
  have he1 := encode_any _ _ 1 [(3, 7)] (rdH [(3, 7)] (hF.at (g := w.heap.size) (by simp; rfl))) (by decide) false 0 2
  simp only [List.length_cons, List.length_nil, Nat.zero_add, Nat.reduceAdd] at he1
  have He1 := Lib.hid he1
  clear he1
  have HF := Lib.hid hF
  clear hF
  go_wp2_with fail
  (with_reducible refine (He1.out).mono ?_); rintro e w1 hret
  rw [Hx1.out.1, Hx1.out.2, ex1b] at hret
  obtain ⟨A1, c1, rfl, hb1, hr1, _, _⟩ := hret
  have hF1 := HF.out.go hb1
  clear He1 HF hb1
  have he2 := (make_any (w1.alloc (.cells #[.int .i64 3, .int .i64 7, .int .i64 4, .int .i64 1, .int .i64 4, .int .i64 2] 34 (0, 0))) _ 3 [(3, 7), (4, 1), (4, 2)] (rdH [(3, 7), (4, 1), (4, 2)] (alloc1_new w1 _)) (by decide) 2)
  simp only [List.length_cons, List.length_nil, Nat.zero_add, Nat.reduceAdd] at he2
  have He2 := Lib.hid he2
  clear he2
  go_wp2_with fail
  (with_reducible refine (He2.out).mono ?_); rintro e w2 hret
  rw [Hx2.out.1, Hx2.out.2.1, Hx2.out.2.2.1, Hx2.out.2.2.2] at hret
  obtain ⟨A2, c2, rfl, hb2, hr2, _, _⟩ := hret
  have hF2 := ((hF1.al _).go hb2).new (repO A2 2 c2 true 1)
  replace hr1 := ((hr1.al _).go hb2).al (repO A2 2 c2 true 1)
  replace hr2 := hr2.al (repO A2 2 c2 true 1)
  clear He2 hb2 hF1
  simp only [List.length_cons, List.length_nil, Nat.zero_add, Nat.reduceAdd] at hr1 hr2
  go_wp2_with fail
  (with_reducible refine (size_ 32 _).mono ?_); rintro e w3 ⟨rfl, rfl⟩
  rw [Hx3.out.1, Hx3.out.2]
  have HF2 := Lib.hid hF2
  have Hr1 := Lib.hid hr1
  have Hr2 := Lib.hid hr2
  have he3 := check_ ((w2.alloc (repO A2 2 c2 true 1)).alloc (.cells #[.int .i64 4, .int .i64 1, .int .i64 4, .int .i64 1] 34 (0, 0))) _ 2 [(4, 1), (4, 1)] (rdH (g := w2.heap.size + 1) [(4, 1), (4, 1)] (by exact alloc2_new _ _ _)) (by decide) false 0 2
  simp only [List.length_cons, List.length_nil, Nat.zero_add, Nat.reduceAdd] at he3
  rw [Hx4.out] at he3
  have He3 := Lib.hid he3
  clear he3 hF2 hr1 hr2
  go_wp2_with fail
  (with_reducible refine (He3.out).mono ?_); rintro e w4 ⟨rfl, hb4⟩
  have hF4 := (HF2.out.al _).go hb4
  have hr1 := (Hr1.out.al _).go hb4
  have hr2 := (Hr2.out.al _).go hb4
  clear HF2 Hr1 Hr2 hb4 He3
  have g0 := hF4.at (List.mem_cons_of_mem _ (List.mem_cons_of_mem _ List.mem_cons_self))
  have g1 := hF4.at (List.mem_cons_of_mem _ List.mem_cons_self)
  have k10 := Lib.cell_of_heap g1 0
  have k11 := Lib.cell_of_heap g1 1
  have k12 := Lib.cell_of_heap g1 2
  have he4 := print_any w4 _ 1 [(3, 7)] (rdH [(3, 7)] g0) (by decide) false 0 1 (HP.out.below hF4.bel)
  simp only [List.length_cons, List.length_nil, Nat.zero_add, Nat.reduceAdd] at he4
  rw [Hx5.out.1, Hx5.out.2] at he4
  have He4 := Lib.hid he4
  have HF4 := Lib.hid hF4
  have Hr1 := Lib.hid hr1
  have Hr2 := Lib.hid hr2
  clear he4 g0 g1 hr1 hr2 hF4
  go_wp2_with fail
  (with_reducible refine (He4.out).mono ?_); rintro e w5 ⟨rfl, hb5⟩
  have hF5 := HF4.out.go hb5
  have hr1 := Hr1.out.go hb5
  have hr2 := Hr2.out.go hb5
  clear HF4 Hr1 Hr2 hb5 He4 k10 k11 k12
  have g2 := hF5.at List.mem_cons_self
  have k20 := Lib.cell_of_heap g2 0
  have k21 := Lib.cell_of_heap g2 1
  have k22 := Lib.cell_of_heap g2 2
  have hcv : (convert 35 9 (.slice A1 17 c1)).run Tryz.prog w5 = .ok (.string ⟨#[0, 1, 0, 0, 0, 0, 0, 0, 3, 0, 7, 0, 0, 0, 0, 0, 0]⟩) w5 := run_conv Tryz.underlying35 Tryz.underlying5 Tryz.underlying9 hr1
  have he5 := equal_ (w5.alloc (.cells #[.int .i64 3, .int .i64 7, .int .i64 4, .int .i64 1] 34 (0, 0))) A2 _ c2 2 [(3, 7), (4, 1)] [(3, 7), (4, 1)] (hr2.al _) (rdH [(3, 7), (4, 1)] (alloc1_new _ _)) (by decide) true true 1 1 true (Lib.hid (by decide))
  simp only [List.length_cons, List.length_nil, Nat.zero_add, Nat.reduceAdd] at he5
  have He5 := Lib.hid he5
  have HB5 := Lib.hid hF5.bel
  clear hr1 hr2 he5 hF5 g2
  go_wp2_with fail
  (with_reducible refine (He5.out).mono ?_); rintro e w6 ⟨rfl, hb6⟩
  have HB6 := Lib.hid (bt (ba HB5.out _) hb6)
  clear hb6 hcv
  go_wp2
  go_ret
  exact ⟨rfl, HB6.out⟩
end Go.Proofs.YtaainkjgnljihaaGreatDoor
