/- TraceKnown: the examples of the document. -/
import Derived.Test.YtpgojecldmcopaaGreatDoorT28
namespace Go.Proofs.YtpgojecldmcopaaGreatDoor
open Go.RowKit
theorem kn_chk8 : chkT exL 8 = (0, 0) := by decide +kernel
theorem kn_chk7 : chkT exL 7 = (4, 7) := by decide +kernel
theorem kn_p1 : psT ⟨#[108, 111, 97, 100, 32, 53, 32, 49, 10, 108, 111, 97, 100, 32, 54, 32, 49, 10]⟩ = ([], 2, 6) := by decide +kernel
theorem kn_p2 : psT ⟨#[108, 111, 97, 100, 32, 54, 53, 53, 51, 53, 32, 50, 10]⟩ = ([], 1, 7) := by decide +kernel
theorem kn_p3 : psT ⟨#[108, 111, 97, 100, 32, 49, 32, 48, 10]⟩ = ([], 1, 7) := by decide +kernel
theorem kn_p4 : psT ⟨#[115, 116, 111, 114, 101, 32, 48, 49, 32, 49, 10]⟩ = ([], 1, 6) := by decide +kernel
def kn0 (k : Nat) : Int := ([1, 0, 0, 0, 0].take k : List Int).foldl dgR 14695981039346656037
theorem kn_dg : dg [(1, 0)] = kn0 5 := by decide +kernel
theorem check_at (w : World) (g : Nat) (cells : Int) (p e : Int) (hx : chkT exL cells = (p, e)) (h : w.heap[g]? = some exO) : Calls Tryz.prog 13 #[.slice (some ⟨g, 0, none⟩) 5 5, .int .i64 cells] w fun e' w' => e' = .returned (.tuple #[.int .i64 p, .int .i64 e]) ∧ Below w.heap.size w w' := by
  have := check_ w (some ⟨g, 0, none⟩) 5 exL (ex_reads h) exL_ok (by decide) cells
  rw [hx] at this
  exact this
theorem differ_at (w : World) (g q : Nat) (h : w.heap[g]? = some exO) (h' : w.heap[q]? = some exO) : Calls Tryz.prog 16 #[.slice (some ⟨g, 0, none⟩) 5 5, .slice (some ⟨q, 0, none⟩) 5 5] w fun e w' => e = .returned (.int .i64 (-1)) ∧ Below w.heap.size w w' := by
  have := differ_ w _ _ (some ⟨g, 0, none⟩) (some ⟨q, 0, none⟩) 5 5 exL exL (ex_reads h) (ex_reads h') (by decide) (by decide)
  rw [show dif exL exL = -1 by decide +kernel] at this
  exact this
theorem digest_at (w : World) (g : Nat) (v : Int) (hv : Hid (kn0 5 = v)) (h : w.heap[g]? = some (.cells #[.int .i32 1, .int .i32 0] 39 (0, 0))) : Calls Tryz.prog 15 #[.slice (some ⟨g, 0, none⟩) 1 1] w fun e w' => e = .returned (.int .u64 v) ∧ Below w.heap.size w w' := by
  have := digest_ w (some ⟨g, 0, none⟩) 1 [(1, 0)] (reads_blkN (cs := evs [(1, 0)]) h rfl) (by decide)
  rw [kn_dg, hv.out] at this
  exact this
abbrev byO : Obj := .cells #[.int .u64 1, .int .u64 0, .int .u64 0, .int .u64 0, .int .u64 0] 36 (0, 0)
set_option maxRecDepth 100000 in
set_option maxHeartbeats 4000000 in
theorem traceKnown_walk (w : World) (hP : Pow w) (hR : ER w) (hM : ML w) :
    Calls Tryz.prog 5 #[] w fun e w' => e = .returned (.bool true) ∧ Below w.heap.size w w' := by
  have HP := Lib.hid hP
  have HM := Lib.hid hM
  have HRr := Lib.hid hR
  have HF0 := Lib.hid (Fr.start w)
  clear hP hM hR
  go_enter Tryz.func5, Tryz.ntmps5
  go_wp2_with fail
  (with_reducible refine (example_ _).mono ?_); rintro e w1 ⟨rfl, rfl⟩
  have hc := check_at (w.alloc exO) w.heap.size 8 0 0 kn_chk8 (alloc1_new _ _)
  go_wp2_with fail
  (with_reducible refine hc.mono ?_); rintro e w2 ⟨rfl, hb2⟩
  have HF2 := Lib.hid ((HF0.out.al exO).go hb2)
  clear hc hb2 HF0
  go_wp2_with fail
  (with_reducible refine (example_ _).mono ?_); rintro e w3 ⟨rfl, rfl⟩
  have hc := check_at (w2.alloc exO) w2.heap.size 7 4 7 kn_chk7 (alloc1_new _ _)
  go_wp2_with fail
  (with_reducible refine hc.mono ?_); rintro e w4 ⟨rfl, hb4⟩
  have HF4 := Lib.hid ((HF2.out.al exO).go hb4)
  clear hc hb4 HF2
  go_wp2_with fail
  (with_reducible refine (parseQ _ _ [] 2 6 (Lib.hid kn_p1) (HM.out.below HF4.out.bel) (HRr.out.below HF4.out.bel) (by decide)).mono ?_); rintro e w5 ⟨A5, c5, rfl, hb5, _, _, _⟩
  have HF5 := Lib.hid (HF4.out.go hb5)
  clear hb5 HF4
  go_wp2_with fail
  (with_reducible refine (parseQ _ _ [] 1 7 (Lib.hid kn_p2) (HM.out.below HF5.out.bel) (HRr.out.below HF5.out.bel) (by decide)).mono ?_); rintro e w6 ⟨A6, c6, rfl, hb6, _, _, _⟩
  have HF6 := Lib.hid (HF5.out.go hb6)
  clear hb6 HF5
  go_wp2_with fail
  (with_reducible refine (parseQ _ _ [] 1 7 (Lib.hid kn_p3) (HM.out.below HF6.out.bel) (HRr.out.below HF6.out.bel) (by decide)).mono ?_); rintro e w7 ⟨A7, c7, rfl, hb7, _, _, _⟩
  have HF7 := Lib.hid (HF6.out.go hb7)
  clear hb7 HF6
  go_wp2_with fail
  (with_reducible refine (parseQ _ _ [] 1 6 (Lib.hid kn_p4) (HM.out.below HF7.out.bel) (HRr.out.below HF7.out.bel) (by decide)).mono ?_); rintro e w8 ⟨A8, c8, rfl, hb8, _, _, _⟩
  have HF8 := Lib.hid (HF7.out.go hb8)
  clear hb8 HF7
  go_upto_region 11 with fail
  have hF9 : Fr w [(w8.heap.size, byO)] (w8.alloc byO) := HF8.out.new byO
  generalize w8.alloc (.cells #[.int .u64 1, .int .u64 0, .int .u64 0, .int .u64 0, .int .u64 0] 36) = W9 at *
  generalize w8.heap.size = g at *
  have hb9 := hF9.at (g := g) (o := byO) (by simp)
  have y0 := Lib.cell_of_heap hb9 0
  have y1 := Lib.cell_of_heap hb9 1
  have y2 := Lib.cell_of_heap hb9 2
  have y3 := Lib.cell_of_heap hb9 3
  have y4 := Lib.cell_of_heap hb9 4
  have HF9 := Lib.hid (hF9.sub (M := []) (by intro p hp; cases hp))
  clear hb9 HF8 hF9
  go_wp2
  go_loopw [17, 19] (fun n i wr => ∃ k : Nat, k ≤ 5 ∧ i = .int .i64 k ∧ n = .int .u64 (kn0 k) ∧ wr = W9) (fun _ i _ => 5 - (intOf i).toNat)
  case atStart => exact ⟨0, by omega, rfl, rfl, rfl⟩
  case round =>
    obtain ⟨k, hk, rfl, rfl, rfl⟩ := hrel
    rcases (show k = 0 ∨ k = 1 ∨ k = 2 ∨ k = 3 ∨ k = 4 ∨ k = 5 by omega) with rfl | rfl | rfl | rfl | rfl | rfl
    · have hst2 := Lib.hid (show kn0 1 = dgR (kn0 0) 1 from rfl)
      generalize kn0 0 = M at *
      go_wp2
      go_roundw
      case rel => exact ⟨1, by omega, rfl, by rw [hst2.out]; rfl, trivial⟩
      case measure => simp [intOf]
    · have hst2 := Lib.hid (show kn0 2 = dgR (kn0 1) 0 from rfl)
      generalize kn0 1 = M at *
      go_wp2
      go_roundw
      case rel => exact ⟨2, by omega, rfl, by rw [hst2.out]; rfl, trivial⟩
      case measure => simp [intOf]
    · have hst2 := Lib.hid (show kn0 3 = dgR (kn0 2) 0 from rfl)
      generalize kn0 2 = M at *
      go_wp2
      go_roundw
      case rel => exact ⟨3, by omega, rfl, by rw [hst2.out]; rfl, trivial⟩
      case measure => simp [intOf]
    · have hst2 := Lib.hid (show kn0 4 = dgR (kn0 3) 0 from rfl)
      generalize kn0 3 = M at *
      go_wp2
      go_roundw
      case rel => exact ⟨4, by omega, rfl, by rw [hst2.out]; rfl, trivial⟩
      case measure => simp [intOf]
    · have hst2 := Lib.hid (show kn0 5 = dgR (kn0 4) 0 from rfl)
      generalize kn0 4 = M at *
      go_wp2
      go_roundw
      case rel => exact ⟨5, by omega, rfl, by rw [hst2.out]; rfl, trivial⟩
      case measure => simp [intOf]
    · obtain ⟨v, hv⟩ : ∃ v, Hid (kn0 5 = v) := ⟨_, Lib.hid rfl⟩
      rw [hv.out]
      clear y0 y1 y2 y3 y4
      have hB9 := HF9.out
      go_wp2_with fail
      have hd := digest_at (wr.alloc (.cells #[.int .i32 1, .int .i32 0] 39)) wr.heap.size v hv (alloc1_new _ _)
      (with_reducible refine hd.mono ?_); rintro e wa ⟨rfl, hba⟩
      have HFa := Lib.hid ((HF9.out.al (.cells #[.int .i32 1, .int .i32 0] 39 (0, 0))).go hba)
      clear hd hba HF9 hB9
      go_wp2_with fail
      (with_reducible refine (example_ _).mono ?_); rintro e wb ⟨rfl, rfl⟩
      go_wp2_with fail
      (with_reducible refine (example_ _).mono ?_); rintro e wc ⟨rfl, rfl⟩
      have hd := differ_at ((wa.alloc exO).alloc exO) wa.heap.size (wa.heap.size + 1) (alloc_blk (alloc1_new _ _)) (alloc2_new _ _ _)
      have Hd := Lib.hid hd
      clear hd
      go_wp2_with fail
      (with_reducible refine Hd.out.mono ?_); rintro e wd ⟨rfl, hbd⟩
      have HFd := Lib.hid (((HFa.out.al exO).al exO).go hbd)
      clear Hd hbd HFa
      go_wp2_with fail
      (with_reducible refine (awake_ _ (by exact HP.out.below HFd.out.bel)).mono ?_); rintro e wz ⟨rfl, hbz⟩
      have hB := (HFd.out.go hbz).bel
      go_wp2
      go_ret
      exact ⟨rfl, hB⟩
end Go.Proofs.YtpgojecldmcopaaGreatDoor
