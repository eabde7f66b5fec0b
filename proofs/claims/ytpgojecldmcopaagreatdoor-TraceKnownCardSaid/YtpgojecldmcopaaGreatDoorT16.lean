/- Traces: the calls at the document's example (awake). -/
import Derived.Test.YtpgojecldmcopaaGreatDoorT15
import Derived.Test.YtpgojecldmcopaaGreatDoorT12
import Derived.Test.YtpgojecldmcopaaGreatDoorT4
namespace Go.Proofs.YtpgojecldmcopaaGreatDoor
open Go.RowKit
def exL : List Ev := [(1, 5), (1, 6), (2, 6), (2, 6), (1, 7)]
def exR : List Rg := [(⟨#[]⟩, 5, 1), (⟨#[]⟩, 6, 1)]
abbrev exO : Obj := .cells #[.int .i32 1, .int .i32 5, .int .i32 1, .int .i32 6, .int .i32 2, .int .i32 6, .int .i32 2, .int .i32 6, .int .i32 1, .int .i32 7] 39 (0, 0)
abbrev exB : ByteArray := ⟨#[108, 111, 97, 100, 32, 53, 32, 50, 10, 115, 116, 111, 114, 101, 32, 54, 32, 49, 10, 115, 116, 111, 114, 101, 32, 54, 32, 49, 10, 108, 111, 97, 100, 32, 55, 32, 49, 10]⟩
theorem exL_ok : Ok32 exL := by
  intro x hx
  simp only [exL, List.mem_cons, List.not_mem_nil, or_false] at hx
  unfold In32
  rcases hx with rfl | rfl | rfl | rfl | rfl <;> simp only <;> omega
theorem ex_chk : chkT exL 65536 = (0, 0) := by decide +kernel
theorem ex_runs : (runsT exL).length ≤ 5000 := by decide +kernel
theorem ex_text : (⟨(prT exL).toArray⟩ : ByteArray) = exB := by
  apply ByteArray.ext
  decide +kernel
theorem ex_cnt : cntT exL 1 = (3, 0) := by decide +kernel
theorem ex_pte : PtE exR 0 := by
  refine .inr (.inr ⟨?_, ?_, rfl⟩)
  · intro y hy
    simp only [exR, List.mem_cons, List.not_mem_nil, or_false] at hy
    rcases hy with rfl | rfl <;> rfl
  · intro i k hi hk
    have h2 : i = 1 ∧ k = 0 := by simp [exR] at hi; omega
    obtain ⟨rfl, rfl⟩ := h2
    rfl
theorem ex_pts : ptL exL exR 0 = [1, 3, 1] := by decide +kernel
theorem ex_dif : dif exL (exL.take 3) = 3 := by decide +kernel
theorem ex_dg : dg [] = 14695981039346656037 := rfl
theorem ex_reads {w : World} {g : Nat} (h : w.heap[g]? = some exO) : Reads w w.heap.size 2 (some ⟨g, 0, none⟩) 5 (evs exL) := reads_blkN (cs := evs exL) h rfl
theorem example_ (w : World) : Calls Tryz.prog 14 #[] w fun e w' => e = .returned (.slice (some ⟨w.heap.size, 0, none⟩) 5 5) ∧ w' = w.alloc exO := by
  go_enter Tryz.func14, Tryz.ntmps14
  go_wp2
  go_ret
  exact ⟨rfl, rfl⟩
theorem print_ex (w : World) (g : Nat) (h : w.heap[g]? = some exO) (hP : Pow w) : Calls Tryz.prog 8 #[.slice (some ⟨g, 0, none⟩) 5 5] w fun e w' => e = .returned (.tuple #[.string exB, .int .i64 0]) ∧ Below w.heap.size w w' := by
  have := print_ok w (some ⟨g, 0, none⟩) 5 exL (ex_reads h) (Nat.le_refl _) exL_ok ex_chk ex_runs hP
  rw [ex_text] at this
  exact this
theorem count_ex (w : World) (g : Nat) (h : w.heap[g]? = some exO) : Calls Tryz.prog 17 #[.slice (some ⟨g, 0, none⟩) 5 5, .int .i64 1] w fun e w' => e = .returned (.tuple #[.int .i64 3, .int .i64 0]) ∧ Below w.heap.size w w' := by
  have := count_ w (some ⟨g, 0, none⟩) 5 exL (ex_reads h) exL_ok (by decide) 1
  rw [ex_cnt] at this
  exact this
theorem parts_ex (w : World) (g q : Nat) (h : w.heap[g]? = some exO) (h' : w.heap[q]? = some (.cells #[.string ⟨#[]⟩, .int .i64 5, .int .i64 1, .string ⟨#[]⟩, .int .i64 6, .int .i64 1] 45 (0, 0))) :
    Calls Tryz.prog 18 #[.slice (some ⟨g, 0, none⟩) 5 5, .slice (some ⟨q, 0, none⟩) 2 2] w (RetSl w 1 (ints [1, 3, 1]) 3 0) := by
  have := parts_ w (some ⟨g, 0, none⟩) (some ⟨q, 0, none⟩) 5 2 exL exR (ex_reads h) exL_ok (by decide) (reads_blkN (cs := rgs exR) h' rfl) (by decide) 0 ex_pte
  rw [ex_pts] at this
  exact this
theorem differ_ex (w : World) (g q : Nat) (h : w.heap[g]? = some exO) (h' : w.heap[q]? = some exO) : Calls Tryz.prog 16 #[.slice (some ⟨g, 0, none⟩) 5 5, .slice (some ⟨q, 0, none⟩) 3 5] w fun e w' => e = .returned (.int .i64 3) ∧ Below w.heap.size w w' := by
  have := differ_ w _ _ (some ⟨g, 0, none⟩) (some ⟨q, 0, none⟩) 5 5 exL (exL.take 3) (ex_reads h) (by have := (ex_reads h').firsts (k := 3) (by omega); rw [flat2_take] at this; exact this) (by decide) (by decide)
  rw [ex_dif] at this
  exact this
theorem digest_ex (w : World) : Calls Tryz.prog 15 #[.slice none 0 0] w fun e w' => e = .returned (.int .u64 14695981039346656037) ∧ Below w.heap.size w w' :=
  digest_ w none 0 [] Reads.none_ (by decide)
theorem ints_ex (w : World) (A : Option Addr) (c q : Nat) (h : Reads w w.heap.size 1 A 3 (ints [1, 3, 1])) (h' : w.heap[q]? = some (.cells #[.int .i64 1, .int .i64 3, .int .i64 1] 3 (0, 0))) :
    Calls Tryz.prog 19 #[.slice A 3 c, .slice (some ⟨q, 0, none⟩) 3 3] w fun e w' => e = .returned (.bool true) ∧ Below w.heap.size w w' :=
  ints_same w _ _ A (some ⟨q, 0, none⟩) c 3 [1, 3, 1] [1, 3, 1] h (reads_blkN (cs := ints [1, 3, 1]) h' rfl) (by decide)
set_option maxRecDepth 100000 in
set_option maxHeartbeats 1000000 in
theorem awake_ (w : World) (hP : Pow w) : Calls Tryz.prog 7 #[] w fun e w' => e = .returned (.bool true) ∧ Below w.heap.size w w' := by
  have HP := Lib.hid hP
  clear hP
  go_enter Tryz.func7, Tryz.ntmps7
  go_wp2_with fail
  (with_reducible refine (example_ _).mono ?_); rintro e w1 ⟨rfl, rfl⟩
  have hb1 := ba (Below.refl w.heap.size w) exO
  have hp := print_ex (w.alloc exO) w.heap.size (alloc1_new _ _) (HP.out.below hb1)
  go_wp2_with fail
  (with_reducible refine hp.mono ?_); rintro e w2 ⟨rfl, hb2⟩
  have HB := Lib.hid (bt hb1 hb2)
  clear hp hb1 hb2
  go_wp2_with fail
  (with_reducible refine (example_ _).mono ?_); rintro e w3 ⟨rfl, rfl⟩
  have hc := count_ex (w2.alloc exO) w2.heap.size (alloc1_new _ _)
  go_wp2_with fail
  (with_reducible refine hc.mono ?_); rintro e w4 ⟨rfl, hb4⟩
  replace HB := Lib.hid (bt (ba HB.out _) hb4)
  clear hc hb4
  go_wp2_with fail
  (with_reducible refine (example_ _).mono ?_); rintro e w5 ⟨rfl, rfl⟩
  have hpt := parts_ex ((w4.alloc exO).alloc (.cells #[.string ⟨#[]⟩, .int .i64 5, .int .i64 1, .string ⟨#[]⟩, .int .i64 6, .int .i64 1] 45)) w4.heap.size (w4.heap.size + 1) (alloc_blk (alloc1_new _ _)) (alloc2_new _ _ _)
  have Hpt := Lib.hid hpt
  clear hpt
  go_wp2_with fail
  (with_reducible refine Hpt.out.mono ?_); rintro e w6 ⟨A, c, rfl, hb6, hr6, hc6, hc7⟩
  replace HB := Lib.hid (bt (ba (ba HB.out _) _) hb6)
  have Hi := Lib.hid (ints_ex (w6.alloc (.cells #[.int .i64 1, .int .i64 3, .int .i64 1] 3)) A c w6.heap.size (hr6.al _) (alloc1_new _ _))
  clear Hpt hb6 hr6
  go_wp2_with fail
  (with_reducible refine Hi.out.mono ?_); rintro e w7 ⟨rfl, hb7⟩
  replace HB := Lib.hid (bt (ba HB.out _) hb7)
  clear Hi hb7 hc6 hc7
  go_wp2_with fail
  (with_reducible refine (example_ _).mono ?_); rintro e w8 ⟨rfl, rfl⟩
  go_wp2_with fail
  (with_reducible refine (example_ _).mono ?_); rintro e w9 ⟨rfl, rfl⟩
  have hd := differ_ex ((w7.alloc exO).alloc exO) w7.heap.size (w7.heap.size + 1) (alloc_blk (alloc1_new _ _)) (alloc2_new _ _ _)
  have Hd := Lib.hid hd
  clear hd
  go_wp2_with fail
  (with_reducible refine Hd.out.mono ?_); rintro e w10 ⟨rfl, hb10⟩
  replace HB := Lib.hid (bt (ba (ba HB.out _) _) hb10)
  clear Hd hb10
  go_wp2_with fail
  (with_reducible refine (digest_ex _).mono ?_); rintro e w11 ⟨rfl, hb11⟩
  have hB := bt HB.out hb11
  go_wp2
  go_ret
  exact ⟨rfl, hB⟩
end Go.Proofs.YtpgojecldmcopaaGreatDoor
