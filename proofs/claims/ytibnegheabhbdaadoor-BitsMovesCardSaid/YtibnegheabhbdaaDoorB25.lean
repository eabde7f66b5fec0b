/- Rows of bits: two shifts at once (moved). -/
import Derived.Test.YtibnegheabhbdaaDoorB24
namespace Go.Proofs.YtibnegheabhbdaaDoor
open Go.RowKit
/-- two rows, two bits -/
def RetMv (w : World) (n : Nat) (K : List (Nat × Obj)) (L : List (Option Addr × List Nat)) (p q : List Nat) (x y : Bool) (e : Ending) (W' : World) : Prop :=
  ∃ A1 c1 A2 c2, e = .returned (.tuple #[.slice A1 n c1, .slice A2 n c2, .agg #[.bool x, .bool y], .bool true]) ∧ RS w n K ((A2, q) :: (A1, p) :: L) W'
set_option maxRecDepth 100000 in
set_option maxHeartbeats 2000000 in
theorem moved_ok {w W : World} {n : Nat} {K : List (Nat × Obj)} {L : List (Option Addr × List Nat)} {A : Option Addr} {c : Nat} {l : List Nat} (h : RS w n K L W) (h1 : (A, l) ∈ L) (hc : chkB n = 0) (v : Bool) :
    Calls Tryd.prog 27 #[.slice A n c, .bool v] W (RetMv w n K L (shL l v) (bkL l v) (shO l) (bkO l)) := by
  have HS := Lib.hid (h.new (b2O false false))
  have HK := Lib.hid (fun p hp => Nat.ne_of_lt (heap_lt (h.blk p hp)))
  have HM := Lib.hid h1
  have Hc := Lib.hid hc
  have hg0 := h.bel.size
  clear h h1 hc
  go_enter Tryd.func27, Tryd.ntmps27
  go_wp2_with fail
  (with_reducible refine (shift_ok HS.out (A := A) HM.out Hc.out v).mono ?_); rintro e w1 ⟨A1, c1, rfl, hS⟩
  have HS := Lib.hid hS
  clear hS
  go_wp2_with fail
  (with_reducible refine (back_ok HS.out (A := A) (l := l) (List.mem_cons_of_mem _ HM.out) Hc.out v).mono ?_); rintro e w2 ⟨A2, c2, rfl, hS⟩
  have hS1 := hS.set hg0 HK.out (b2_no _ _) 0 (.bool (shO l))
  have hS2 := hS1.set hg0 HK.out (by simp only [List.setIfInBounds_toArray, List.set_cons_zero]; exact b2_no _ _) 1 (.bool (bkO l))
  have c0 := Lib.cell_of_heap (hS.blk _ List.mem_cons_self) 0
  have c1' := Lib.cell_of_heap (hS.blk _ List.mem_cons_self) 1
  have f0 := Lib.frozen_of_heap (hS.blk _ List.mem_cons_self) 0
  have f1 := Lib.frozen_of_heap (hS.blk _ List.mem_cons_self) 1
  have HS2 := Lib.hid hS2
  have d0 := Lib.cell_of_heap (hS2.blk _ List.mem_cons_self) 0
  have d1 := Lib.cell_of_heap (hS2.blk _ List.mem_cons_self) 1
  have D0 := Lib.hid d0
  have D1 := Lib.hid d1
  clear hS hS1 hS2 HS d0 d1
  go_wp2
  have d0 := D0.out
  have d1 := D1.out
  simp only [List.setIfInBounds_toArray, List.set_cons_zero, List.set_cons_succ, List.getElem?_toArray, List.getElem?_cons_zero, List.getElem?_cons_succ] at d0 d1
  refine bodyPost_ret (v := .tuple #[.slice A1 n c1, .slice A2 n c2, .agg #[.bool (shO l), .bool (bkO l)], .bool true]) (by simp [results, Tryd.f27, go_sem, d0, d1]) rfl ⟨A1, c1, A2, c2, rfl, HS2.out.sub' fun p hp => List.mem_cons_of_mem _ hp⟩
end Go.Proofs.YtibnegheabhbdaaDoor
