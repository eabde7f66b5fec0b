/- ConfigLayouts: for every configuration, shape and name the law returns true. No condition. -/
import Derived.Test.YtjdbnfejidaeoaaDoorC11
namespace Go.Proofs.YtjdbnfejidaeoaaDoor
open Go.RowKit
set_option maxRecDepth 100000 in
set_option maxHeartbeats 2000000 in
theorem configLayouts_walk (w : World) (b k l s r : Int) (nm : ByteArray) (hnm : nm.size ≤ 140737488351232) (hP : Pow w) :
    Calls Tryd.prog 3 #[cfV b k l, csV s r, .string nm] w fun e w' => e = .returned (.bool true) ∧ Below w.heap.size w w' := by
  have HP := Lib.hid hP
  clear hP
  have hlen := (layL_bd b k l s r).1
  go_enter Tryd.func3, Tryd.ntmps3
  go_wp2_with fail
  (with_reducible refine (layout_any b k l s r _).mono ?_); rintro e w1 ⟨A1, a1, rfl, hb1, hr1, _, _⟩
  have hF1 : Fr w [(w.heap.size + 1, csO s r), (w.heap.size, cfO b k l)] w1 := (((Fr.start w).newN rfl (cfO b k l)).newN (by simp) (csO s r)).go hb1
  obtain ⟨c0, c1, c2, d0, d1, hlt⟩ := frC b k l s r hF1 (by simp) (by simp)
  clear hb1
  go_wp2_with fail
  (with_reducible refine (rlayout_any b k l s r _).mono ?_); rintro e w2 ⟨A2, a2, rfl, hb2, hr2, _, _⟩
  have hF2 := hF1.go hb2
  have hr1 := hr1.go hb2
  clear c0 c1 c2 d0 d1 hlt hb2 hF1
  obtain ⟨c0, c1, c2, d0, d1, hlt⟩ := frC b k l s r hF2 (by simp) (by simp)
  go_wp2_with fail
  (with_reducible refine (cfind b k l s r nm (Nat.le_trans hnm (by decide)) _).mono ?_); rintro e w3 ⟨rfl, hb3⟩
  have hF3 := hF2.go hb3
  have hr1 := hr1.go hb3
  have hr2 := hr2.go hb3
  clear c0 c1 c2 d0 d1 hlt hb3 hF2
  obtain ⟨c0, c1, c2, d0, d1, hlt⟩ := frC b k l s r hF3 (by simp) (by simp)
  have hlt0 : w.heap.size < w3.heap.size := by omega
  have E1 : ∃ e1 : Rg, fndX b k l s r nm = e1 := ⟨_, rfl⟩
  obtain ⟨⟨x0, x1, x2⟩, hx⟩ := E1
  rw [hx]
  have Hx := Lib.hid hx
  clear hx
  go_wp2_with fail
  (with_reducible refine (rfind b k l s r nm _).mono ?_); rintro e w4 ⟨rfl, hb4⟩
  rw [Hx.out]
  have hF4 := (hF3.newN rfl (.cells #[.string x0, .int .i64 x1, .int .i64 x2] 31 (0, 0))).go hb4
  have hr1 := (hr1.al (.cells #[.string x0, .int .i64 x1, .int .i64 x2] 31 (0, 0))).go hb4
  have hr2 := (hr2.al (.cells #[.string x0, .int .i64 x1, .int .i64 x2] 31 (0, 0))).go hb4
  have hlt3 := hF4.lt (g := w3.heap.size) List.mem_cons_self
  clear c0 c1 c2 d0 d1 hlt hlt0 hb4 hF3
  have hF5 := hF4.newN rfl (.cells #[.string x0, .int .i64 x1, .int .i64 x2] 31 (0, 0))
  have hr1 := (hr1.al (.cells #[.string x0, .int .i64 x1, .int .i64 x2] 31 (0, 0)))
  have hr2 := (hr2.al (.cells #[.string x0, .int .i64 x1, .int .i64 x2] 31 (0, 0)))
  have hs := sameRegions_any _ _ _ A1 A2 a1 a2 (layL b k l s r) (layL b k l s r) hr1 hr2 (by omega)
  rw [decide_eq_true rfl] at hs
  have Hs := Lib.hid hs
  clear hs
  go_wp2_with fail
  (with_reducible refine (Hs.out).mono ?_); rintro e w5 ⟨rfl, hb5⟩
  have hF5 := hF5.go hb5
  obtain ⟨p0, p1, p2⟩ : w5.cell? ⟨w3.heap.size, 0, none⟩ = some (.string x0) ∧ w5.cell? ⟨w3.heap.size, 1, none⟩ = some (.int .i64 x1) ∧ w5.cell? ⟨w3.heap.size, 2, none⟩ = some (.int .i64 x2) := ⟨Lib.cell_of_heap (hF5.at (g := w3.heap.size) (o := .cells #[.string x0, .int .i64 x1, .int .i64 x2] 31 (0, 0)) (by simp)) 0, Lib.cell_of_heap (hF5.at (g := w3.heap.size) (o := .cells #[.string x0, .int .i64 x1, .int .i64 x2] 31 (0, 0)) (by simp)) 1, Lib.cell_of_heap (hF5.at (g := w3.heap.size) (o := .cells #[.string x0, .int .i64 x1, .int .i64 x2] 31 (0, 0)) (by simp)) 2⟩
  obtain ⟨q0, q1, q2⟩ : w5.cell? ⟨w4.heap.size, 0, none⟩ = some (.string x0) ∧ w5.cell? ⟨w4.heap.size, 1, none⟩ = some (.int .i64 x1) ∧ w5.cell? ⟨w4.heap.size, 2, none⟩ = some (.int .i64 x2) := ⟨Lib.cell_of_heap (hF5.at (g := w4.heap.size) (o := .cells #[.string x0, .int .i64 x1, .int .i64 x2] 31 (0, 0)) (by simp)) 0, Lib.cell_of_heap (hF5.at (g := w4.heap.size) (o := .cells #[.string x0, .int .i64 x1, .int .i64 x2] 31 (0, 0)) (by simp)) 1, Lib.cell_of_heap (hF5.at (g := w4.heap.size) (o := .cells #[.string x0, .int .i64 x1, .int .i64 x2] 31 (0, 0)) (by simp)) 2⟩
  clear hF4 hb5 hr1 hr2 hlt3 Hs
  go_wp2_with fail
  (with_reducible refine (awake w5 (HP.out.below hF5.bel)).mono ?_); rintro e w6 ⟨rfl, hb6⟩
  have hB := bt hF5.bel hb6
  go_wp2
  go_ret
  exact ⟨rfl, hB⟩
end Go.Proofs.YtjdbnfejidaeoaaDoor
