/- ConfigCells: for every configuration, shape and place the law returns true. No condition. -/
import Derived.Test.YtjdbnfejidaeoaaDoorC11
namespace Go.Proofs.YtjdbnfejidaeoaaDoor
open Go.RowKit
abbrev placeO (nm : ByteArray) (i at_ : Int) : Obj := .cells #[.string nm, .int .i64 i, .int .i64 at_] 38 (0, 0)
set_option maxRecDepth 100000 in
set_option maxHeartbeats 1000000 in
theorem configCells_walk (w : World) (b k l s r : Int) (nm : ByteArray) (hnm : nm.size ≤ 140737488351232) (i at_ : Int) (h64 : -9223372036854775808 ≤ at_ ∧ at_ ≤ 9223372036854775807) (hP : Pow w) :
    Calls Tryd.prog 4 #[cfV b k l, csV s r, .agg #[.string nm, .int .i64 i, .int .i64 at_]] w fun e w' => e = .returned (.bool true) ∧ Below w.heap.size w w' := by
  have HP := Lib.hid hP
  clear hP
  go_enter Tryd.func4, Tryd.ntmps4
  go_wp2_with fail
  (with_reducible refine (ccell b k l s r nm (Nat.le_trans hnm (by decide)) i _).mono ?_); rintro e w1 ⟨rfl, hb1⟩
  have hF1 := (frBox3 w b k l s r (placeO nm i at_)).go hb1
  obtain ⟨c0, c1, c2, d0, d1, hlt⟩ := frC b k l s r hF1 (by simp) (by simp)
  obtain ⟨p0, p1, p2⟩ : w1.cell? ⟨w.heap.size + 1 + 1, 0, none⟩ = some (.string nm) ∧ w1.cell? ⟨w.heap.size + 1 + 1, 1, none⟩ = some (.int .i64 i) ∧ w1.cell? ⟨w.heap.size + 1 + 1, 2, none⟩ = some (.int .i64 at_) := ⟨Lib.cell_of_heap (hF1.at List.mem_cons_self) 0, Lib.cell_of_heap (hF1.at List.mem_cons_self) 1, Lib.cell_of_heap (hF1.at List.mem_cons_self) 2⟩
  clear hb1
  go_wp2_with fail
  (with_reducible refine (rcell b k l s r nm i w1).mono ?_); rintro e w2 ⟨rfl, hb2⟩
  have hF2 := hF1.go hb2
  clear c0 c1 c2 d0 d1 hlt p0 p1 p2 hb2 hF1
  obtain ⟨c0, c1, c2, d0, d1, hlt⟩ := frC b k l s r hF2 (by simp) (by simp)
  obtain ⟨p0, p1, p2⟩ : w2.cell? ⟨w.heap.size + 1 + 1, 0, none⟩ = some (.string nm) ∧ w2.cell? ⟨w.heap.size + 1 + 1, 1, none⟩ = some (.int .i64 i) ∧ w2.cell? ⟨w.heap.size + 1 + 1, 2, none⟩ = some (.int .i64 at_) := ⟨Lib.cell_of_heap (hF2.at List.mem_cons_self) 0, Lib.cell_of_heap (hF2.at List.mem_cons_self) 1, Lib.cell_of_heap (hF2.at List.mem_cons_self) 2⟩
  go_wp2_with fail
  (with_reducible refine (cwhere b k l s r at_ h64 w2).mono ?_); rintro e w3 ⟨rfl, hb3⟩
  have hF3 := hF2.go hb3
  clear c0 c1 c2 d0 d1 hlt p0 p1 p2 hb3 hF2
  obtain ⟨c0, c1, c2, d0, d1, hlt⟩ := frC b k l s r hF3 (by simp) (by simp)
  obtain ⟨p0, p1, p2⟩ : w3.cell? ⟨w.heap.size + 1 + 1, 0, none⟩ = some (.string nm) ∧ w3.cell? ⟨w.heap.size + 1 + 1, 1, none⟩ = some (.int .i64 i) ∧ w3.cell? ⟨w.heap.size + 1 + 1, 2, none⟩ = some (.int .i64 at_) := ⟨Lib.cell_of_heap (hF3.at List.mem_cons_self) 0, Lib.cell_of_heap (hF3.at List.mem_cons_self) 1, Lib.cell_of_heap (hF3.at List.mem_cons_self) 2⟩
  go_wp2_with fail
  (with_reducible refine (rwhere b k l s r at_ h64 w3).mono ?_); rintro e w4 ⟨rfl, hb4⟩
  have hF4 := hF3.go hb4
  clear c0 c1 c2 d0 d1 hlt p0 p1 p2 hb4 hF3
  go_wp2_with fail
  (with_reducible refine (awake w4 (HP.out.below hF4.bel)).mono ?_); rintro e w5 ⟨rfl, hb5⟩
  have hB := bt hF4.bel hb5
  go_wp2
  go_ret
  exact ⟨rfl, hB⟩
end Go.Proofs.YtjdbnfejidaeoaaDoor
