/- Traces: Parts of the reference. -/
import Derived.Test.YtpgojecldmcopaaGreatDoorT6
namespace Go.Proofs.YtpgojecldmcopaaGreatDoor
open Go.RowKit
theorem intEl : Elem Tryz.prog 41 3 (.int .i64 0) 1 8 := ⟨Tryz.underlying41, by kernel_rfl, rfl, by decide⟩
theorem mem_of_hd {α : Type} {l : List α} {k : Nat} {x : α} (h : Hid (l.drop k = x :: l.drop (k + 1))) : x ∈ l := mem_dropE h
theorem cnts_take {l : List Ev} {r : List Rg} {k : Nat} {x : Ev} (hd : Hid (l.drop k = x :: l.drop (k + 1))) : cnts (l.take (k + 1)) r = (cnts (l.take k) r).set (idxR r x.2) ((cnts (l.take k) r).getD (idxR r x.2) 0 + 1) := by
  rw [take_of_drop hd.out, cnts_snoc]
theorem mk_ints (n : Nat) (hn : n ≤ 1000000) (W : World) : (Instr.makeSlice 41 (.int .i64 ((n : Int) + 1)) (.int .i64 ((n : Int) + 1))).run Tryz.prog W = .ok (.slice (some ⟨W.heap.size, 0, none⟩) (n + 1) (n + 1)) (W.alloc (.cells (madeCells #[.int .i64 0] (n + 1)) 3)) := by
  rw [show ((n : Int) + 1) = ((n + 1 : Nat) : Int) by omega]
  exact run_mk1 (P := Tryz.prog) intEl rfl .i64 .i64 (n + 1) (n + 1) (Nat.le_refl _) (by omega) (by omega) W
/-- the counts so far, in a block of the call's own -/
abbrev CtO (C : List Int) : Obj := .cells (ints C).toArray 3 (0, 0)
theorem ct_set {w wi : World} {G i : Nat} {C : List Int} {n : Int} (h : Fr w [(G, CtO C)] wi) (hG : w.heap.size ≤ G) : Fr w [(G, CtO (C.set i n))] (wi.setCell ⟨G, i, none⟩ (.int .i64 n)) := by
  have := Fr.set h hG (by simp) i (.int .i64 n)
  rwa [ints_set] at this
theorem ct_cell {w wi : World} {G i : Nat} {C : List Int} (h : Fr w [(G, CtO C)] wi) (hi : i < C.length) : wi.cell? ⟨G, i, none⟩ = some (.int .i64 (C.getD i 0)) ∧ wi.frozen? ⟨G, i, none⟩ = false := by
  have hb := h.at (g := G) List.mem_cons_self
  refine ⟨?_, Lib.frozen_of_heap hb i⟩
  rw [Lib.cell_of_heap hb]
  simpa using ints_get hi
theorem ct_ret {w wi : World} {G n : Nat} {C : List Int} (h : Fr w [(G, CtO C)] wi) (hn : C.length = n) (h63 : n ≤ 1000001) {E : Int} (hE : E = 0) : RetSl w 1 (ints C) n E (.returned (.tuple #[.slice (some ⟨G, 0, none⟩) n n, .int .i64 0])) wi := by
  subst hn hE
  have := reads_blk (h.at (g := G) List.mem_cons_self)
  rw [show (ints C).length = C.length by simp] at this
  exact ⟨_, _, rfl, h.bel, this, Nat.le_refl _, by omega⟩
end Go.Proofs.YtpgojecldmcopaaGreatDoor
