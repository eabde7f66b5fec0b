/- Arenas: New, none, place. No condition. -/
import Derived.Test.YtmpdgckccgbdnaaDoorAp1
import Derived.Test.YtmpdgckccgbdnaaDoorN7
import Derived.Laws.MakeOwn
import Derived.BigQuiet
namespace Go.Proofs.YtmpdgckccgbdnaaDoor
open Go.RowKit
theorem u64El : Elem Tryd.prog 60 95 (.int .u64 0) 1 8 := ⟨Tryd.underlying60, by kernel_rfl, rfl, by decide⟩
theorem mk_u64s (n : Nat) (hn : n ≤ 1000001) (W : World) : (Instr.makeSlice 60 (.int .i64 (n : Int)) (.int .i64 (n : Int))).run Tryd.prog W = .ok (.slice (some ⟨W.heap.size, 0, none⟩) n n) (W.alloc (.cells (madeCells #[.int .u64 0] n) 95)) :=
  run_mk1 (P := Tryd.prog) u64El rfl .i64 .i64 n n (Nat.le_refl _) (by omega) (by omega) W
/-- an arena of p cells with the row v of regions, at block g -/
abbrev arO (p gc : Nat) (v : Value) (g : Nat) : Obj := .cells #[.slice none 0 0, .int .i64 0, .slice (some ⟨gc, 0, none⟩) p p, v, .func (.func 19) #[.pointer (some ⟨g, 0, none⟩)] #[]] 66 (0, 0)
structure ArI (W : World) (p gc : Nat) (v : Value) (g : Nat) : Prop where
  c2 : W.cell? ⟨g, 2, none⟩ = some (.slice (some ⟨gc, 0, none⟩) p p)
  c3 : W.cell? ⟨g, 3, none⟩ = some v
  c4 : W.cell? ⟨g, 4, none⟩ = some (.func (.func 19) #[.pointer (some ⟨g, 0, none⟩)] #[])
  f3 : W.frozen? ⟨g, 3, none⟩ = false
  lt : g < W.heap.size
theorem ArI.of {W : World} {p gc g : Nat} {v : Value} (h : W.heap[g]? = some (arO p gc v g)) : ArI W p gc v g :=
  ⟨Lib.cell_of_heap h 2, Lib.cell_of_heap h 3, Lib.cell_of_heap h 4, Lib.frozen_of_heap h 3, heap_lt h⟩
set_option maxRecDepth 100000 in
theorem anew (p : Nat) (h0 : 1 ≤ p) (h1 : p ≤ 3000) (w : World) :
    Calls Tryd.prog 7 #[.int .i64 (p : Int)] w fun e w' => e = .returned (.tuple #[.pointer (some ⟨w.heap.size + 1, 0, none⟩), .int .i64 0]) ∧ Fr w [(w.heap.size + 1, arO p w.heap.size (.slice none 0 0) (w.heap.size + 1))] w' := by
  have i1 : ¬ ((p : Int) < 1) := by omega
  have i2 : ¬ ((65536 : Int) < (p : Int)) := by omega
  have hm := mk_u64s p (by omega)
  have hF := ((Fr.start w).al (.cells (madeCells #[.int .u64 0] p) 95 (0, 0))).newN (g := w.heap.size + 1) (by simp) (arO p w.heap.size (.slice none 0 0) (w.heap.size + 1))
  go_enter Tryd.func7, Tryd.ntmps7
  go_wp2
  go_ret2
  exact ⟨rfl, hF⟩
set_option maxRecDepth 100000 in
theorem anone (w : World) (p gc g : Nat) (v : Value) (h : w.heap[g]? = some (arO p gc v g)) : Calls Tryd.prog 20 #[.pointer (some ⟨g, 0, none⟩)] w fun e w' => e = .returned (.bool false) ∧ w' = w := by
  obtain ⟨c2, c3, c4, f3, lt⟩ := ArI.of h
  have hnil : ∀ W : World, (binOp .eql 64 (.func (.func 19) #[.pointer (some ⟨g, 0, none⟩)] #[]) .nilFunc).run Tryd.prog W = .ok (.bool false) W := fun W => by kernel_rfl
  have hptr : ∀ W : World, (binOp .eql 33 (.pointer (some ⟨g, 0, none⟩)) (.pointer none)).run Tryd.prog W = .ok (.bool false) W := fun W => by kernel_rfl
  go_enter Tryd.func20, Tryd.ntmps20
  go_wp2
  go_ret
  exact ⟨rfl, rfl⟩
set_option maxRecDepth 100000 in
theorem aplace1 (w : World) (X : Nat) (nm : ByteArray) (y : Rg) (v : Bool) (hv : Hid (v = decide (y.1 = nm))) (hX : w.cell? ⟨X, 0, none⟩ = some (.string nm)) (hlt : X < w.heap.size) :
    Calls Tryd.prog 36 #[rgV y, .pointer (some ⟨X, 0, none⟩)] w fun e w' => e = .returned (.bool v) ∧ Below w.heap.size w w' := by
  obtain ⟨s, B, S⟩ := y
  have hX2 := (World.cell?_alloc_lt w (.cells #[.string s, .int .i64 B, .int .i64 S] 38 (0, 0)) ⟨X, 0, none⟩ hlt).trans hX
  clear hX
  go_enter Tryd.func36, Tryd.ntmps36
  go_wp2
  refine bodyPost_ret (v := .bool (s.toList == nm.toList)) (by simp [results, go_sem]) rfl ⟨?_, ba (Below.refl _ _) _⟩
  rw [hv.out]
  congr 2
  rw [Bool.eq_iff_iff, beq_iff_eq, decide_eq_true_eq]
  exact bytes_eq s nm
set_option maxRecDepth 100000 in
set_option maxHeartbeats 1000000 in
theorem aindex (w : World) (X : Nat) (nm : ByteArray) (A' : Option Addr) (c' : Nat) (R : List Rg) (hR : Reads w w.heap.size 3 A' R.length (rgs R)) (hr : R.length ≤ 64) (hX : w.cell? ⟨X, 0, none⟩ = some (.string nm)) (hlt : X < w.heap.size) (hn : Hid (∀ y ∈ R, y.1 ≠ nm)) :
    Calls Tryd.prog 35 #[.slice A' R.length c', .func (.func 36) #[] #[.pointer (some ⟨X, 0, none⟩)]] w fun e w' => e = .returned (.int .i64 (-1)) ∧ Below w.heap.size w w' := by
  go_enter Tryd.func35, Tryd.ntmps35
  go_wp2
  go_loopw [8] (fun i wr => ∃ k : Nat, k ≤ R.length ∧ i = .int .i64 k ∧ Below w.heap.size w wr) (fun i _ => R.length - (intOf i).toNat)
  case atStart => exact ⟨0, Nat.zero_le _, rfl, Below.refl _ _⟩
  case round =>
    obtain ⟨k, hk, rfl, hbl⟩ := hrel
    by_cases hlk : k < R.length
    · have hRr := hR.go hbl
      obtain ⟨b, off, s, B, S, rfl, hb, d1, d2, d3, hd⟩ := rgAt hRr hlk
      have hX2 := Lib.hid ((hbl.cell (p := ⟨X, 0, none⟩) hlt).trans hX)
      have Hv := Lib.hid (show false = decide (((s, B, S) : Rg).1 = nm) from (decide_eq_false (hn.out _ (mem_drop hd))).symm)
      have Hlt := Lib.hid (Nat.lt_of_lt_of_le hlt hbl.size)
      clear hd
      go_wp2_with fail
      (with_reducible refine (aplace1 _ X nm (s, B, S) false Hv hX2.out Hlt.out).mono ?_); rintro e w1 ⟨rfl, hb1⟩
      have hB := bt hbl hb1
      go_wp2
      go_roundw
      case rel => exact ⟨k + 1, by omega, by go_num, hB⟩
      case measure => simp [intOf]; omega
    · go_wp2
      go_ret
      exact ⟨rfl, hbl⟩
set_option maxRecDepth 100000 in
theorem aplace (w : World) (p gc g : Nat) (A' : Option Addr) (c' : Nat) (R : List Rg) (h : w.heap[g]? = some (arO p gc (.slice A' R.length c') g)) (nm : ByteArray) (hR : Reads w w.heap.size 3 A' R.length (rgs R)) (hr : R.length ≤ 64) (hn : Hid (∀ y ∈ R, y.1 ≠ nm)) :
    Calls Tryd.prog 19 #[.pointer (some ⟨g, 0, none⟩), .string nm] w fun e w' => e = .returned (.int .i64 (-1)) ∧ Below w.heap.size w w' := by
  have h2 : (w.alloc (.cells #[.string nm] 9)).heap[g]? = some (arO p gc (.slice A' R.length c') g) := alloc_blk h
  obtain ⟨c2, c3, c4, f3, lt⟩ := ArI.of h2
  have hx := aindex (w.alloc (.cells #[.string nm] 9)) w.heap.size nm A' c' R (hR.al _) hr (Lib.cell_of_heap (alloc1_new _ _) 0) (by simp) hn
  have Hx := Lib.hid hx
  clear hx hR hn h
  go_enter Tryd.func19, Tryd.ntmps19
  go_wp2_with fail
  (with_reducible refine Hx.out.mono ?_); rintro e w1 ⟨rfl, hb1⟩
  have hB := bt (ba (Below.refl w.heap.size w) _) hb1
  go_wp2
  go_ret
  exact ⟨rfl, hB⟩
end Go.Proofs.YtmpdgckccgbdnaaDoor
