/- A builder of the call's own with the text so far: WriteString, WriteByte, String. -/
import Derived.Test.YtaainkjgnljihaaGreatDoorBld
import Derived.Test.YtaainkjgnljihaaGreatDoorShelf
import Derived.Test.YtaainkjgnljihaaGreatDoorMem
import Derived.WalkSmall
namespace Go.Proofs.YtaainkjgnljihaaGreatDoor
open Go.RowKit
set_option maxHeartbeats 2000000 in
set_option maxRecDepth 100000 in
theorem writeByte_k (B b : Nat) (bs : List Value) (c : Int) (w : World) (h : Lib.IsBuilderF bT bE B b bs w) (hlen : bs.length + 1 ≤ 140737488355328) (hBw : B ≤ w.heap.size) :
    Calls Tryz.prog 17 #[.pointer (some ⟨b, 0, none⟩), .int .u8 c] w fun e w' => e = .returned .nilIface ∧ (Lib.IsBuilderF bT bE B b (bs ++ [.int .u8 c]) w' ∧ Below B w w' ∧ Lib.OthersKept bE (some b) w w') := by
  obtain ⟨i0, hi, hz0, hz1, hz2⟩ := info_parts u8Info
  go_enter Tryz.func17, Tryz.ntmps17
  go_wp2_with (go_at_call 34; refine (copyCheck_k B b bs _ h).mono ?_)
  rintro e w1 ⟨rfl, h1, hb1, hk1⟩
  obtain ⟨hB, v, hbk, hown, hne⟩ := h1
  have hlt : b < w1.heap.size := heap_lt hbk
  have c0 : w1.cell? ⟨b, 0, none⟩ = some (.pointer (some ⟨b, 0, none⟩)) := by rw [Lib.cell_of_heap hbk]; rfl
  have c1 : w1.cell? ⟨b, 1, none⟩ = some v := by rw [Lib.cell_of_heap hbk]; rfl
  have hB1 : B ≤ w1.heap.size := by have := hb1.size; omega
  have hown1 := hown.alloc (.cells #[.int .u8 c] bE)
  have hn1 : (w1.alloc (.cells #[.int .u8 c] bE)).heap[w1.heap.size]? = some (.cells #[.int .u8 c] bE (0, 0)) := alloc1_new _ _
  have hbk1 : (w1.alloc (.cells #[.int .u8 c] bE)).heap[b]? = some (.cells #[.pointer (some ⟨b, 0, none⟩), v] bT (0, 0)) := alloc_blk hbk
  go_wp2_with (at_builtin; go_loud (refine Go.wpList_append_ownF _ rfl _ _ 35 rfl B bE i0 (.int .u8 0) 1 1 Tryz.underlying35 hi hz0 hz1 hz2 rfl (by decide) _ _ _ rfl hown1 ⟨w1.heap.size, 0, none⟩ 1 1 [.int .u8 c] rfl rfl ?c1 ?c2 ?c3 ?c4 ?c5 ?_))
  case c1 =>
    intro j u hj
    rw [add_lit, Lib.cell_of_heap hn1]
    simpa using hj
  case c2 => intro u hu; rw [List.mem_singleton.1 hu]; rfl
  case c3 => unfold maxLen; omega
  case c4 => omega
  case c5 => simp; omega
  intro v' w2 hown' hgrow _
  have hlt1 : b < (w1.alloc (.cells #[.int .u8 c] bE)).heap.size := heap_lt hbk1
  have hb2 : w2.heap[b]? = some (.cells #[.pointer (some ⟨b, 0, none⟩), v] bT (0, 0)) := by
    rw [hgrow.block b hlt1 (fun e => hne e.symm)]
    exact hbk1
  have d0 : w2.cell? ⟨b, 0, none⟩ = some (.pointer (some ⟨b, 0, none⟩)) := by rw [Lib.cell_of_heap hb2]; rfl
  have d1 : w2.cell? ⟨b, 1, none⟩ = some v := by rw [Lib.cell_of_heap hb2]; rfl
  have f1 : w2.frozen? ⟨b, 1, none⟩ = false := Lib.frozen_of_heap hb2 1
  obtain ⟨ao, n', cap, rfl⟩ : ∃ ao n' cap, v' = .slice ao n' cap := by
    rcases hown'.2 with ⟨hv, _⟩ | ⟨g, cap, cur, fz, hv, _⟩
    · exact ⟨_, _, _, hv⟩
    · exact ⟨_, _, _, hv⟩
  go_wp2
  go_ret
  refine ⟨rfl, .inr ?_, ?_, ((hk1.alloc _).grown hgrow (Lib.ownsRowF_kind hown1)).setCell ⟨b, 1, none⟩ rfl _⟩
  · exact Lib.BuilderAtF.put (T := bT) (e := bE) hB hb2 (bs' := bs ++ [.int .u8 c]) (by simpa using hown') bneE
  · exact ((hb1.alloc hB1 _).grown hgrow (by simp; omega) (fun k hk => (hown1.lt k hk).1)).setCell (p := ⟨b, 1, none⟩) hB _
theorem others_below {w w' : World} {b : Option Nat} (hb : Below w.heap.size w w') : Lib.OthersKept bE b w w' := fun k o hk _ _ => (hb.block k (heap_lt hk)).trans hk
/-- a builder of the call's own with the text so far -/
def Bl (w wr : World) (b : Nat) (l : List UInt8) : Prop := Lib.IsBuilderF bT bE w.heap.size b (Lib.byteCells l) wr
theorem Bl.write {w w' : World} {b : Nat} {l : List UInt8} {s : ByteArray} (h : Lib.IsBuilderF bT bE w.heap.size b (Lib.byteCells l ++ Lib.strCells s) w') : Bl w w' b (l ++ s.data.toList) := by
  unfold Bl
  rw [Lib.byteCells_append]
  exact h
theorem bl_write (w wr : World) (b : Nat) (l : List UInt8) (s : ByteArray) (h : Bl w wr b l) (hb : Below w.heap.size w wr) (hlen : l.length + s.size ≤ 140737488355328) :
    Calls Tryz.prog 15 #[.pointer (some ⟨b, 0, none⟩), .string s] wr fun e w' => e = .returned (.tuple #[.int .i64 s.size, .nilIface]) ∧ Bl w w' b (l ++ s.data.toList) ∧ Below w.heap.size w w' ∧ Lib.OthersKept bE (some b) wr w' :=
  (writeString_k w.heap.size b _ s wr h (by rw [Lib.byteCells_length]; omega) hb.size).mono fun _ _ ⟨h1, h2, h3, h4⟩ => ⟨h1, Bl.write h2, hb.trans h3, h4⟩
theorem bl_string (w wr : World) (b : Nat) (l : List UInt8) (h : Bl w wr b l) (hb : Below w.heap.size w wr) :
    Calls Tryz.prog 18 #[.pointer (some ⟨b, 0, none⟩)] wr fun e w' => e = .returned (.string ⟨l.toArray⟩) ∧ Bl w w' b l ∧ Below w.heap.size w w' ∧ Lib.OthersKept bE (some b) wr w' :=
  (Tryz.Builder_String_any_k w.heap.size b l wr h hb.size).mono fun _ _ ⟨h1, h2, h3, h4⟩ => ⟨h1, h2, hb.trans h3, h4⟩
theorem Bl.below {w wr w' : World} {b : Nat} {l : List UInt8} (h : Bl w wr b l) (hb : Below wr.heap.size wr w') : Bl w w' b l := bld_below h hb
theorem Bl.alloc {w wr : World} {b : Nat} {l : List UInt8} (h : Bl w wr b l) (o : Obj) : Bl w (wr.alloc o) b l := Lib.IsBuilderF.alloc h o
theorem bl_byte (w wr : World) (b : Nat) (l : List UInt8) (c : UInt8) (h : Bl w wr b l) (hb : Below w.heap.size w wr) (hlen : l.length + 1 ≤ 140737488355328) :
    Calls Tryz.prog 17 #[.pointer (some ⟨b, 0, none⟩), .int .u8 c.toNat] wr fun e w' => e = .returned .nilIface ∧ Bl w w' b (l ++ [c]) ∧ Below w.heap.size w w' ∧ Lib.OthersKept bE (some b) wr w' :=
  (writeByte_k w.heap.size b _ c.toNat wr h (by rw [Lib.byteCells_length]; omega) hb.size).mono fun _ _ ⟨h1, h2, h3, h4⟩ => ⟨h1, by unfold Bl; rw [Lib.byteCells_append]; exact h2, hb.trans h3, h4⟩
end Go.Proofs.YtaainkjgnljihaaGreatDoor
