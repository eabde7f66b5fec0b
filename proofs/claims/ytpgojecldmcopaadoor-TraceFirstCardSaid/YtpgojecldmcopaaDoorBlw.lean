/- A builder of the call's own with the text so far: WriteString, String. -/
import Derived.Test.YtpgojecldmcopaaDoorBld
import Derived.Test.YtpgojecldmcopaaDoorShelf
import Derived.Test.YtpgojecldmcopaaDoorFr
import Derived.WalkSmall
namespace Go.Proofs.YtpgojecldmcopaaDoor
open Go.RowKit
theorem others_below {w w' : World} {b : Option Nat} (hb : Below w.heap.size w w') : Lib.OthersKept bE b w w' := fun k o hk _ _ => (hb.block k (heap_lt hk)).trans hk
/-- a builder of the call's own with the text so far -/
def Bl (w wr : World) (b : Nat) (l : List UInt8) : Prop := Lib.IsBuilderF bT bE w.heap.size b (Lib.byteCells l) wr
theorem Bl.write {w w' : World} {b : Nat} {l : List UInt8} {s : ByteArray} (h : Lib.IsBuilderF bT bE w.heap.size b (Lib.byteCells l ++ Lib.strCells s) w') : Bl w w' b (l ++ s.data.toList) := by
  unfold Bl
  rw [Lib.byteCells_append]
  exact h
theorem bl_write (w wr : World) (b : Nat) (l : List UInt8) (s : ByteArray) (h : Bl w wr b l) (hb : Below w.heap.size w wr) (hlen : l.length + s.size ≤ 140737488355328) :
    Calls Tryd.prog 16 #[.pointer (some ⟨b, 0, none⟩), .string s] wr fun e w' => e = .returned (.tuple #[.int .i64 s.size, .nilIface]) ∧ Bl w w' b (l ++ s.data.toList) ∧ Below w.heap.size w w' ∧ Lib.OthersKept bE (some b) wr w' :=
  (writeString_k w.heap.size b _ s wr h (by rw [Lib.byteCells_length]; omega) hb.size).mono fun _ _ ⟨h1, h2, h3, h4⟩ => ⟨h1, Bl.write h2, hb.trans h3, h4⟩
theorem bl_string (w wr : World) (b : Nat) (l : List UInt8) (h : Bl w wr b l) (hb : Below w.heap.size w wr) :
    Calls Tryd.prog 19 #[.pointer (some ⟨b, 0, none⟩)] wr fun e w' => e = .returned (.string ⟨l.toArray⟩) ∧ Bl w w' b l ∧ Below w.heap.size w w' ∧ Lib.OthersKept bE (some b) wr w' :=
  (Tryd.Builder_String_any_k w.heap.size b l wr h hb.size).mono fun _ _ ⟨h1, h2, h3, h4⟩ => ⟨h1, h2, hb.trans h3, h4⟩
theorem Bl.below {w wr w' : World} {b : Nat} {l : List UInt8} (h : Bl w wr b l) (hb : Below wr.heap.size wr w') : Bl w w' b l := bld_below h hb
theorem Bl.alloc {w wr : World} {b : Nat} {l : List UInt8} (h : Bl w wr b l) (o : Obj) : Bl w (wr.alloc o) b l := Lib.IsBuilderF.alloc h o
end Go.Proofs.YtpgojecldmcopaaDoor
