/- More plain words for memory: []byte to string, make, frames. -/
import Derived.Test.YtmpdgckccgbdnaaDoorMem
import Derived.Laws.BytesArg
namespace Go.Proofs.YtmpdgckccgbdnaaDoor
open Go.RowKit
theorem strOfNums_bytes (l : List UInt8) : strOfNums (l.map fun b => ((b.toNat : Nat) : Int)) = ⟨l.toArray⟩ := by
  apply ByteArray.ext
  apply Array.toList_inj.1
  rw [strOfNums_data]
  simp only [List.map_map]
  rw [show ((fun n : Int => UInt8.ofNat n.toNat) ∘ fun b : UInt8 => ((b.toNat : Nat) : Int)) = id from by funext b; simp]
  simp
/-- a []byte that reads as the bytes l, turned to a string -/
theorem run_conv {P : Program} {src dst e : TypeId} (hs : P.underlying src = some (.slice e)) (he : P.underlying e = some (.int .u8)) (hd : P.underlying dst = some .string) {w : World} {B n c : Nat} {A : Option Addr} {l : List UInt8}
    (h : Reads w B 1 A n (l.map fun b => Value.int .u8 (b.toNat : Int))) : (convert src dst (.slice A n c)).run P w = .ok (.string ⟨l.toArray⟩) w := by
  have hl : l.length = n := by simpa using h.1
  rcases Nat.eq_zero_or_pos n with h0 | h0
  · subst h0
    have : l = [] := List.eq_nil_of_length_eq_zero hl
    subst this
    cases A with
    | none => exact run_convert_bytes_nil w src e hs he 0 c dst hd
    | some ad =>
      rw [run_convert_bytes_string w src dst e _ 0 c hs he hd]
      rw [run_bytesToString w ad 0 c [] (by simp [loadCells, loadCellsFrom])]
      rfl
  · obtain ⟨b, off, rfl, _, hc⟩ := h.2 h0
    rw [← strOfNums_bytes]
    refine run_convert_bytes_arg w src e hs he b off n c _ (by simpa using hl) (fun i hi => ?_) dst hd
    have hi' : i < l.length := by omega
    rw [hc i (.int .u8 (l[i].toNat : Int)) (by simp [hi'])]
    simp [List.getD, hi']
theorem run_make_rowN {P : Program} (t e : TypeId) (i : TypeInfo) (z : Value) (ht : P.underlying t = some (.slice e)) (hi : P.info? e = some i) (hz : i.zero = some z)
    (kl kc : IntKind) (n c : Nat) (hnc : n ≤ c) (hbytes : i.bytes * c ≤ 281474976710656) (h63 : c ≤ 9223372036854775807) (w : World) :
    (Instr.makeSlice t (.int kl (n : Int)) (.int kc (c : Int))).run P w = .ok (.slice (some ⟨w.heap.size, 0, none⟩) n c) (w.alloc (.cells (madeCells z.cells (c * i.size)) e)) := by
  have hb : (i.bytes : Int) * (c : Int) ≤ 281474976710656 := by
    have h : ((i.bytes * c : Nat) : Int) ≤ 281474976710656 := by omega
    rwa [Int.natCast_mul] at h
  have hr := run_make (P := P) w t e i z ht hi hz kl kc n c (by omega) (by omega) hb (by omega)
  simp only [Int.toNat_natCast] at hr
  exact hr
/-- make([]T, n, c): one equation for each world -/
theorem run_mk {P : Program} {t e : TypeId} {z : Value} {size bytes : Nat} (E : Elem P t e z size bytes) (kl kc : IntKind) (n c : Nat) (hnc : n ≤ c) (hbytes : bytes * c ≤ 281474976710656) (h63 : c ≤ 9223372036854775807) (w : World) :
    (Instr.makeSlice t (.int kl (n : Int)) (.int kc (c : Int))).run P w = .ok (.slice (some ⟨w.heap.size, 0, none⟩) n c) (w.alloc (.cells (madeCells z.cells (c * size)) e)) := by
  obtain ⟨i, hi, hz0, hz1, hz2⟩ := info_parts E.hi
  subst hz1 hz2
  exact run_make_rowN t e i z E.ht hi hz0 kl kc n c hnc hbytes h63 w
/-- everything but the blocks of X stands -/
def KeepX (X : Nat → Prop) (w w' : World) : Prop := w.heap.size ≤ w'.heap.size ∧ ∀ g, g < w.heap.size → ¬ X g → w'.heap[g]? = w.heap[g]?
theorem KeepX.refl (X : Nat → Prop) (w : World) : KeepX X w w := ⟨Nat.le_refl _, fun _ _ _ => rfl⟩
theorem KeepX.trans {X : Nat → Prop} {a b c : World} (h : KeepX X a b) (k : KeepX X b c) : KeepX X a c :=
  ⟨Nat.le_trans h.1 k.1, fun g hg hX => (k.2 g (Nat.lt_of_lt_of_le hg h.1) hX).trans (h.2 g hg hX)⟩
theorem KeepX.setCell {X : Nat → Prop} {a w : World} (h : KeepX X a w) {p : Addr} (hp : X p.block) (u : Value) : KeepX X a (w.setCell p u) :=
  ⟨by simpa [World.setCell] using h.1, fun g hg hX => (Below.heap_setCell w p u g (fun e => hX (e ▸ hp))).trans (h.2 g hg hX)⟩
theorem KeepX.drewN {X : Nat → Prop} {a w : World} (h : KeepX X a w) (n : Nat) : KeepX X a (w.drewN n) := h
theorem KeepX.alloc {X : Nat → Prop} {a w : World} (h : KeepX X a w) (o : Obj) : KeepX X a (w.alloc o) :=
  ⟨Nat.le_trans h.1 (by simp), fun g hg hX => (Below.heap_alloc w o g (Nat.lt_of_lt_of_le hg h.1)).trans (h.2 g hg hX)⟩
theorem KeepX.own {X : Nat → Prop} {w w' : World} (h : KeepX X w w') {base : Nat} {e : TypeId} {size n : Nat} {v : Value} {xs : List Value} (hown : w.ownsRow base e size v n xs) (hX : ∀ g, v.ownBlock = some g → ¬ X g) : w'.ownsRow base e size v n xs := by
  refine ⟨hown.1, ?_⟩
  rcases hown.2 with hn | ⟨g, cap, cur, rfl, hbg, hg, rest⟩
  · exact .inl hn
  · have hlt : g < w.heap.size := by
      rcases Nat.lt_or_ge g w.heap.size with h' | h'
      · exact h'
      · simp [Array.getElem?_eq_none h'] at hg
    exact .inr ⟨g, cap, cur, rfl, hbg, (h.2 g hlt (hX g rfl)).trans hg, rest⟩
end Go.Proofs.YtmpdgckccgbdnaaDoor
