/- Rows of bits: strconv's text of a number to base 16. -/
import Derived.Test.YtaogplmcabbikaaGreatDoorB13
import Derived.Lib.ItoaMem
import Derived.Lib.ItoaWalk
namespace Go.Proofs.YtaogplmcabbikaaGreatDoor
open Go.RowKit
def hexTab : ByteArray := ⟨#[48, 49, 50, 51, 52, 53, 54, 55, 56, 57, 97, 98, 99, 100, 101, 102, 103, 104, 105, 106, 107, 108, 109, 110, 111, 112, 113, 114, 115, 116, 117, 118, 119, 120, 121, 122]⟩
def hd (d : Nat) : UInt8 := hexTab.data.getD d 0
def hx : Nat → Nat → List UInt8 → List UInt8
  | 0, u, s => hd u :: s
  | k + 1, u, s => if u < 16 then hd u :: s else hx k (u / 16) (hd (u % 16) :: s)
theorem hx_end {k u : Nat} {s : List UInt8} (h : u < 16) : hx k u s = hd u :: s := by
  cases k with
  | zero => rfl
  | succ k => rw [hx, if_pos h]
theorem hx_step {k u : Nat} {s : List UInt8} (h : ¬ u < 16) : hx (k + 1) u s = hx k (u / 16) (hd (u % 16) :: s) := by rw [hx, if_neg h]
/-- the text of a number to base 16 -/
def hexB (x : Nat) : List UInt8 := hx 16 x []
theorem hd_fin : ∀ d : Fin 16, hexTab.data[d.val]? = some (hd d.val) := by decide +kernel
theorem and15 (x : Nat) (hx : x < 18446744073709551616) : bits .and .u64 (x : Int) 15 = ((x % 16 : Nat) : Int) := by
  have := u64_and_nat x 15 hx (by decide)
  rw [show ((15 : Nat) : Int) = 15 from rfl] at this
  rw [this, Nat.and_two_pow_sub_one_eq_mod x 4]
theorem idx_hex {P : Program} (t : TypeId) (ht : P.underlying t = some .string) (k : IntKind) (i : Nat) (hi : i < 16) (w : World) :
    (Instr.index t (.string hexTab) (.int k (i : Int))).run P w = .ok (.int .u8 ((hd i).toNat : Int)) w := by
  rw [run_index_string w t hexTab k _ ht, dif_pos ⟨by omega, by show (i : Int) < ((36 : Nat) : Int); omega⟩]
  have h := hd_fin ⟨i, hi⟩
  have e : ((i : Int)).toNat = i := by omega
  simp only [e]
  have h2 : hexTab.data[i]? = some (hd i) := h
  have hlt : i < hexTab.data.size := by show i < 36; omega
  rw [Array.getElem?_eq_getElem hlt] at h2
  injection h2 with h2
  rw [← h2]
  rfl
/-- the cells behind place p hold these bytes; all 65 cells are there and may be written -/
structure Tail (w : World) (g p : Nat) (s : List UInt8) : Prop where
  len : s.length + p = 65
  at_ : ∀ j (hj : j < s.length), w.cell? ⟨g, p + j, none⟩ = some (.int .u8 ((s[j]).toNat : Int))
  has : ∀ j, j < 65 → (w.cell? ⟨g, j, none⟩).isSome = true ∧ w.frozen? ⟨g, j, none⟩ = false
  lt : g < w.heap.size
theorem Tail.push {w : World} {g p : Nat} {s : List UInt8} (h : Tail w g (p + 1) s) (b : UInt8) : Tail (w.setCell ⟨g, p, none⟩ (.int .u8 (b.toNat : Int))) g p (b :: s) := by
  have hl := h.len
  refine ⟨by simp; omega, fun j hj => ?_, fun j hj => ?_, by simpa using h.lt⟩
  · cases j with
    | zero => exact World.cell?_setCell_same' _ _ _ (h.has p (by omega)).1
    | succ j =>
      rw [World.cell?_setCell_other _ _ _ _ (by simp), List.getElem_cons_succ, show p + (j + 1) = p + 1 + j by omega]
      exact h.at_ j (by simpa using hj)
  · refine ⟨?_, by rw [World.frozen?_setCell]; exact (h.has j hj).2⟩
    by_cases e : p = j
    · subst e
      rw [World.cell?_setCell_same' _ _ _ (h.has p hj).1]; rfl
    · rw [World.cell?_setCell_other _ _ _ _ (by intro hh; injection hh with _ hh; exact e hh)]
      exact (h.has j hj).1
theorem Tail.new (w : World) (t : TypeId) : Tail (w.alloc (.cells (Array.replicate 65 (.int .u8 0)) t)) w.heap.size 65 [] := by
  refine ⟨rfl, fun j hj => absurd hj (by simp), fun j hj => ⟨?_, World.frozen?_alloc_new _ _ _ _⟩, by simp⟩
  rw [World.cell?_alloc_new, Array.getElem?_replicate, if_pos hj]
  rfl
end Go.Proofs.YtaogplmcabbikaaGreatDoor
