/- Comparing lists element by element. No condition. -/
import Derived.Test.YtmpdgckccgbdnaaDoorFr
namespace Go.Proofs.YtmpdgckccgbdnaaDoor
open Go.RowKit
def CmpRel {α : Type} (l m : List α) (k : Nat) : Prop := l.take k = m.take k
theorem CmpRel.step {α : Type} {l m : List α} {k : Nat} {x y : α} (h : CmpRel l m k) (hl : Hid (l.drop k = x :: l.drop (k + 1))) (hm : Hid (m.drop k = y :: m.drop (k + 1))) (e : x = y) : CmpRel l m (k + 1) := by
  unfold CmpRel at *
  rw [take_of_drop hl.out, take_of_drop hm.out, h, e]
theorem CmpRel.stop {α : Type} {l m : List α} {k : Nat} {x y : α} (hl : Hid (l.drop k = x :: l.drop (k + 1))) (hm : Hid (m.drop k = y :: m.drop (k + 1))) (e : x ≠ y) : l ≠ m := by
  rintro rfl
  have := hl.out.symm.trans hm.out
  injection this with h1 _
  exact e h1
theorem CmpRel.done {α : Type} {l m : List α} {k : Nat} (h : CmpRel l m k) (hl : l.length ≤ k) (hm : m.length ≤ k) : l = m := by
  unfold CmpRel at h
  rwa [List.take_of_length_le hl, List.take_of_length_le hm] at h
theorem strAt {w : World} {B k : Nat} {A : Option Addr} {l : List ByteArray} (h : Reads w B 1 A l.length (l.map Value.string)) (hk : k < l.length) :
    ∃ b off s, A = some ⟨b, off, none⟩ ∧ b < B ∧ w.cell? ⟨b, off + k, none⟩ = some (.string s) ∧ Hid (l.drop k = s :: l.drop (k + 1)) := by
  obtain ⟨b, off, e, hb, hc⟩ := h.2 (by omega)
  exact ⟨b, off, _, e, hb, hc k _ (by rw [List.getElem?_map, List.getElem?_eq_getElem hk]; rfl), List.drop_eq_getElem_cons hk⟩
theorem ret_ne {α : Type} [DecidableEq α] {l m : List α} {b : Bool} (hb : b = false) (h : l ≠ m) : Ending.returned (.bool b) = .returned (.bool (decide (l = m))) := by
  rw [hb, decide_eq_false h]
theorem ret_eq {α : Type} [DecidableEq α] {l m : List α} {b : Bool} (hb : b = true) (h : l = m) : Ending.returned (.bool b) = .returned (.bool (decide (l = m))) := by
  rw [hb, decide_eq_true h]
theorem bytes_eq (b d : ByteArray) : (b.toList = d.toList) ↔ b = d := ⟨fun h => by rw [ByteArray.toList_eq, ByteArray.toList_eq] at h; exact ByteArray.ext (Array.toList_inj.1 h), fun h => by rw [h]⟩
theorem ret_dec {p : Prop} [Decidable p] {b : Bool} (h : (b = true) ↔ p) : Ending.returned (.bool b) = .returned (.bool (decide p)) := by
  congr 2
  rw [Bool.eq_iff_iff, h]
  simp

end Go.Proofs.YtmpdgckccgbdnaaDoor
