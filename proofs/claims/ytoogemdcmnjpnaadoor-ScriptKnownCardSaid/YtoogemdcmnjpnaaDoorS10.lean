/- What the laws on scripts share. -/
import Derived.Test.YtoogemdcmnjpnaaDoorOpenSc
import Derived.Test.YtoogemdcmnjpnaaDoorS9
namespace Go.Proofs.YtoogemdcmnjpnaaDoor
open Go.RowKit
theorem far (w : World) (A : Option Addr) (c : Nat) (l : List Sc) (h : IsSc w A l) :
    Calls Tryd.prog 12 #[.slice A l.length c] w fun e w' => e = .returned (.bool (farB l)) ∧ w = w' := far_any w _ A c l h.rd h.len h.sz
theorem equal_ (w : World) (A A' : Option Addr) (c c' : Nat) (l m : List Sc) (h : Reads w w.heap.size 2 A l.length (scs l)) (h' : Reads w w.heap.size 2 A' m.length (scs m)) (hl : l.length ≤ 9223372036854775807) :
    Calls Tryd.prog 18 #[.slice A l.length c, .slice A' m.length c'] w fun e w' => e = .returned (.bool (decide (l = m))) ∧ Below w.heap.size w w' := equal_any w _ _ A A' c c' l m h h' hl
theorem strings_ (w : World) (A A' : Option Addr) (c c' : Nat) (l m : List ByteArray) (h : Reads w w.heap.size 1 A l.length (l.map Value.string)) (h' : Reads w w.heap.size 1 A' m.length (m.map Value.string)) (hl : l.length ≤ 9223372036854775807) :
    Calls Tryd.prog 19 #[.slice A l.length c, .slice A' m.length c'] w fun e w' => e = .returned (.bool (decide (l = m))) ∧ Below w.heap.size w w' := strings_any w _ _ A A' c c' l m h h' hl
theorem equal_same (w : World) (A A' : Option Addr) (c c' : Nat) (l : List Sc) (h : Reads w w.heap.size 2 A l.length (scs l)) (h' : Reads w w.heap.size 2 A' l.length (scs l)) (hl : l.length ≤ 9223372036854775807) :
    Calls Tryd.prog 18 #[.slice A l.length c, .slice A' l.length c'] w fun e w' => e = .returned (.bool true) ∧ Below w.heap.size w w' := by
  have := equal_ w A A' c c' l l h h' hl
  rw [decide_eq_true rfl] at this
  exact this
theorem strings_same (w : World) (A A' : Option Addr) (c c' : Nat) (l : List ByteArray) (h : Reads w w.heap.size 1 A l.length (l.map Value.string)) (h' : Reads w w.heap.size 1 A' l.length (l.map Value.string)) (hl : l.length ≤ 9223372036854775807) :
    Calls Tryd.prog 19 #[.slice A l.length c, .slice A' l.length c'] w fun e w' => e = .returned (.bool true) ∧ Below w.heap.size w w' := by
  have := strings_ w A A' c c' l l h h' hl
  rw [decide_eq_true rfl] at this
  exact this
theorem mask_len {l : List Sc} {s : ByteArray} : (mask l s).length ≤ l.length := by
  by_cases h : maskErr l s = 0
  · rw [mask_pos h, maskFrom_length]; exact Nat.le_refl _
  · rw [mask_neg h]; simp
theorem streamsFrom_len (c : ByteArray) (l : List Sc) : (streamsFrom c l).length ≤ l.length + 1 := by
  induction l generalizing c with
  | nil => simp [streamsFrom]
  | cons x r ih =>
    rw [streamsFrom]
    split
    · simp
    · split
      · have := ih x.2; simp; omega
      · have := ih (c ++ x.2); simp; omega
theorem streams_len (l : List Sc) : (streams l).length ≤ l.length + 1 := by
  unfold streams
  split
  · exact streamsFrom_len _ _
  · simp
theorem shape_same (w : World) (A A' : Option Addr) (c c' : Nat) (l : List Sh) (h : Reads w w.heap.size 2 A l.length (shs l)) (h' : Reads w w.heap.size 2 A' l.length (shs l)) (hl : l.length ≤ 9223372036854775807) :
    Calls Tryd.prog 24 #[.slice A l.length c, .slice A' l.length c'] w fun e w' => e = .returned (.bool true) ∧ Below w.heap.size w w' := by
  have := sameShape_any w _ _ A A' c c' l l h h' hl
  rw [decide_eq_true rfl] at this
  exact this
theorem farB_len {l : List Sc} (h : farB l = false) : l.length ≤ 210 := by
  unfold farB at h
  simp at h
  exact h.1
theorem wf64 {n : Int} (h : (Lit.int .i64 n).wf = true) : -9223372036854775808 ≤ n ∧ n ≤ 9223372036854775807 := by
  simpa [Lit.wf, IntKind.min, IntKind.max, IntKind.signed, IntKind.bits] using h
end Go.Proofs.YtoogemdcmnjpnaaDoor
