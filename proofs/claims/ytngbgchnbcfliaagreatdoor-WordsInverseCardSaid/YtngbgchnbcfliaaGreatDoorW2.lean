/- The reference's words: plain, hex, escaped, Quote. -/
import Derived.Test.YtngbgchnbcfliaaGreatDoorW1
import Derived.Lib.AppendStr
namespace Go.Proofs.YtngbgchnbcfliaaGreatDoor
open Go.RowKit
theorem ret_str {a b : ByteArray} (h : a = b) : Ending.returned (.string a) = .returned (.string b) := by rw [h]
/-- append(v, s...), s a string; short form -/
theorem wpList_aps {P : Program} {w : World} {ops : Array Oper} {rest : List Oper} {o : Oper} {a : Act} {Q : Exit → Act → World → Prop} {e t u : TypeId} (E : Elem P t e (.int .u8 0) 1 1) (hu : P.underlying u = some .string)
    {w0 : World} {v : Value} {n : Nat} {l : List UInt8} (hown : w.ownsRow w0.heap.size e 1 v n (bs8 l)) (hb : Below w0.heap.size w0 w)
    {s : ByteArray} {sl x : Operand}
    (h : ∀ v' w', w'.ownsRow w0.heap.size e 1 v' (n + s.size) (bs8 (l ++ s.data.toList)) → Below w0.heap.size w0 w' → w.grownBy w' v.ownBlock → wpList P ops Q rest (a.put o.dst v') w')
    (hgd : o.guard = none := by rfl) (ho : o.op = .call { callee := .builtin .append, args := #[sl, x], argTypes := #[t, u] } := by rfl)
    (hs : a.eval sl = v := by rfl) (hx : a.eval x = .string s := by rfl)
    (h63 : n + s.size ≤ 140737488355328 := by omega) : wpList P ops Q (o :: rest) a w := by
  obtain ⟨i, hi, hz, h1, h2⟩ := info_parts E.hi
  refine Lib.wpList_append_own_string w hgd sl x t u ho w0.heap.size e i E.ht hu hi hz h1 h2 v n (bs8 l) hs hown s hx (by unfold maxLen; omega) (by omega) hb.size ?_
  intro v' w' hown' hg' _
  refine h v' w' ?_ (below_own hb hown hg') hg'
  rw [bs8_app]
  exact hown'
/-- the conversion of bytes in a new block -/
theorem conv_new (w : World) (l : List UInt8) (n : Nat) (hn : n = l.length) :
    (convert 49 9 (.slice (some ⟨w.heap.size, 0, none⟩) n n)).run Tryz.prog (w.alloc (.cells (bs8 l).toArray 5)) = .ok (.string ⟨l.toArray⟩) (w.alloc (.cells (bs8 l).toArray 5)) := by
  subst hn
  have := reads_blkN (w := w.alloc (.cells (bs8 l).toArray 5)) (g := w.heap.size) (size := 1) (n := l.length) (cs := bs8 l) (t := 5) (alloc1_new _ _) (by simp [bs8])
  exact run_conv Tryz.underlying49 Tryz.underlying5 Tryz.underlying9 this
def escS (c : UInt8) : ByteArray := ⟨(escB c).toArray⟩
theorem escS_plain {c : UInt8} (h : plainB c = true) : escS c = ⟨#[c]⟩ := by unfold escS; rw [escB_plain h]
theorem escS_hex {c : UInt8} (h : ¬ plainB c = true) (h2 : letB c = 0) : escS c = ⟨#[92, 120]⟩ ++ ⟨#[hexB (c.toNat / 16), hexB (c.toNat % 16)]⟩ := by unfold escS; rw [escB_hex h h2]; rfl
theorem letB_cases {c : UInt8} (h : letB c ≠ 0) : c = 34 ∨ c = 92 ∨ c = 10 ∨ c = 13 ∨ c = 9 := by
  unfold letB at h
  by_cases h1 : c = 34
  · exact .inl h1
  by_cases h2 : c = 92
  · exact .inr (.inl h2)
  by_cases h3 : c = 10
  · exact .inr (.inr (.inl h3))
  by_cases h4 : c = 13
  · exact .inr (.inr (.inr (.inl h4)))
  by_cases h5 : c = 9
  · exact .inr (.inr (.inr (.inr h5)))
  simp [h1, h2, h3, h4, h5] at h
theorem letB_zero {c : UInt8} (h : letB c = 0) : (c.toNat : Int) ≠ 34 ∧ (c.toNat : Int) ≠ 92 ∧ (c.toNat : Int) ≠ 10 ∧ (c.toNat : Int) ≠ 13 ∧ (c.toNat : Int) ≠ 9 := by
  have hc := letB_toNat c
  rw [h] at hc
  unfold letC at hc
  refine ⟨fun e => ?_, fun e => ?_, fun e => ?_, fun e => ?_, fun e => ?_⟩ <;> rw [e] at hc <;> simp at hc
end Go.Proofs.YtngbgchnbcfliaaGreatDoor
