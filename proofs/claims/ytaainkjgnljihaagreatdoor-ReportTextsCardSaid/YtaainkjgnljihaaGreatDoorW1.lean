/- words: isPlain, letterOf, Quote. -/
import Derived.Test.YtaainkjgnljihaaGreatDoorMem
namespace Go.Proofs.YtaainkjgnljihaaGreatDoor
open Go.RowKit

def plainB (c : UInt8) : Bool := decide (32 ≤ (c.toNat : Int) ∧ (c.toNat : Int) ≤ 126 ∧ (c.toNat : Int) ≠ 34 ∧ (c.toNat : Int) ≠ 92)
def letB (c : UInt8) : UInt8 := if c = 34 then 34 else if c = 92 then 92 else if c = 10 then 110 else if c = 13 then 114 else if c = 9 then 116 else 0
def hexB (n : Nat) : UInt8 := [48, 49, 50, 51, 52, 53, 54, 55, 56, 57, 97, 98, 99, 100, 101, 102].getD n 0
def escB (c : UInt8) : List UInt8 := if plainB c = true then [c] else if letB c ≠ 0 then [92, letB c] else [92, 120, hexB (c.toNat / 16), hexB (c.toNat % 16)]
def quoteB (l : List UInt8) : List UInt8 := 34 :: (l.flatMap escB ++ [34])

def escCells : List Value := [.int .u8 34, .int .u8 34, .int .u8 92, .int .u8 92, .int .u8 10, .int .u8 110, .int .u8 13, .int .u8 114, .int .u8 9, .int .u8 116]
/-- the table of escapes stands -/
def Esc (w : World) : Prop := 2 < w.heap.size ∧ ∀ i : Nat, i < 10 → w.cell? ⟨2, i, none⟩ = escCells[i]?
theorem Esc.below {w w' : World} (h : Esc w) (hb : Below w.heap.size w w') : Esc w' :=
  ⟨Nat.lt_of_lt_of_le h.1 hb.size, fun i hi => (hb.cell (p := ⟨2, i, none⟩) h.1).trans (h.2 i hi)⟩

set_option maxHeartbeats 400000 in
theorem isPlain (c : UInt8) (w : World) :
    Calls Tryz.prog 88 #[.int .u8 (c.toNat : Int)] w fun e w' => e = .returned (.bool (plainB c)) ∧ w = w' := by
  have h : plainB c = decide (32 ≤ (c.toNat : Int) ∧ (c.toNat : Int) ≤ 126 ∧ (c.toNat : Int) ≠ 34 ∧ (c.toNat : Int) ≠ 92) := rfl
  have H := Lib.hid h
  clear h
  have hc := c.toNat_lt
  generalize hn : (c.toNat : Int) = n at *
  have h0 : 0 ≤ n := by omega
  have h1 : n ≤ 255 := by omega
  have Hn := Lib.hid hn
  clear hn hc
  go_enter Tryz.func88, Tryz.ntmps88
  go_wp2
  all_goals
    go_ret
    refine ⟨ret_bool ?_, rfl⟩
    rw [H.out, Bool.eq_iff_iff]
    first | (simp; done) | (simp; omega) | (simp_all; done) | (simp_all; omega)

def letC (n : Int) : Int := if n = 34 then 34 else if n = 92 then 92 else if n = 10 then 110 else if n = 13 then 114 else if n = 9 then 116 else 0
theorem letB_toNat (c : UInt8) : ((letB c).toNat : Int) = letC (c.toNat : Int) := by
  have h : ∀ n : Nat, n < 256 → ((letB (UInt8.ofNat n)).toNat : Int) = letC (n : Int) := by decide +kernel
  have := h c.toNat c.toNat_lt
  rwa [UInt8.ofNat_toNat] at this
def LetRel (n : Int) (k : Nat) : Prop := (0 < k → n ≠ 34) ∧ (1 < k → n ≠ 92) ∧ (2 < k → n ≠ 10) ∧ (3 < k → n ≠ 13) ∧ (4 < k → n ≠ 9)
theorem ret_u8 {k : IntKind} {a b : Int} (h : a = b) : Ending.returned (.int k a) = .returned (.int k b) := by rw [h]
theorem escAt0 (w : World) : (Instr.index 143 (.agg #[.int .u8 34, .int .u8 34, .int .u8 92, .int .u8 92, .int .u8 10, .int .u8 110, .int .u8 13, .int .u8 114, .int .u8 9, .int .u8 116]) (.int .i64 0)).run Tryz.prog w = .ok (.agg #[.int .u8 34, .int .u8 34]) w := by kernel_rfl
theorem escAt1 (w : World) : (Instr.index 143 (.agg #[.int .u8 34, .int .u8 34, .int .u8 92, .int .u8 92, .int .u8 10, .int .u8 110, .int .u8 13, .int .u8 114, .int .u8 9, .int .u8 116]) (.int .i64 1)).run Tryz.prog w = .ok (.agg #[.int .u8 92, .int .u8 92]) w := by kernel_rfl
theorem escAt2 (w : World) : (Instr.index 143 (.agg #[.int .u8 34, .int .u8 34, .int .u8 92, .int .u8 92, .int .u8 10, .int .u8 110, .int .u8 13, .int .u8 114, .int .u8 9, .int .u8 116]) (.int .i64 2)).run Tryz.prog w = .ok (.agg #[.int .u8 10, .int .u8 110]) w := by kernel_rfl
theorem escAt3 (w : World) : (Instr.index 143 (.agg #[.int .u8 34, .int .u8 34, .int .u8 92, .int .u8 92, .int .u8 10, .int .u8 110, .int .u8 13, .int .u8 114, .int .u8 9, .int .u8 116]) (.int .i64 3)).run Tryz.prog w = .ok (.agg #[.int .u8 13, .int .u8 114]) w := by kernel_rfl
theorem escAt4 (w : World) : (Instr.index 143 (.agg #[.int .u8 34, .int .u8 34, .int .u8 92, .int .u8 92, .int .u8 10, .int .u8 110, .int .u8 13, .int .u8 114, .int .u8 9, .int .u8 116]) (.int .i64 4)).run Tryz.prog w = .ok (.agg #[.int .u8 9, .int .u8 116]) w := by kernel_rfl
set_option maxRecDepth 100000 in
set_option maxHeartbeats 800000 in
theorem letterOf (c : UInt8) (w : World) (hE : Esc w) :
    Calls Tryz.prog 112 #[.int .u8 (c.toNat : Int)] w fun e w' => e = .returned (.int .u8 (letB c).toNat) ∧ Below w.heap.size w w' := by
  have c0 : w.cell? ⟨2, 0, none⟩ = some (.int .u8 34) := hE.2 _ (by decide)
  have c1 : w.cell? ⟨2, 1, none⟩ = some (.int .u8 34) := hE.2 _ (by decide)
  have c2 : w.cell? ⟨2, 2, none⟩ = some (.int .u8 92) := hE.2 _ (by decide)
  have c3 : w.cell? ⟨2, 3, none⟩ = some (.int .u8 92) := hE.2 _ (by decide)
  have c4 : w.cell? ⟨2, 4, none⟩ = some (.int .u8 10) := hE.2 _ (by decide)
  have c5 : w.cell? ⟨2, 5, none⟩ = some (.int .u8 110) := hE.2 _ (by decide)
  have c6 : w.cell? ⟨2, 6, none⟩ = some (.int .u8 13) := hE.2 _ (by decide)
  have c7 : w.cell? ⟨2, 7, none⟩ = some (.int .u8 114) := hE.2 _ (by decide)
  have c8 : w.cell? ⟨2, 8, none⟩ = some (.int .u8 9) := hE.2 _ (by decide)
  have c9 : w.cell? ⟨2, 9, none⟩ = some (.int .u8 116) := hE.2 _ (by decide)
  clear hE
  have hc := c.toNat_lt
  generalize hn : (c.toNat : Int) = n at *
  have h0 : 0 ≤ n := by omega
  have h1 : n ≤ 255 := by omega
  have Hl := Lib.hid (letB_toNat c)
  have Hn := Lib.hid hn
  clear hn hc
  go_enter Tryz.func112, Tryz.ntmps112
  go_wp2
  go_loopw [6] (fun i wr => ∃ k : Nat, k ≤ 5 ∧ i = .int .i64 k ∧ Below w.heap.size w wr ∧ LetRel n k) (fun i _ => 5 - (intOf i).toNat)
  case atStart => exact ⟨0, by omega, rfl, Below.refl _ _, by simp [LetRel]⟩
  case round =>
    obtain ⟨k, hk, rfl, hbl, hr⟩ := hrel
    have hs := hbl.size
    clear c0 c1 c2 c3 c4 c5 c6 c7 c8 c9
    rcases (show k = 0 ∨ k = 1 ∨ k = 2 ∨ k = 3 ∨ k = 4 ∨ k = 5 by omega) with rfl | rfl | rfl | rfl | rfl | rfl
    all_goals have a0 := escAt0; have a1 := escAt1; have a2 := escAt2; have a3 := escAt3; have a4 := escAt4
    all_goals go_wp2
    all_goals first
      | (go_roundw
         case rel =>
           have h2 := ne_of_beq_false ‹(_ == n) = false›
           first
             | refine ⟨1, by omega, rfl, hbl.alloc hs _, ?_⟩
             | refine ⟨2, by omega, rfl, hbl.alloc hs _, ?_⟩
             | refine ⟨3, by omega, rfl, hbl.alloc hs _, ?_⟩
             | refine ⟨4, by omega, rfl, hbl.alloc hs _, ?_⟩
             | refine ⟨5, by omega, rfl, hbl.alloc hs _, ?_⟩
           unfold LetRel at *
           omega
         case measure => simp [intOf])
      | (go_ret
         refine ⟨ret_u8 ?_, ?_⟩
         · rw [Hl.out]
           have := Hn.out
           unfold LetRel at hr
           first
             | (have h' := ‹(_ == n) = true›; have h2 := eq_of_beq h'; subst h2; rw [this]; rfl)
             | (rw [this]; unfold letC; rw [if_neg (by omega), if_neg (by omega), if_neg (by omega), if_neg (by omega), if_neg (by omega)])
         · first | exact hbl | exact hbl.alloc hs _)

theorem and15 (n : Nat) (h : n < 256) : bits BinOp.and IntKind.u8 (n : Int) 15 = ((n % 16 : Nat) : Int) := by
  have : ∀ n : Nat, n < 256 → bits BinOp.and IntKind.u8 (n : Int) 15 = ((n % 16 : Nat) : Int) := by decide +kernel
  exact this n h
theorem hexAt (i j : Nat) (h : i < (⟨#[48, 49, 50, 51, 52, 53, 54, 55, 56, 57, 97, 98, 99, 100, 101, 102]⟩ : ByteArray).size) (e : i = j) : (⟨#[48, 49, 50, 51, 52, 53, 54, 55, 56, 57, 97, 98, 99, 100, 101, 102]⟩ : ByteArray)[i] = hexB j := by
  subst e
  rw [byteAt_lt]
  rfl
def qB (l : List UInt8) : List UInt8 := 34 :: l.flatMap escB
theorem escB_len (c : UInt8) : (escB c).length ≤ 4 := by
  unfold escB
  split
  · simp
  · split <;> simp
theorem qB_len (l : List UInt8) : (qB l).length ≤ 1 + l.length * 4 := by
  induction l with
  | nil => simp [qB]
  | cons c r ih =>
    have := escB_len c
    unfold qB at *
    simp only [List.flatMap_cons, List.length_cons, List.length_append] at *
    omega
theorem qB_snoc (l : List UInt8) (c : UInt8) : qB (l ++ [c]) = qB l ++ escB c := by simp [qB]
theorem escB_plain {c : UInt8} (h : plainB c = true) : escB c = [c] := by rw [escB, if_pos h]
theorem escB_let {c : UInt8} (h : ¬ plainB c = true) (h2 : letB c ≠ 0) : escB c = [92, letB c] := by rw [escB, if_neg h, if_pos h2]
theorem escB_hex {c : UInt8} (h : ¬ plainB c = true) (h2 : letB c = 0) : escB c = [92, 120, hexB (c.toNat / 16), hexB (c.toNat % 16)] := by rw [escB, if_neg h, if_neg (by simp [h2])]
theorem byte_take (s : ByteArray) (k : Nat) (h : k < s.size) : s.data.toList.take (k + 1) = s.data.toList.take k ++ [s[k]] := by
  rw [List.take_succ_eq_append_getElem (by simpa using h)]; rfl
def QOwn (w wr : World) (v : Value) (l : List UInt8) : Prop := wr.ownsRow w.heap.size 5 1 v (qB l).length (bs8 (qB l))
theorem QOwn.next {w wr : World} {v : Value} {s : ByteArray} {k n : Nat} {e : List UInt8} {x : List Value} (hk : k < s.size) (he : escB s[k] = e) (hx : x = bs8 e) (hn : n = e.length)
    (h : wr.ownsRow w.heap.size 5 1 v ((qB (s.data.toList.take k)).length + n) (bs8 (qB (s.data.toList.take k)) ++ x)) : QOwn w wr v (s.data.toList.take (k + 1)) := by
  unfold QOwn
  rw [byte_take s k hk, qB_snoc, he, bs8_app, List.length_append, ← hx, ← hn]
  exact h

end Go.Proofs.YtaainkjgnljihaaGreatDoor
