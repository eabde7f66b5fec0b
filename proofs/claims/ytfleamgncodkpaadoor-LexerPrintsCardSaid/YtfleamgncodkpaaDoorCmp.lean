/- Comparing lists element by element. No condition. A call of a function, as one step of a region that draws its order (for go_region_law). Rows of bits: reading a bit. Rows of bits: how many bits of a word are 1. Rows of bits: Count of the program. -/
import Derived.Test.YtfleamgncodkpaaDoorApp
import Derived.Test.YtfleamgncodkpaaDoorOwn
import Derived.Laws.BitsAllLaws
import Derived.IntWalk
namespace Go.Proofs.YtfleamgncodkpaaDoor
open Go.RowKit
def CmpRel {α : Type} (l m : List α) (k : Nat) : Prop := l.take k = m.take k
theorem CmpRel.step {α : Type} {l m : List α} {k : Nat} {x y : α} (h : CmpRel l m k) (hl : Hid (l.drop k = x :: l.drop (k + 1))) (hm : Hid (m.drop k = y :: m.drop (k + 1))) (e : x = y) : CmpRel l m (k + 1) := by
  unfold CmpRel at *
  rw [take_of_drop hl.out, take_of_drop hm.out, h, e]
theorem CmpRel.stop {α : Type} {l m : List α} {k : Nat} {x y : α} (hl : Hid (l.drop k = x :: l.drop (k + 1))) (hm : Hid (m.drop k = y :: m.drop (k + 1))) (e : x ≠ y) : l ≠ m := by
  rintro rfl
  have := hl.out.symm.trans hm.out
  injection this with h1 _
  exact e h1
theorem CmpRel.done {α : Type} {l m : List α} {k : Nat} (h : CmpRel l m k) (hl : l.length ≤ k) (hm : m.length ≤ k) : l = m := by
  unfold CmpRel at h
  rwa [List.take_of_length_le hl, List.take_of_length_le hm] at h
theorem strAt {w : World} {B k : Nat} {A : Option Addr} {l : List ByteArray} (h : Reads w B 1 A l.length (l.map Value.string)) (hk : k < l.length) :
    ∃ b off s, A = some ⟨b, off, none⟩ ∧ b < B ∧ w.cell? ⟨b, off + k, none⟩ = some (.string s) ∧ Hid (l.drop k = s :: l.drop (k + 1)) := by
  obtain ⟨b, off, e, hb, hc⟩ := h.2 (by omega)
  exact ⟨b, off, _, e, hb, hc k _ (by rw [List.getElem?_map, List.getElem?_eq_getElem hk]; rfl), List.drop_eq_getElem_cons hk⟩
theorem ret_ne {α : Type} [DecidableEq α] {l m : List α} {b : Bool} (hb : b = false) (h : l ≠ m) : Ending.returned (.bool b) = .returned (.bool (decide (l = m))) := by
  rw [hb, decide_eq_false h]
theorem ret_eq {α : Type} [DecidableEq α] {l m : List α} {b : Bool} (hb : b = true) (h : l = m) : Ending.returned (.bool b) = .returned (.bool (decide (l = m))) := by
  rw [hb, decide_eq_true h]
theorem bytes_eq (b d : ByteArray) : (b.toList = d.toList) ↔ b = d := ⟨fun h => by rw [ByteArray.toList_eq, ByteArray.toList_eq] at h; exact ByteArray.ext (Array.toList_inj.1 h), fun h => by rw [h]⟩
theorem ret_dec {p : Prop} [Decidable p] {b : Bool} (h : (b = true) ↔ p) : Ending.returned (.bool b) = .returned (.bool (decide p)) := by
  congr 2
  rw [Bool.eq_iff_iff, h]
  simp

end Go.Proofs.YtfleamgncodkpaaDoor
namespace Go.Proofs.YtfleamgncodkpaaDoor
open Go.RowKit
theorem step_fn {P : Program} {w : World} {ops : Array Oper} {o : Oper} {a : Act} {K : Act → World → Prop} {Q : Exit → Act → World → Prop} {E0 : Prop} (f : FuncId) (xs : Array Operand) (ts : Array TypeId) (vs : Array Value) (R : Ending → World → Prop)
    (hcf : ∀ W, (callFunc f vs).run P W = .ok (.enter f vs) W) (h : Calls P f vs w R) (hR : ∀ e w', R e w' → ∃ v, e = .returned v ∧ K (a.put o.dst v) w')
    (hgd : o.guard = none := by rfl) (ho : o.op = .call { callee := .value (.func f), args := xs, argTypes := ts } := by rfl) (hx : xs.map a.eval = vs := by rfl) :
    if Region.wanted o (yielded ops a.tmps) = true then Oper.wp P o a w K Q else E0 := by
  have hw : Region.wanted o (yielded ops a.tmps) = true := by simp [Region.wanted, hgd]
  rw [if_pos hw]
  unfold Oper.wp execOp
  simp only [ho, resolve, invoke, Sem.run_bind, hx]
  have e1 : Sem.run P (Deferred.ofValue (a.eval (Operand.func f)) vs) w = .ok { target := .fn (.func f) #[], args := vs } w := by simp [Deferred.ofValue, Act.eval]
  rw [e1]
  simp only [Result.andThen_ok, Array.append_empty, hcf]
  rw [Oper.upon_enter]
  refine h.mono fun e w' hr => ?_
  obtain ⟨v, rfl, hk⟩ := hR e w' hr
  exact hk
/-- one argument, a value comes back -/
theorem step_fn1 {P : Program} {w : World} {ops : Array Oper} {o : Oper} {a : Act} {K : Act → World → Prop} {Q : Exit → Act → World → Prop} {E0 : Prop} (f : FuncId) {x : Operand} {ts : Array TypeId} (v : Value) {R : Ending → World → Prop}
    (hcf : ∀ vs W, (callFunc f vs).run P W = .ok (.enter f vs) W) (h : Calls P f #[v] w R) (hR : ∀ e w', R e w' → ∃ v, e = .returned v ∧ K (a.put o.dst v) w')
    (hgd : o.guard = none := by rfl) (ho : o.op = .call { callee := .value (.func f), args := #[x], argTypes := ts } := by rfl) (hx : a.eval x = v := by rfl) :
    if Region.wanted o (yielded ops a.tmps) = true then Oper.wp P o a w K Q else E0 :=
  step_fn f _ _ _ R (hcf _) h hR hgd ho (by simp [hx])
theorem cf_of {P : Program} {f : FuncId} {fn : Func} (hf : P.funcs[f]? = some fn) (h1 : (fn.name == "runtime.NumGoroutine") = false) (h2 : fn.body.isSome = true) (vs : Array Value) (W : World) : (callFunc f vs).run P W = .ok (.enter f vs) W := by
  have h1 : ¬ fn.name = "runtime.NumGoroutine" := by simpa using h1
  have h2 : ¬ fn.body = none := fun h => by rw [h] at h2; cases h2
  simp [callFunc, hf, h1, h2]
end Go.Proofs.YtfleamgncodkpaaDoor
namespace Go.Proofs.YtfleamgncodkpaaDoor
open Go.RowKit
def u64V (x : Nat) : Value := .int .u64 (x : Int)
abbrev u64s (l : List Nat) : List Value := l.map u64V
theorem u64At {w : World} {B k : Nat} {A : Option Addr} {l : List Nat} (h : Reads w B 1 A l.length (u64s l)) (hk : k < l.length) :
    ∃ b off, A = some ⟨b, off, none⟩ ∧ b < B ∧ w.cell? ⟨b, off + k, none⟩ = some (.int .u64 (l.getD k 0 : Nat)) := by
  obtain ⟨b, off, e, hb, hc⟩ := h.2 (by omega)
  exact ⟨b, off, e, hb, hc k _ (by rw [List.getElem?_map, List.getElem?_eq_getElem hk]; simp [u64V, hk])⟩
theorem wget {l : List Nat} (hw : W64 l) (k : Nat) : l.getD k 0 < 18446744073709551616 := by
  rcases Nat.lt_or_ge k l.length with h | h
  · simp only [List.getD_eq_getElem?_getD, List.getElem?_eq_getElem h]
    exact hw _ (List.getElem_mem h)
  · simp [h]
theorem wrap_u64 (n : Nat) (h : n < 18446744073709551616) : IntKind.u64.wrap (n : Int) = (n : Int) := by
  simp [IntKind.wrap, IntKind.bits, IntKind.signed]; omega
theorem u64_and_nat (a b : Nat) (ha : a < 18446744073709551616) (hb : b < 18446744073709551616) : bits .and .u64 (a : Int) (b : Int) = ((a &&& b : Nat) : Int) := by
  have hx : a &&& b < 18446744073709551616 := Nat.lt_of_le_of_lt Nat.and_le_left ha
  show IntKind.u64.wrap ((BitVec.ofInt 64 (a : Int) &&& BitVec.ofInt 64 (b : Int)).toNat : Int) = _
  rw [BitVec.toNat_and, ofInt_u64 a (by omega), ofInt_u64 b (by omega)]
  simp [IntKind.wrap, IntKind.bits, IntKind.signed]; omega
theorem u64_or_nat (a b : Nat) (ha : a < 18446744073709551616) (hb : b < 18446744073709551616) : bits .or .u64 (a : Int) (b : Int) = ((a ||| b : Nat) : Int) := by
  have hx : a ||| b < 2 ^ 64 := Nat.or_lt_two_pow ha hb
  show IntKind.u64.wrap ((BitVec.ofInt 64 (a : Int) ||| BitVec.ofInt 64 (b : Int)).toNat : Int) = _
  rw [BitVec.toNat_or, ofInt_u64 a (by omega), ofInt_u64 b (by omega)]
  simp [IntKind.wrap, IntKind.bits, IntKind.signed]; omega
theorem u64_xor_nat (a b : Nat) (ha : a < 18446744073709551616) (hb : b < 18446744073709551616) : bits .xor .u64 (a : Int) (b : Int) = ((a ^^^ b : Nat) : Int) := by
  have hx : a ^^^ b < 2 ^ 64 := Nat.xor_lt_two_pow ha hb
  show IntKind.u64.wrap ((BitVec.ofInt 64 (a : Int) ^^^ BitVec.ofInt 64 (b : Int)).toNat : Int) = _
  rw [BitVec.toNat_xor, ofInt_u64 a (by omega), ofInt_u64 b (by omega)]
  simp [IntKind.wrap, IntKind.bits, IntKind.signed]; omega
theorem bit_test (x n : Nat) (hx : x < 18446744073709551616) : (bits .and .u64 ((x : Int) / 2 ^ n) 1 == 1) = x.testBit n := by
  have h1 : ((x : Int) / 2 ^ n) = ((x / 2 ^ n : Nat) : Int) := by simp
  have h2 : x / 2 ^ n < 18446744073709551616 := Nat.lt_of_le_of_lt (Nat.div_le_self _ _) hx
  have h3 := u64_and_nat (x / 2 ^ n) 1 h2 (by omega)
  rw [h1]
  rw [show ((1 : Nat) : Int) = 1 from rfl] at h3
  rw [h3, Nat.and_one_is_mod, Nat.testBit_eq_decide_div_mod_eq, Bool.eq_iff_iff]
  simp
  omega
end Go.Proofs.YtfleamgncodkpaaDoor
namespace Go.Proofs.YtfleamgncodkpaaDoor
open Go.RowKit
def on1 (x : Nat) : Nat := ((x / 2) &&& 6148914691236517205) + (x &&& 6148914691236517205)
def on2 (x : Nat) : Nat := ((x / 4) &&& 3689348814741910323) + (x &&& 3689348814741910323)
def on3 (x : Nat) : Nat := (x / 16 + x) &&& 1085102592571150095
def on4 (x : Nat) : Nat := x + x / 256
def on5 (x : Nat) : Nat := x + x / 65536
def on6 (x : Nat) : Nat := x + x / 4294967296
def ones64 (x : Nat) : Nat := on6 (on5 (on4 (on3 (on2 (on1 x))))) % 128
theorem and127 (i : Nat) (hi : i < 9223372036854775808) : bits .and .i64 (i : Int) 127 = ((i % 128 : Nat) : Int) := by
  have hx : i &&& 127 = i % 128 := Nat.and_two_pow_sub_one_eq_mod i 7
  show IntKind.i64.wrap ((BitVec.ofInt 64 (i : Int) &&& BitVec.ofInt 64 ((127 : Nat) : Int)).toNat : Int) = _
  rw [BitVec.toNat_and, ofInt_u64 i (by omega), ofInt_u64 127 (by omega), hx]
  exact IntWalk.i64_in _ (by omega)
set_option maxRecDepth 100000 in
set_option maxHeartbeats 2000000 in
theorem ones64_ (w : World) (x : Nat) (hx : x < 18446744073709551616) :
    Calls Tryd.prog 63 #[.int .u64 x] w fun e w' => e = .returned (.int .i64 (ones64 x)) ∧ w = w' := by
  have e1 : bits .and .u64 ((x : Int) / 2) 6148914691236517205 = (((x / 2) &&& 6148914691236517205 : Nat) : Int) := u64_and_nat (x / 2) 6148914691236517205 (by omega) (by decide)
  have e2 : bits .and .u64 (x : Int) 6148914691236517205 = ((x &&& 6148914691236517205 : Nat) : Int) := u64_and_nat x 6148914691236517205 hx (by decide)
  have b1 : (x / 2) &&& 6148914691236517205 ≤ 6148914691236517205 := Nat.and_le_right
  have b2 : x &&& 6148914691236517205 ≤ 6148914691236517205 := Nat.and_le_right
  have H1 := Lib.hid (show on1 x = ((x / 2) &&& 6148914691236517205) + (x &&& 6148914691236517205) from rfl)
  generalize (x / 2) &&& 6148914691236517205 = A at *
  generalize x &&& 6148914691236517205 = B at *
  have e3 : bits .and .u64 (((A : Int) + B) / 4) 3689348814741910323 = ((((A + B) / 4) &&& 3689348814741910323 : Nat) : Int) := u64_and_nat ((A + B) / 4) 3689348814741910323 (by omega) (by decide)
  have e4 : bits .and .u64 ((A : Int) + B) 3689348814741910323 = (((A + B) &&& 3689348814741910323 : Nat) : Int) := u64_and_nat (A + B) 3689348814741910323 (by omega) (by decide)
  have b3 : ((A + B) / 4) &&& 3689348814741910323 ≤ 3689348814741910323 := Nat.and_le_right
  have b4 : (A + B) &&& 3689348814741910323 ≤ 3689348814741910323 := Nat.and_le_right
  have H2 := Lib.hid (show on2 (A + B) = (((A + B) / 4) &&& 3689348814741910323) + ((A + B) &&& 3689348814741910323) from rfl)
  generalize ((A + B) / 4) &&& 3689348814741910323 = C at *
  generalize (A + B) &&& 3689348814741910323 = D at *
  have e5 : bits .and .u64 (((C : Int) + D) / 16 + ((C : Int) + D)) 1085102592571150095 = ((((C + D) / 16 + (C + D)) &&& 1085102592571150095 : Nat) : Int) := u64_and_nat ((C + D) / 16 + (C + D)) 1085102592571150095 (by omega) (by decide)
  have b5 : (((C + D) / 16 + (C + D)) &&& 1085102592571150095) ≤ 1085102592571150095 := Nat.and_le_right
  have H3 := Lib.hid (show on3 (C + D) = (((C + D) / 16 + (C + D)) &&& 1085102592571150095) from rfl)
  generalize ((C + D) / 16 + (C + D)) &&& 1085102592571150095 = E at *
  have HR := Lib.hid (show ones64 x = on6 (on5 (on4 E)) % 128 by unfold ones64; rw [H1.out, H2.out, H3.out])
  go_enter Tryd.func63, Tryd.ntmps63
  go_wp2
  go_ret
  rw [HR.out]
  have h4 : on4 E = E + E / 256 := rfl
  generalize on4 E = F at *
  have h5 : on5 F = F + F / 65536 := rfl
  generalize on5 F = G at *
  have h6 : on6 G = G + G / 4294967296 := rfl
  generalize on6 G = K at *
  have h7 := and127 K (by omega)
  rw [← h7]
  have h8 : (E : Int) + E / 256 + (E + E / 256) / 65536 + (E + E / 256 + (E + E / 256) / 65536) / 4294967296 = (K : Int) := by omega
  have H8 := Lib.hid h8
  clear h4 h5 h6 h7 h8
  simp only [H8.out]
  exact ⟨rfl, trivial⟩
end Go.Proofs.YtfleamgncodkpaaDoor
namespace Go.Proofs.YtfleamgncodkpaaDoor
open Go.RowKit
def cntL (l : List Nat) : Nat := (l.map ones64).sum
theorem ones64_lt (x : Nat) : ones64 x < 128 := Nat.mod_lt _ (by decide)
theorem cntL_le (l : List Nat) : cntL l ≤ 128 * l.length := by
  unfold cntL
  induction l with
  | nil => simp
  | cons a l ih =>
    have := ones64_lt a
    simp only [List.map_cons, List.sum_cons, List.length_cons]
    omega
theorem cntL_succ {l : List Nat} {k : Nat} (hk : k < l.length) : cntL (l.take (k + 1)) = cntL (l.take k) + ones64 (l.getD k 0) := by
  unfold cntL
  have e : l.getD k 0 = l[k] := by simp [hk]
  rw [List.take_succ_eq_append_getElem hk, List.map_append, List.sum_append, e]
  simp only [List.map_cons, List.map_nil, List.sum_cons, List.sum_nil, Nat.add_zero]
end Go.Proofs.YtfleamgncodkpaaDoor
