/- Comparing lists element by element. No condition. A call of a function, as one step of a region that draws its order (for go_region_law). Rows of bits: reading a bit. Rows of bits: how many bits of a word are 1. Rows of bits: Count of the program. Sets of bytes as values: four words; boxes of them. No condition. -/
import Derived.Test.YtcopnpllaoahaaaGreatDoorApp
import Derived.Test.YtcopnpllaoahaaaGreatDoorOwn
import Derived.Laws.BitsAllLaws
import Derived.IntWalk
import Derived.Test.YtcopnpllaoahaaaGreatDoorK1
namespace Go.Proofs.YtcopnpllaoahaaaGreatDoor
open Go.RowKit
def CmpRel {α : Type} (l m : List α) (k : Nat) : Prop := l.take k = m.take k
theorem CmpRel.step {α : Type} {l m : List α} {k : Nat} {x y : α} (h : CmpRel l m k) (hl : Hid (l.drop k = x :: l.drop (k + 1))) (hm : Hid (m.drop k = y :: m.drop (k + 1))) (e : x = y) : CmpRel l m (k + 1) := by
  unfold CmpRel at *
  rw [take_of_drop hl.out, take_of_drop hm.out, h, e]
theorem CmpRel.stop {α : Type} {l m : List α} {k : Nat} {x y : α} (hl : Hid (l.drop k = x :: l.drop (k + 1))) (hm : Hid (m.drop k = y :: m.drop (k + 1))) (e : x ≠ y) : l ≠ m := by
  rintro rfl
  have := hl.out.symm.trans hm.out
  injection this with h1 _
  exact e h1
theorem CmpRel.done {α : Type} {l m : List α} {k : Nat} (h : CmpRel l m k) (hl : l.length ≤ k) (hm : m.length ≤ k) : l = m := by
  unfold CmpRel at h
  rwa [List.take_of_length_le hl, List.take_of_length_le hm] at h
theorem strAt {w : World} {B k : Nat} {A : Option Addr} {l : List ByteArray} (h : Reads w B 1 A l.length (l.map Value.string)) (hk : k < l.length) :
    ∃ b off s, A = some ⟨b, off, none⟩ ∧ b < B ∧ w.cell? ⟨b, off + k, none⟩ = some (.string s) ∧ Hid (l.drop k = s :: l.drop (k + 1)) := by
  obtain ⟨b, off, e, hb, hc⟩ := h.2 (by omega)
  exact ⟨b, off, _, e, hb, hc k _ (by rw [List.getElem?_map, List.getElem?_eq_getElem hk]; rfl), List.drop_eq_getElem_cons hk⟩
theorem ret_ne {α : Type} [DecidableEq α] {l m : List α} {b : Bool} (hb : b = false) (h : l ≠ m) : Ending.returned (.bool b) = .returned (.bool (decide (l = m))) := by
  rw [hb, decide_eq_false h]
theorem ret_eq {α : Type} [DecidableEq α] {l m : List α} {b : Bool} (hb : b = true) (h : l = m) : Ending.returned (.bool b) = .returned (.bool (decide (l = m))) := by
  rw [hb, decide_eq_true h]
theorem bytes_eq (b d : ByteArray) : (b.toList = d.toList) ↔ b = d := ⟨fun h => by rw [ByteArray.toList_eq, ByteArray.toList_eq] at h; exact ByteArray.ext (Array.toList_inj.1 h), fun h => by rw [h]⟩
theorem ret_dec {p : Prop} [Decidable p] {b : Bool} (h : (b = true) ↔ p) : Ending.returned (.bool b) = .returned (.bool (decide p)) := by
  congr 2
  rw [Bool.eq_iff_iff, h]
  simp

end Go.Proofs.YtcopnpllaoahaaaGreatDoor
namespace Go.Proofs.YtcopnpllaoahaaaGreatDoor
open Go.RowKit
theorem step_fn {P : Program} {w : World} {ops : Array Oper} {o : Oper} {a : Act} {K : Act → World → Prop} {Q : Exit → Act → World → Prop} {E0 : Prop} (f : FuncId) (xs : Array Operand) (ts : Array TypeId) (vs : Array Value) (R : Ending → World → Prop)
    (hcf : ∀ W, (callFunc f vs).run P W = .ok (.enter f vs) W) (h : Calls P f vs w R) (hR : ∀ e w', R e w' → ∃ v, e = .returned v ∧ K (a.put o.dst v) w')
    (hgd : o.guard = none := by rfl) (ho : o.op = .call { callee := .value (.func f), args := xs, argTypes := ts } := by rfl) (hx : xs.map a.eval = vs := by rfl) :
    if Region.wanted o (yielded ops a.tmps) = true then Oper.wp P o a w K Q else E0 := by
  have hw : Region.wanted o (yielded ops a.tmps) = true := by simp [Region.wanted, hgd]
  rw [if_pos hw]
  unfold Oper.wp execOp
  simp only [ho, resolve, invoke, Sem.run_bind, hx]
  have e1 : Sem.run P (Deferred.ofValue (a.eval (Operand.func f)) vs) w = .ok { target := .fn (.func f) #[], args := vs } w := by simp [Deferred.ofValue, Act.eval]
  rw [e1]
  simp only [Result.andThen_ok, Array.append_empty, hcf]
  rw [Oper.upon_enter]
  refine h.mono fun e w' hr => ?_
  obtain ⟨v, rfl, hk⟩ := hR e w' hr
  exact hk
/-- one argument, a value comes back -/
theorem step_fn1 {P : Program} {w : World} {ops : Array Oper} {o : Oper} {a : Act} {K : Act → World → Prop} {Q : Exit → Act → World → Prop} {E0 : Prop} (f : FuncId) {x : Operand} {ts : Array TypeId} (v : Value) {R : Ending → World → Prop}
    (hcf : ∀ vs W, (callFunc f vs).run P W = .ok (.enter f vs) W) (h : Calls P f #[v] w R) (hR : ∀ e w', R e w' → ∃ v, e = .returned v ∧ K (a.put o.dst v) w')
    (hgd : o.guard = none := by rfl) (ho : o.op = .call { callee := .value (.func f), args := #[x], argTypes := ts } := by rfl) (hx : a.eval x = v := by rfl) :
    if Region.wanted o (yielded ops a.tmps) = true then Oper.wp P o a w K Q else E0 :=
  step_fn f _ _ _ R (hcf _) h hR hgd ho (by simp [hx])
theorem cf_of {P : Program} {f : FuncId} {fn : Func} (hf : P.funcs[f]? = some fn) (h1 : (fn.name == "runtime.NumGoroutine") = false) (h2 : fn.body.isSome = true) (vs : Array Value) (W : World) : (callFunc f vs).run P W = .ok (.enter f vs) W := by
  have h1 : ¬ fn.name = "runtime.NumGoroutine" := by simpa using h1
  have h2 : ¬ fn.body = none := fun h => by rw [h] at h2; cases h2
  simp [callFunc, hf, h1, h2]
end Go.Proofs.YtcopnpllaoahaaaGreatDoor
namespace Go.Proofs.YtcopnpllaoahaaaGreatDoor
open Go.RowKit
def u64V (x : Nat) : Value := .int .u64 (x : Int)
abbrev u64s (l : List Nat) : List Value := l.map u64V
theorem u64At {w : World} {B k : Nat} {A : Option Addr} {l : List Nat} (h : Reads w B 1 A l.length (u64s l)) (hk : k < l.length) :
    ∃ b off, A = some ⟨b, off, none⟩ ∧ b < B ∧ w.cell? ⟨b, off + k, none⟩ = some (.int .u64 (l.getD k 0 : Nat)) := by
  obtain ⟨b, off, e, hb, hc⟩ := h.2 (by omega)
  exact ⟨b, off, e, hb, hc k _ (by rw [List.getElem?_map, List.getElem?_eq_getElem hk]; simp [u64V, hk])⟩
theorem wget {l : List Nat} (hw : W64 l) (k : Nat) : l.getD k 0 < 18446744073709551616 := by
  rcases Nat.lt_or_ge k l.length with h | h
  · simp only [List.getD_eq_getElem?_getD, List.getElem?_eq_getElem h]
    exact hw _ (List.getElem_mem h)
  · simp [h]
theorem wrap_u64 (n : Nat) (h : n < 18446744073709551616) : IntKind.u64.wrap (n : Int) = (n : Int) := by
  simp [IntKind.wrap, IntKind.bits, IntKind.signed]; omega
theorem u64_and_nat (a b : Nat) (ha : a < 18446744073709551616) (hb : b < 18446744073709551616) : bits .and .u64 (a : Int) (b : Int) = ((a &&& b : Nat) : Int) := by
  have hx : a &&& b < 18446744073709551616 := Nat.lt_of_le_of_lt Nat.and_le_left ha
  show IntKind.u64.wrap ((BitVec.ofInt 64 (a : Int) &&& BitVec.ofInt 64 (b : Int)).toNat : Int) = _
  rw [BitVec.toNat_and, ofInt_u64 a (by omega), ofInt_u64 b (by omega)]
  simp [IntKind.wrap, IntKind.bits, IntKind.signed]; omega
theorem u64_or_nat (a b : Nat) (ha : a < 18446744073709551616) (hb : b < 18446744073709551616) : bits .or .u64 (a : Int) (b : Int) = ((a ||| b : Nat) : Int) := by
  have hx : a ||| b < 2 ^ 64 := Nat.or_lt_two_pow ha hb
  show IntKind.u64.wrap ((BitVec.ofInt 64 (a : Int) ||| BitVec.ofInt 64 (b : Int)).toNat : Int) = _
  rw [BitVec.toNat_or, ofInt_u64 a (by omega), ofInt_u64 b (by omega)]
  simp [IntKind.wrap, IntKind.bits, IntKind.signed]; omega
theorem u64_xor_nat (a b : Nat) (ha : a < 18446744073709551616) (hb : b < 18446744073709551616) : bits .xor .u64 (a : Int) (b : Int) = ((a ^^^ b : Nat) : Int) := by
  have hx : a ^^^ b < 2 ^ 64 := Nat.xor_lt_two_pow ha hb
  show IntKind.u64.wrap ((BitVec.ofInt 64 (a : Int) ^^^ BitVec.ofInt 64 (b : Int)).toNat : Int) = _
  rw [BitVec.toNat_xor, ofInt_u64 a (by omega), ofInt_u64 b (by omega)]
  simp [IntKind.wrap, IntKind.bits, IntKind.signed]; omega
theorem bit_test (x n : Nat) (hx : x < 18446744073709551616) : (bits .and .u64 ((x : Int) / 2 ^ n) 1 == 1) = x.testBit n := by
  have h1 : ((x : Int) / 2 ^ n) = ((x / 2 ^ n : Nat) : Int) := by simp
  have h2 : x / 2 ^ n < 18446744073709551616 := Nat.lt_of_le_of_lt (Nat.div_le_self _ _) hx
  have h3 := u64_and_nat (x / 2 ^ n) 1 h2 (by omega)
  rw [h1]
  rw [show ((1 : Nat) : Int) = 1 from rfl] at h3
  rw [h3, Nat.and_one_is_mod, Nat.testBit_eq_decide_div_mod_eq, Bool.eq_iff_iff]
  simp
  omega
end Go.Proofs.YtcopnpllaoahaaaGreatDoor
namespace Go.Proofs.YtcopnpllaoahaaaGreatDoor
open Go.RowKit
def on1 (x : Nat) : Nat := ((x / 2) &&& 6148914691236517205) + (x &&& 6148914691236517205)
def on2 (x : Nat) : Nat := ((x / 4) &&& 3689348814741910323) + (x &&& 3689348814741910323)
def on3 (x : Nat) : Nat := (x / 16 + x) &&& 1085102592571150095
def on4 (x : Nat) : Nat := x + x / 256
def on5 (x : Nat) : Nat := x + x / 65536
def on6 (x : Nat) : Nat := x + x / 4294967296
def ones64 (x : Nat) : Nat := on6 (on5 (on4 (on3 (on2 (on1 x))))) % 128
theorem and127 (i : Nat) (hi : i < 9223372036854775808) : bits .and .i64 (i : Int) 127 = ((i % 128 : Nat) : Int) := by
  have hx : i &&& 127 = i % 128 := Nat.and_two_pow_sub_one_eq_mod i 7
  show IntKind.i64.wrap ((BitVec.ofInt 64 (i : Int) &&& BitVec.ofInt 64 ((127 : Nat) : Int)).toNat : Int) = _
  rw [BitVec.toNat_and, ofInt_u64 i (by omega), ofInt_u64 127 (by omega), hx]
  exact IntWalk.i64_in _ (by omega)
set_option maxRecDepth 100000 in
set_option maxHeartbeats 2000000 in
theorem ones64_ (w : World) (x : Nat) (hx : x < 18446744073709551616) :
    Calls Tryz.prog 123 #[.int .u64 x] w fun e w' => e = .returned (.int .i64 (ones64 x)) ∧ w = w' := by
  have e1 : bits .and .u64 ((x : Int) / 2) 6148914691236517205 = (((x / 2) &&& 6148914691236517205 : Nat) : Int) := u64_and_nat (x / 2) 6148914691236517205 (by omega) (by decide)
  have e2 : bits .and .u64 (x : Int) 6148914691236517205 = ((x &&& 6148914691236517205 : Nat) : Int) := u64_and_nat x 6148914691236517205 hx (by decide)
  have b1 : (x / 2) &&& 6148914691236517205 ≤ 6148914691236517205 := Nat.and_le_right
  have b2 : x &&& 6148914691236517205 ≤ 6148914691236517205 := Nat.and_le_right
  have H1 := Lib.hid (show on1 x = ((x / 2) &&& 6148914691236517205) + (x &&& 6148914691236517205) from rfl)
  generalize (x / 2) &&& 6148914691236517205 = A at *
  generalize x &&& 6148914691236517205 = B at *
  have e3 : bits .and .u64 (((A : Int) + B) / 4) 3689348814741910323 = ((((A + B) / 4) &&& 3689348814741910323 : Nat) : Int) := u64_and_nat ((A + B) / 4) 3689348814741910323 (by omega) (by decide)
  have e4 : bits .and .u64 ((A : Int) + B) 3689348814741910323 = (((A + B) &&& 3689348814741910323 : Nat) : Int) := u64_and_nat (A + B) 3689348814741910323 (by omega) (by decide)
  have b3 : ((A + B) / 4) &&& 3689348814741910323 ≤ 3689348814741910323 := Nat.and_le_right
  have b4 : (A + B) &&& 3689348814741910323 ≤ 3689348814741910323 := Nat.and_le_right
  have H2 := Lib.hid (show on2 (A + B) = (((A + B) / 4) &&& 3689348814741910323) + ((A + B) &&& 3689348814741910323) from rfl)
  generalize ((A + B) / 4) &&& 3689348814741910323 = C at *
  generalize (A + B) &&& 3689348814741910323 = D at *
  have e5 : bits .and .u64 (((C : Int) + D) / 16 + ((C : Int) + D)) 1085102592571150095 = ((((C + D) / 16 + (C + D)) &&& 1085102592571150095 : Nat) : Int) := u64_and_nat ((C + D) / 16 + (C + D)) 1085102592571150095 (by omega) (by decide)
  have b5 : (((C + D) / 16 + (C + D)) &&& 1085102592571150095) ≤ 1085102592571150095 := Nat.and_le_right
  have H3 := Lib.hid (show on3 (C + D) = (((C + D) / 16 + (C + D)) &&& 1085102592571150095) from rfl)
  generalize ((C + D) / 16 + (C + D)) &&& 1085102592571150095 = E at *
  have HR := Lib.hid (show ones64 x = on6 (on5 (on4 E)) % 128 by unfold ones64; rw [H1.out, H2.out, H3.out])
  go_enter Tryz.func123, Tryz.ntmps123
  go_wp2
  go_ret
  rw [HR.out]
  have h4 : on4 E = E + E / 256 := rfl
  generalize on4 E = F at *
  have h5 : on5 F = F + F / 65536 := rfl
  generalize on5 F = G at *
  have h6 : on6 G = G + G / 4294967296 := rfl
  generalize on6 G = K at *
  have h7 := and127 K (by omega)
  rw [← h7]
  have h8 : (E : Int) + E / 256 + (E + E / 256) / 65536 + (E + E / 256 + (E + E / 256) / 65536) / 4294967296 = (K : Int) := by omega
  have H8 := Lib.hid h8
  clear h4 h5 h6 h7 h8
  simp only [H8.out]
  exact ⟨rfl, trivial⟩
end Go.Proofs.YtcopnpllaoahaaaGreatDoor
namespace Go.Proofs.YtcopnpllaoahaaaGreatDoor
open Go.RowKit
def cntL (l : List Nat) : Nat := (l.map ones64).sum
theorem ones64_lt (x : Nat) : ones64 x < 128 := Nat.mod_lt _ (by decide)
theorem cntL_le (l : List Nat) : cntL l ≤ 128 * l.length := by
  unfold cntL
  induction l with
  | nil => simp
  | cons a l ih =>
    have := ones64_lt a
    simp only [List.map_cons, List.sum_cons, List.length_cons]
    omega
theorem cntL_succ {l : List Nat} {k : Nat} (hk : k < l.length) : cntL (l.take (k + 1)) = cntL (l.take k) + ones64 (l.getD k 0) := by
  unfold cntL
  have e : l.getD k 0 = l[k] := by simp [hk]
  rw [List.take_succ_eq_append_getElem hk, List.map_append, List.sum_append, e]
  simp only [List.map_cons, List.map_nil, List.sum_cons, List.sum_nil, Nat.add_zero]
end Go.Proofs.YtcopnpllaoahaaaGreatDoor
namespace Go.Proofs.YtcopnpllaoahaaaGreatDoor
open Go.RowKit
/-- word j of a set -/
def wK (f : Nat → Bool) (j : Nat) : Nat := nb 64 fun i => f (64 * j + i)
theorem wK_lt (f : Nat → Bool) (j : Nat) : wK f j < 18446744073709551616 := nb_lt 64 _
theorem wK_bit (f : Nat → Bool) (j i : Nat) (h : i < 64) : (wK f j).testBit i = f (64 * j + i) := by
  unfold wK
  rw [nb_bit, decide_eq_true h, Bool.true_and]
theorem wK_ext {x : Nat} (f : Nat → Bool) (j : Nat) (hx : x < 18446744073709551616) (h : ∀ i, i < 64 → x.testBit i = f (64 * j + i)) : x = wK f j :=
  word_ext hx (wK_lt f j) fun i hi => by rw [h i hi, wK_bit f j i hi]
theorem wK_congr {f g : Nat → Bool} (h : ∀ i, i < 256 → f i = g i) {j : Nat} (hj : j < 4) : wK f j = wK g j :=
  wK_ext g j (wK_lt f j) fun i hi => by rw [wK_bit f j i hi, h _ (by omega)]
theorem wK_inj {f g : Nat → Bool} (h : ∀ j, j < 4 → wK f j = wK g j) (i : Nat) (hi : i < 256) : f i = g i := by
  have h1 := wK_bit f (i / 64) (i % 64) (by omega)
  have h2 := wK_bit g (i / 64) (i % 64) (by omega)
  rw [show 64 * (i / 64) + i % 64 = i by omega] at h1 h2
  rw [← h1, ← h2, h _ (by omega)]
/-- the cells, the value and the box of a set -/
abbrev stC (f : Nat → Bool) : List Value := [.int .u64 ((wK f 0 : Nat) : Int), .int .u64 ((wK f 1 : Nat) : Int), .int .u64 ((wK f 2 : Nat) : Int), .int .u64 ((wK f 3 : Nat) : Int)]
abbrev stV (f : Nat → Bool) : Value := .agg #[.int .u64 ((wK f 0 : Nat) : Int), .int .u64 ((wK f 1 : Nat) : Int), .int .u64 ((wK f 2 : Nat) : Int), .int .u64 ((wK f 3 : Nat) : Int)]
abbrev stO (f : Nat → Bool) : Obj := .cells #[.int .u64 ((wK f 0 : Nat) : Int), .int .u64 ((wK f 1 : Nat) : Int), .int .u64 ((wK f 2 : Nat) : Int), .int .u64 ((wK f 3 : Nat) : Int)] 36 (0, 0)
theorem stV_congr {f g : Nat → Bool} (h : ∀ i, i < 256 → f i = g i) : stV f = stV g := by
  unfold stV
  rw [wK_congr h (show 0 < 4 by decide), wK_congr h (show 1 < 4 by decide), wK_congr h (show 2 < 4 by decide), wK_congr h (show 3 < 4 by decide)]
theorem stV_inj {f g : Nat → Bool} (h : stV f = stV g) (i : Nat) (hi : i < 256) : f i = g i := by
  unfold stV at h
  injection h with h
  simp only [Array.mk.injEq, List.cons.injEq, Value.int.injEq, true_and, and_true] at h
  obtain ⟨h0, h1, h2, h3⟩ := h
  refine wK_inj (fun j hj => ?_) i hi
  rcases (show j = 0 ∨ j = 1 ∨ j = 2 ∨ j = 3 by omega) with rfl | rfl | rfl | rfl <;> omega
/-- four words are a set -/
theorem stV_of {a b c d : Nat} (ha : a < 18446744073709551616) (hb : b < 18446744073709551616) (hc : c < 18446744073709551616) (hd : d < 18446744073709551616) : stV (rbit [a, b, c, d]) = .agg #[.int .u64 (a : Int), .int .u64 (b : Int), .int .u64 (c : Int), .int .u64 (d : Int)] := by
  have key : ∀ (x j : Nat), x < 18446744073709551616 → [a, b, c, d].getD j 0 = x → wK (rbit [a, b, c, d]) j = x := fun x j hx e => by
    refine (wK_ext _ j hx fun i hi => ?_).symm
    unfold rbit
    rw [show (64 * j + i) / 64 = j by omega, show (64 * j + i) % 64 = i by omega, e]
  unfold stV
  rw [key a 0 ha rfl, key b 1 hb rfl, key c 2 hc rfl, key d 3 hd rfl]
/-- the words below k are those of g, the others those of f -/
def mxK (k : Nat) (f g : Nat → Bool) (i : Nat) : Bool := if i / 64 < k then g i else f i
theorem wK_mx (k : Nat) (f g : Nat → Bool) (j : Nat) : wK (mxK k f g) j = if j < k then wK g j else wK f j := by
  refine (wK_ext _ j (by split <;> exact wK_lt _ _) fun i hi => ?_).symm
  unfold mxK
  rw [show (64 * j + i) / 64 = j by omega]
  split <;> exact wK_bit _ _ _ hi
theorem mx_zero (f g : Nat → Bool) : ∀ i, i < 256 → mxK 0 f g i = f i := fun i _ => by unfold mxK; rw [if_neg (by omega)]
theorem mx_four (f g : Nat → Bool) : ∀ i, i < 256 → mxK 4 f g i = g i := fun i hi => by unfold mxK; rw [if_pos (by omega)]
/-- the facts of a box -/
theorem stCells {w : World} {g : Nat} {f : Nat → Bool} (h : w.heap[g]? = some (stO f)) :
    (w.cell? ⟨g, 0, none⟩ = some (.int .u64 ((wK f 0 : Nat) : Int)) ∧ w.cell? ⟨g, 1, none⟩ = some (.int .u64 ((wK f 1 : Nat) : Int)) ∧ w.cell? ⟨g, 2, none⟩ = some (.int .u64 ((wK f 2 : Nat) : Int)) ∧ w.cell? ⟨g, 3, none⟩ = some (.int .u64 ((wK f 3 : Nat) : Int))) ∧
    (w.frozen? ⟨g, 0, none⟩ = false ∧ w.frozen? ⟨g, 1, none⟩ = false ∧ w.frozen? ⟨g, 2, none⟩ = false ∧ w.frozen? ⟨g, 3, none⟩ = false) ∧ g < w.heap.size :=
  ⟨⟨Lib.cell_of_heap h 0, Lib.cell_of_heap h 1, Lib.cell_of_heap h 2, Lib.cell_of_heap h 3⟩, ⟨Lib.frozen_of_heap h 0, Lib.frozen_of_heap h 1, Lib.frozen_of_heap h 2, Lib.frozen_of_heap h 3⟩, heap_lt h⟩
theorem bx4 {w : World} {g : Nat} {a b c d : Value} {t : TypeId} (h : w.heap[g]? = some (.cells #[a, b, c, d] t (0, 0))) :
    (w.cell? ⟨g, 0, none⟩ = some a ∧ w.cell? ⟨g, 1, none⟩ = some b ∧ w.cell? ⟨g, 2, none⟩ = some c ∧ w.cell? ⟨g, 3, none⟩ = some d) ∧
    (w.frozen? ⟨g, 0, none⟩ = false ∧ w.frozen? ⟨g, 1, none⟩ = false ∧ w.frozen? ⟨g, 2, none⟩ = false ∧ w.frozen? ⟨g, 3, none⟩ = false) ∧ g < w.heap.size :=
  ⟨⟨Lib.cell_of_heap h 0, Lib.cell_of_heap h 1, Lib.cell_of_heap h 2, Lib.cell_of_heap h 3⟩, ⟨Lib.frozen_of_heap h 0, Lib.frozen_of_heap h 1, Lib.frozen_of_heap h 2, Lib.frozen_of_heap h 3⟩, heap_lt h⟩
/-- one word of a box is written -/
theorem Fr.stSet {w0 w1 : World} {L : List (Nat × Obj)} {g k : Nat} {f h : Nat → Bool} (hF : Fr w0 ((g, stO (mxK k f h)) :: L) w1) (hg : w0.heap.size ≤ g) (hL : ∀ p ∈ L, p.1 ≠ g) (hk : k < 4) :
    Fr w0 ((g, stO (mxK (k + 1) f h)) :: L) (w1.setCell ⟨g, k, none⟩ (.int .u64 ((wK h k : Nat) : Int))) := by
  have := hF.set hg hL k (.int .u64 ((wK h k : Nat) : Int))
  have e : stO (mxK (k + 1) f h) = .cells ((#[.int .u64 ((wK (mxK k f h) 0 : Nat) : Int), .int .u64 ((wK (mxK k f h) 1 : Nat) : Int), .int .u64 ((wK (mxK k f h) 2 : Nat) : Int), .int .u64 ((wK (mxK k f h) 3 : Nat) : Int)] : Array Value).setIfInBounds k (.int .u64 ((wK h k : Nat) : Int))) 36 (0, 0) := by
    unfold stO
    simp only [wK_mx]
    rcases (show k = 0 ∨ k = 1 ∨ k = 2 ∨ k = 3 by omega) with rfl | rfl | rfl | rfl <;> simp
  rw [e]
  exact this
/-- the whole box is written -/
theorem Fr.stPut {w0 w1 : World} {L : List (Nat × Obj)} {g : Nat} {f h : Nat → Bool} (hF : Fr w0 ((g, stO f) :: L) w1) (hg : w0.heap.size ≤ g) (hL : ∀ p ∈ L, p.1 ≠ g) :
    Fr w0 ((g, stO h) :: L) ((((w1.setCell ⟨g, 0, none⟩ (.int .u64 ((wK h 0 : Nat) : Int))).setCell ⟨g, 1, none⟩ (.int .u64 ((wK h 1 : Nat) : Int))).setCell ⟨g, 2, none⟩ (.int .u64 ((wK h 2 : Nat) : Int))).setCell ⟨g, 3, none⟩ (.int .u64 ((wK h 3 : Nat) : Int))) := by
  have := (((hF.set hg hL 0 (.int .u64 ((wK h 0 : Nat) : Int))).set hg hL 1 (.int .u64 ((wK h 1 : Nat) : Int))).set hg hL 2 (.int .u64 ((wK h 2 : Nat) : Int))).set hg hL 3 (.int .u64 ((wK h 3 : Nat) : Int))
  simpa using this
/-! words and bits -/
theorem wK_or (f g : Nat → Bool) (j : Nat) : wK f j ||| wK g j = wK (fun i => f i || g i) j :=
  wK_ext _ j (Nat.or_lt_two_pow (n := 64) (wK_lt f j) (wK_lt g j)) fun i hi => by rw [Nat.testBit_or, wK_bit f j i hi, wK_bit g j i hi]
theorem wK_not (f : Nat → Bool) (j : Nat) : wK f j ^^^ 18446744073709551615 = wK (fun i => !f i) j :=
  wK_ext _ j (Nat.xor_lt_two_pow (n := 64) (wK_lt f j) (by decide)) fun i hi => by
    rw [Nat.testBit_xor, wK_bit f j i hi, show (18446744073709551615 : Nat) = 2 ^ 64 - 1 from rfl, Nat.testBit_two_pow_sub_one, decide_eq_true hi]
    cases f (64 * j + i) <;> rfl
/-- one byte more -/
def adK (f : Nat → Bool) (b : Nat) (i : Nat) : Bool := f i || decide (i = b)
theorem wK_ad (f : Nat → Bool) (b : Nat) : wK f (b / 64) ||| 2 ^ (b % 64) = wK (adK f b) (b / 64) :=
  wK_ext _ _ (Nat.or_lt_two_pow (n := 64) (wK_lt f _) (Nat.pow_lt_pow_right (by omega) (by omega))) fun i hi => by
    rw [Nat.testBit_or, wK_bit f _ i hi, Nat.testBit_two_pow]
    unfold adK
    congr 1
    rw [Bool.eq_iff_iff]
    simp only [decide_eq_true_eq]
    omega
theorem wK_ad_other (f : Nat → Bool) (b : Nat) {j : Nat} (hj : j ≠ b / 64) : wK (adK f b) j = wK f j :=
  (wK_ext _ _ (wK_lt f j) fun i hi => by
    rw [wK_bit f j i hi]
    unfold adK
    rw [decide_eq_false (by omega), Bool.or_false]).symm
/-- one byte less -/
def drK (f : Nat → Bool) (b : Nat) (i : Nat) : Bool := f i && !decide (i = b)
theorem sub_bit {x t : Nat} (h : x.testBit t = true) : 2 ^ t ≤ x ∧ ∀ i, (x - 2 ^ t).testBit i = (x.testBit i && !decide (i = t)) := by
  have hle : 2 ^ t ≤ x := Nat.ge_two_pow_of_testBit h
  refine ⟨hle, fun i => ?_⟩
  have hr : (x % 2 ^ (t + 1)).testBit t = true := by rw [Nat.testBit_mod_two_pow, h]; simp
  have hr2 : 2 ^ t ≤ x % 2 ^ (t + 1) := Nat.ge_two_pow_of_testBit hr
  have hr3 : x % 2 ^ (t + 1) < 2 ^ (t + 1) := Nat.mod_lt _ (Nat.pow_pos (by omega))
  have hx := Nat.div_add_mod x (2 ^ (t + 1))
  generalize x / 2 ^ (t + 1) = q at *
  obtain ⟨s, hs⟩ : ∃ s, x % 2 ^ (t + 1) = 2 ^ t + s := ⟨_, (Nat.add_sub_cancel' hr2).symm⟩
  rw [hs] at hx hr3
  have hs2 : s < 2 ^ t := by rw [Nat.pow_succ] at hr3; omega
  clear hr hr2 hs h
  obtain ⟨m, hm⟩ : ∃ m, m = 2 ^ (t + 1) * q := ⟨_, rfl⟩
  have hx1 : x = 2 ^ (t + 1) * q + (2 ^ t + s) := hx.symm
  have hx2 : x - 2 ^ t = 2 ^ (t + 1) * q + s := by rw [hx1, ← hm]; omega
  rw [hx2, hx1, Nat.testBit_two_pow_mul_add _ (by rw [Nat.pow_succ]; omega), Nat.testBit_two_pow_mul_add _ hr3]
  by_cases hi : i < t + 1
  · rw [if_pos hi, if_pos hi]
    by_cases e : i = t
    · subst e
      rw [Nat.testBit_lt_two_pow hs2]; simp
    · rw [Nat.testBit_two_pow_add_gt (by omega), decide_eq_false e]; simp
  · rw [if_neg hi, if_neg hi, decide_eq_false (by omega)]; simp
theorem wK_dr {f : Nat → Bool} {b : Nat} (h : f b = true) : 2 ^ (b % 64) ≤ wK f (b / 64) ∧ wK f (b / 64) - 2 ^ (b % 64) = wK (drK f b) (b / 64) := by
  have hb : (wK f (b / 64)).testBit (b % 64) = true := by rw [wK_bit f _ _ (by omega), show 64 * (b / 64) + b % 64 = b by omega, h]
  obtain ⟨h1, h2⟩ := sub_bit hb
  refine ⟨h1, wK_ext _ _ (Nat.lt_of_le_of_lt (Nat.sub_le _ _) (wK_lt f _)) fun i hi => ?_⟩
  rw [h2, wK_bit f _ i hi]
  unfold drK
  congr 2
  rw [Bool.eq_iff_iff]
  simp only [decide_eq_true_eq]
  omega
theorem wK_dr_other (f : Nat → Bool) (b : Nat) {j : Nat} (hj : j ≠ b / 64) : wK (drK f b) j = wK f j :=
  (wK_ext _ _ (wK_lt f j) fun i hi => by
    rw [wK_bit f j i hi]
    unfold drK
    rw [decide_eq_false (by omega)]; simp).symm
end Go.Proofs.YtcopnpllaoahaaaGreatDoor
