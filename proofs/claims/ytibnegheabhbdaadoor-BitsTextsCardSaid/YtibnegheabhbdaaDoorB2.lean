/- Rows of bits: reading a bit. -/
import Derived.Test.YtibnegheabhbdaaDoorB1
import Derived.Test.YtibnegheabhbdaaDoorFr
import Derived.Test.YtibnegheabhbdaaDoorCmp
import Derived.Test.YtibnegheabhbdaaDoorStep
import Derived.Laws.BitsAllLaws
import Derived.IntWalk
namespace Go.Proofs.YtibnegheabhbdaaDoor
open Go.RowKit
def u64V (x : Nat) : Value := .int .u64 (x : Int)
abbrev u64s (l : List Nat) : List Value := l.map u64V
theorem u64At {w : World} {B k : Nat} {A : Option Addr} {l : List Nat} (h : Reads w B 1 A l.length (u64s l)) (hk : k < l.length) :
    ∃ b off, A = some ⟨b, off, none⟩ ∧ b < B ∧ w.cell? ⟨b, off + k, none⟩ = some (.int .u64 (l.getD k 0 : Nat)) := by
  obtain ⟨b, off, e, hb, hc⟩ := h.2 (by omega)
  exact ⟨b, off, e, hb, hc k _ (by rw [List.getElem?_map, List.getElem?_eq_getElem hk]; simp [u64V, hk])⟩
theorem wget {l : List Nat} (hw : W64 l) (k : Nat) : l.getD k 0 < 18446744073709551616 := by
  rcases Nat.lt_or_ge k l.length with h | h
  · simp only [List.getD_eq_getElem?_getD, List.getElem?_eq_getElem h]
    exact hw _ (List.getElem_mem h)
  · simp [h]
theorem wrap_u64 (n : Nat) (h : n < 18446744073709551616) : IntKind.u64.wrap (n : Int) = (n : Int) := by
  simp [IntKind.wrap, IntKind.bits, IntKind.signed]; omega
theorem u64_and_nat (a b : Nat) (ha : a < 18446744073709551616) (hb : b < 18446744073709551616) : bits .and .u64 (a : Int) (b : Int) = ((a &&& b : Nat) : Int) := by
  have hx : a &&& b < 18446744073709551616 := Nat.lt_of_le_of_lt Nat.and_le_left ha
  show IntKind.u64.wrap ((BitVec.ofInt 64 (a : Int) &&& BitVec.ofInt 64 (b : Int)).toNat : Int) = _
  rw [BitVec.toNat_and, ofInt_u64 a (by omega), ofInt_u64 b (by omega)]
  simp [IntKind.wrap, IntKind.bits, IntKind.signed]; omega
theorem u64_or_nat (a b : Nat) (ha : a < 18446744073709551616) (hb : b < 18446744073709551616) : bits .or .u64 (a : Int) (b : Int) = ((a ||| b : Nat) : Int) := by
  have hx : a ||| b < 2 ^ 64 := Nat.or_lt_two_pow ha hb
  show IntKind.u64.wrap ((BitVec.ofInt 64 (a : Int) ||| BitVec.ofInt 64 (b : Int)).toNat : Int) = _
  rw [BitVec.toNat_or, ofInt_u64 a (by omega), ofInt_u64 b (by omega)]
  simp [IntKind.wrap, IntKind.bits, IntKind.signed]; omega
theorem u64_xor_nat (a b : Nat) (ha : a < 18446744073709551616) (hb : b < 18446744073709551616) : bits .xor .u64 (a : Int) (b : Int) = ((a ^^^ b : Nat) : Int) := by
  have hx : a ^^^ b < 2 ^ 64 := Nat.xor_lt_two_pow ha hb
  show IntKind.u64.wrap ((BitVec.ofInt 64 (a : Int) ^^^ BitVec.ofInt 64 (b : Int)).toNat : Int) = _
  rw [BitVec.toNat_xor, ofInt_u64 a (by omega), ofInt_u64 b (by omega)]
  simp [IntKind.wrap, IntKind.bits, IntKind.signed]; omega
theorem bit_test (x n : Nat) (hx : x < 18446744073709551616) : (bits .and .u64 ((x : Int) / 2 ^ n) 1 == 1) = x.testBit n := by
  have h1 : ((x : Int) / 2 ^ n) = ((x / 2 ^ n : Nat) : Int) := by simp
  have h2 : x / 2 ^ n < 18446744073709551616 := Nat.lt_of_le_of_lt (Nat.div_le_self _ _) hx
  have h3 := u64_and_nat (x / 2 ^ n) 1 h2 (by omega)
  rw [h1]
  rw [show ((1 : Nat) : Int) = 1 from rfl] at h3
  rw [h3, Nat.and_one_is_mod, Nat.testBit_eq_decide_div_mod_eq, Bool.eq_iff_iff]
  simp
  omega
set_option maxRecDepth 100000 in
set_option maxHeartbeats 1000000 in
theorem get_ (w : World) (A : Option Addr) (c : Nat) (l : List Nat) (h : Reads w w.heap.size 1 A l.length (u64s l)) (hl : l.length ≤ 100) (hw : W64 l) (i : Nat) (hi : i < 64 * l.length) :
    Calls Tryd.prog 44 #[.slice A l.length c, .int .i64 i] w fun e w' => e = .returned (.bool (rbit l i)) ∧ w = w' := by
  obtain ⟨b, off, rfl, hb, hc⟩ := u64At h (k := i / 64) (by omega)
  have hx := wget hw (i / 64)
  have Hr := Lib.hid (show rbit l i = (l.getD (i / 64) 0).testBit (i % 64) from rfl)
  generalize l.getD (i / 64) 0 = x at *
  have hq : ((i : Int) / 64).toNat = i / 64 := by omega
  have hq0 : (0 : Int) ≤ (i : Int) / 64 := by omega
  have hq1 : (i : Int) / 64 < (l.length : Int) := by omega
  have hm : IntKind.u64.wrap ((i : Int) % 64) = (i : Int) % 64 := by simp [IntKind.wrap, IntKind.bits, IntKind.signed]; omega
  clear h hw
  go_enter Tryd.func44, Tryd.ntmps44
  go_wp2
  go_ret
  exact ⟨ret_bool (by rw [bit_test x _ hx, Hr.out]), rfl⟩
/-- what comes back: a row of the call's own -/
def RetRow (w : World) (l : List Nat) (e : Ending) (w' : World) : Prop :=
  ∃ A c, e = .returned (.slice A l.length c) ∧ w'.ownsRow w.heap.size 55 1 (.slice A l.length c) l.length (u64s l) ∧ Below w.heap.size w w'
theorem u64El : Elem Tryd.prog 22 55 (.int .u64 0) 1 8 := ⟨Tryd.underlying22, by kernel_rfl, rfl, by decide⟩
theorem u64s_one (l : List Nat) : ∀ u ∈ u64s l, u.oneCell' = true := by
  intro u hu
  obtain ⟨x, _, rfl⟩ := List.mem_map.1 hu
  rfl
theorem own_empty (w : World) (t : TypeId) (size : Nat) : (w.alloc (.cells #[] t)).ownsRow w.heap.size t size (.slice (some ⟨w.heap.size, 0, none⟩) 0 0) 0 [] :=
  ⟨by simp, .inr ⟨w.heap.size, 0, #[], rfl, Nat.le_refl _, alloc1_new _ _, Nat.le_refl _, by unfold maxLen; omega, by simp, by simp⟩⟩
set_option maxRecDepth 100000 in
set_option maxHeartbeats 1000000 in
theorem with_ (w : World) (A : Option Addr) (c : Nat) (l : List Nat) (h : Reads w w.heap.size 1 A l.length (u64s l)) (hl : l.length ≤ 100) (hw : W64 l) (i : Nat) (hi : i < 64 * l.length) (v : Bool) :
    Calls Tryd.prog 43 #[.slice A l.length c, .int .i64 i, .bool v] w (RetRow w (setB l i v)) := by
  have Hg := Lib.hid (fun w1 (hb : Below w.heap.size w w1) => get_ w1 A c l (h.go hb) hl hw i hi)
  have hrd := h.al (.cells #[] 55)
  have Hrd := Lib.hid hrd
  have hown := own_empty w 55 1
  have hx := wget hw (i / 64)
  have hq : ((i : Int) / 64).toNat = i / 64 := by omega
  have hq0 : (0 : Int) ≤ (i : Int) / 64 := by omega
  have hq1 : (i : Int) / 64 < (l.length : Int) := by omega
  have hm : IntKind.u64.wrap ((i : Int) % 64) = (i : Int) % 64 := by simp [IntKind.wrap, IntKind.bits, IntKind.signed]; omega
  clear h hrd
  go_enter Tryd.func43, Tryd.ntmps43
  go_wp2_with (at_builtin; refine wpList_apr u64El (w0 := w) hown (ba (Below.refl _ _) _) (by exact Hrd.out) (u64s_one l) ?_)
  intro v1 w1 hO1 hb1 hg1
  obtain ⟨g, cap, rfl, hgb, hgl⟩ := hO1.form (by omega)
  have HO1 := Lib.hid hO1
  clear hown hg1 hO1 Hrd
  go_wp2_with fail
  (with_reducible refine (Hg.out _ hb1).mono ?_); rintro e w2 ⟨rfl, rfl⟩
  by_cases hv : rbit l i = v
  · have HS := Lib.hid (show setB l i v = l from if_pos hv)
    subst hv
    generalize rbit l i = rb at *
    cases rb
    all_goals
      go_wp2
      go_ret
      rw [HS.out]
      exact ⟨_, _, rfl, HO1.out, hb1⟩
  · have HS := Lib.hid (show setB l i v = l.set (i / 64) (l.getD (i / 64) 0 ^^^ 2 ^ (i % 64)) from if_neg hv)
    have hcell : w1.cell? ⟨g, i / 64, none⟩ = some (.int .u64 (l.getD (i / 64) 0 : Nat)) := by
      rw [HO1.out.cellAt _ (by omega), List.getElem?_map, List.getElem?_eq_getElem (show i / 64 < l.length by omega)]
      simp [u64V, show i / 64 < l.length by omega]
    have hfr := HO1.out.frozenAt (i / 64)
    obtain ⟨hst, _⟩ := HO1.out.stored (i / 64) (.int .u64 ((l.getD (i / 64) 0 ^^^ 2 ^ (i % 64) : Nat) : Int))
    have hst2 : (w1.setCell ⟨g, i / 64, none⟩ (.int .u64 ((l.getD (i / 64) 0 ^^^ 2 ^ (i % 64) : Nat) : Int))).ownsRow w.heap.size 55 1 (.slice (some ⟨g, 0, none⟩) l.length cap) l.length (u64s (l.set (i / 64) (l.getD (i / 64) 0 ^^^ 2 ^ (i % 64)))) := by
      rw [u64s, List.map_set]; exact hst
    have Hst := Lib.hid hst2
    have HB := Lib.hid (bs hb1 (p := ⟨g, i / 64, none⟩) (u := .int .u64 ((l.getD (i / 64) 0 ^^^ 2 ^ (i % 64) : Nat) : Int)) hgb)
    have hp : (2 : Nat) ^ (i % 64) < 18446744073709551616 := Nat.lt_of_lt_of_le (Nat.pow_lt_pow_right (by omega) (show i % 64 < 64 by omega)) (by decide)
    have hxo := Lib.hid (show bits .xor .u64 ((l.getD (i / 64) 0 : Nat) : Int) (IntKind.u64.wrap (2 ^ (i % 64))) = ((l.getD (i / 64) 0 ^^^ 2 ^ (i % 64) : Nat) : Int) by
      have hw2 : IntKind.u64.wrap (2 ^ (i % 64)) = ((2 ^ (i % 64) : Nat) : Int) := by
        rw [show ((2 : Int) ^ (i % 64)) = ((2 ^ (i % 64) : Nat) : Int) by simp]
        exact wrap_u64 _ hp
      rw [hw2]; exact u64_xor_nat _ _ hx hp)
    obtain rfl : v = !rbit l i := by cases hh : rbit l i <;> cases v <;> simp_all
    generalize rbit l i = rb at *
    generalize l.getD (i / 64) 0 = x at *
    clear hst hst2 hv hp
    cases rb
    all_goals
      go_wp2
      go_ret
      rw [HS.out, hxo.out]
      exact ⟨some ⟨g, 0, none⟩, cap, by rw [List.length_set]; rfl, by rw [List.length_set]; exact Hst.out, HB.out⟩
end Go.Proofs.YtibnegheabhbdaaDoor
