/- Own rows and blocks: plain words. Rows of bits, in plain words: words of 64 bits, bits of a row, a row out of its bits. No condition. The variable that strings.Index reads holds a number. -/
import Derived.Test.YtcopnpllaoahaaaGreatDoorProg
import Derived.Test.YtcopnpllaoahaaaGreatDoorMem
import Derived.Lib.OthersKept
import Derived.Lib.Builder
import Derived.Lib.Hide
import Derived.WalkSpells
import Derived.WalkLawsBesides
import Derived.Deep.QuietTactic
import Derived.BigQuiet
import Derived.Deep.Light
import Derived.Deep.RegionHeld3
import Derived.BigRegion
import Derived.Deep.RegionLaw
import Derived.Test.YtcopnpllaoahaaaGreatDoorShelf
namespace Go.Proofs.YtcopnpllaoahaaaGreatDoor
open Go.RowKit
theorem ret_bool {a b : Bool} (h : a = b) : Ending.returned (.bool a) = .returned (.bool b) := by rw [h]
theorem ret_pair {j k : IntKind} {a b c d : Int} (h : a = c) (h' : b = d) : Ending.returned (.tuple #[.int j a, .int k b]) = .returned (.tuple #[.int j c, .int k d]) := by rw [h, h']
theorem toList_nil (s : ByteArray) : s.toList = [] ↔ s.size = 0 := by
  rw [ByteArray.toList_eq, ← List.length_eq_zero_iff]
  exact Iff.rfl
theorem heap_lt {w : World} {g : Nat} {o : Obj} (h : w.heap[g]? = some o) : g < w.heap.size := by
  rcases Nat.lt_or_ge g w.heap.size with h' | h'
  · exact h'
  · simp [Array.getElem?_eq_none h'] at h
theorem own_blk_ne {base size n g : Nat} {e t : TypeId} {v : Value} {xs : List Value} {w : World} {cs : Array Value} {fr : Nat × Nat} (h : w.ownsRow base e size v n xs) (hg : w.heap[g]? = some (.cells cs t fr)) (hne : e ≠ t) : v.ownBlock ≠ some g := by
  rcases h.2 with ⟨rfl, _⟩ | ⟨g', cap, cur, rfl, _, hh, _⟩
  · simp [Value.ownBlock]
  · intro he
    have : g' = g := by simpa [Value.ownBlock] using he
    subst this
    rw [hg] at hh
    injection hh with hh
    injection hh with _ ht _
    exact hne ht.symm
theorem take_of_drop {α : Type} {l : List α} {k : Nat} {x : α} (h : l.drop k = x :: l.drop (k + 1)) : l.take (k + 1) = l.take k ++ [x] := by
  have hk : k < l.length := by
    rcases Nat.lt_or_ge k l.length with hk | hk
    · exact hk
    · rw [List.drop_eq_nil_of_le hk] at h; cases h
  rw [List.drop_eq_getElem_cons hk] at h
  rw [List.take_succ_eq_append_getElem hk]
  injection h with h _
  rw [h]
theorem drewN_below (w : World) (n : Nat) {B : Nat} : Below B w (w.drewN n) := ⟨rfl, rfl, rfl, Nat.le_refl _, fun _ _ => rfl⟩
def byteAt (s : ByteArray) (i : Nat) : UInt8 := s.data.toList.getD i 0
theorem byteAt_lt (s : ByteArray) (i : Nat) (h : i < s.size) : s[i] = byteAt s i := by
  have : i < s.data.toList.length := by simpa using h
  unfold byteAt
  rw [List.getD_eq_getElem?_getD, List.getElem?_eq_getElem this]
  rfl
theorem u8El : Elem Tryz.prog 81 5 (.int .u8 0) 1 1 := ⟨Tryz.underlying81, by kernel_rfl, rfl, by decide⟩
theorem below_blk {w w' : World} {B g : Nat} {o : Obj} (h : Below B w w') (hg : g < B) (ho : w.heap[g]? = some o) : w'.heap[g]? = some o := (h.block g hg).trans ho
theorem grown_blk {w w' : World} {g : Nat} {row : Option Nat} {o : Obj} (h : w.grownBy w' row) (ho : w.heap[g]? = some o) (hr : row ≠ some g) : w'.heap[g]? = some o := (h.block g (heap_lt ho) (fun e => hr e.symm)).trans ho
theorem alloc_blk {w : World} {g : Nat} {o o' : Obj} (ho : w.heap[g]? = some o) : (w.alloc o').heap[g]? = some o := (Go.RowKit.Below.heap_alloc w o' g (heap_lt ho)).trans ho
theorem below_drewN' {B : Nat} (w : World) (n : Nat) : Below B w (w.drewN n) := ⟨rfl, rfl, rfl, Nat.le_refl _, fun _ _ => rfl⟩
theorem own_set {w : World} {base size n : Nat} {e : TypeId} {v : Value} {xs : List Value} (h : w.ownsRow base e size v n xs) (p : Addr) (u : Value) (hp : v.ownBlock ≠ some p.block) : (w.setCell p u).ownsRow base e size v n xs := by
  refine ⟨h.1, ?_⟩
  rcases h.2 with hn | ⟨g, cap, cur, rfl, hbg, hg, rest⟩
  · exact .inl hn
  · exact .inr ⟨g, cap, cur, rfl, hbg, (Go.RowKit.Below.heap_setCell w p u g (fun e => hp (by rw [← e]; rfl))).trans hg, rest⟩
theorem set_blk {w : World} {g : Nat} {o : Obj} (h : w.heap[g]? = some o) (p : Addr) (u : Value) (hp : p.block ≠ g) : (w.setCell p u).heap[g]? = some o := (Go.RowKit.Below.heap_setCell w p u g (fun e => hp e.symm)).trans h
theorem set_same {w : World} {g i : Nat} {t : TypeId} {cs : Array Value} (h : w.heap[g]? = some (.cells cs t (0, 0))) (u : Value) : (w.setCell ⟨g, i, none⟩ u).heap[g]? = some (.cells (cs.setIfInBounds i u) t (0, 0)) := by
  simp [World.setCell, Array.getElem?_modify, h]
theorem reads_blk {w : World} {g : Nat} {t : TypeId} {cs : List Value} (h : w.heap[g]? = some (.cells cs.toArray t (0, 0))) : Reads w w.heap.size 1 (some ⟨g, 0, none⟩) cs.length cs :=
  ⟨by simp, fun _ => ⟨g, 0, rfl, heap_lt h, fun j u hu => by rw [Lib.cell_of_heap h]; simpa using hu⟩⟩
theorem bt {w0 w w' : World} (h : Below w0.heap.size w0 w) (h2 : Below w.heap.size w w') : Below w0.heap.size w0 w' := h.trans (h2.mono h.size)
theorem ba {w0 w : World} (h : Below w0.heap.size w0 w) (o : Obj) : Below w0.heap.size w0 (w.alloc o) := h.alloc h.size o
theorem bd {w0 w : World} (h : Below w0.heap.size w0 w) (n : Nat) : Below w0.heap.size w0 (w.drewN n) := ⟨h.os, h.tape, h.output, h.size, h.block⟩
theorem Reads.go {w w' : World} {size n : Nat} {A : Option Addr} {xs : List Value} (h : Reads w w.heap.size size A n xs) (hb : Below w.heap.size w w') : Reads w' w'.heap.size size A n xs := (h.below hb).more hb.size
theorem Reads.al {w : World} {size n : Nat} {A : Option Addr} {xs : List Value} (h : Reads w w.heap.size size A n xs) (o : Obj) : Reads (w.alloc o) (w.alloc o).heap.size size A n xs := (h.alloc (Nat.le_refl _) o).more (by simp)
theorem reads_blkN {w : World} {g size n : Nat} {t : TypeId} {cs : List Value} (h : w.heap[g]? = some (.cells cs.toArray t (0, 0))) (hl : cs.length = n * size) : Reads w w.heap.size size (some ⟨g, 0, none⟩) n cs :=
  ⟨hl, fun _ => ⟨g, 0, rfl, heap_lt h, fun j u hu => by rw [Lib.cell_of_heap h]; simpa using hu⟩⟩
theorem own_own_ne {b1 b2 s1 s2 n1 n2 : Nat} {e1 e2 : TypeId} {v1 v2 : Value} {x1 x2 : List Value} {w : World} (h1 : w.ownsRow b1 e1 s1 v1 n1 x1) (h2 : w.ownsRow b2 e2 s2 v2 n2 x2) (hne : e1 ≠ e2) : v1.ownBlock = none ∨ v1.ownBlock ≠ v2.ownBlock := by
  rcases h1.2 with ⟨rfl, _⟩ | ⟨g, cap, cur, rfl, _, hg, _⟩
  · exact .inl rfl
  · right
    intro he
    exact own_blk_ne h2 hg (fun e => hne e.symm) (he.symm.trans rfl)
theorem own_below {w w' : World} {base size n : Nat} {e : TypeId} {v : Value} {xs : List Value} (h : w.ownsRow base e size v n xs) (hb : Below w.heap.size w w') : w'.ownsRow base e size v n xs := by
  refine ⟨h.1, ?_⟩
  rcases h.2 with hn | ⟨g, cap, cur, rfl, hbg, hg, rest⟩
  · exact .inl hn
  · exact .inr ⟨g, cap, cur, rfl, hbg, (hb.block g (heap_lt hg)).trans hg, rest⟩
/-- make of one-cell elements -/
theorem run_mk1 {P : Program} {t e : TypeId} {z : Value} {bytes : Nat} (E : Elem P t e z 1 bytes) (hz : z.cells = #[z]) (kl kc : IntKind) (n c : Nat) (hnc : n ≤ c) (hbytes : bytes * c ≤ 281474976710656) (h63 : c ≤ 9223372036854775807) (w : World) :
    (Instr.makeSlice t (.int kl (n : Int)) (.int kc (c : Int))).run P w = .ok (.slice (some ⟨w.heap.size, 0, none⟩) n c) (w.alloc (.cells (madeCells #[z] c) e)) := by
  have := run_mk E kl kc n c hnc hbytes h63 w
  rwa [hz, Nat.mul_one] at this
def bs8 (l : List UInt8) : List Value := l.map fun b => Value.int .u8 (b.toNat : Int)
theorem bs8_app (l r : List UInt8) : bs8 (l ++ r) = bs8 l ++ bs8 r := by simp [bs8]
theorem own_conv {w : World} {base n c : Nat} {A : Option Addr} {l : List UInt8} (h : w.ownsRow base 5 1 (.slice A n c) n (bs8 l)) :
    (convert 81 9 (.slice A n c)).run Tryz.prog w = .ok (.string ⟨l.toArray⟩) w :=
  run_conv Tryz.underlying81 Tryz.underlying5 Tryz.underlying9 (Reads.of_own h)
/-- append(v, x), x a block that is known whole; short form -/
theorem wpList_ap {P : Program} {w : World} {ops : Array Oper} {rest : List Oper} {o : Oper} {a : Act} {Q : Exit → Act → World → Prop} {e : TypeId} {z : Value} {size bytes : Nat} {t : TypeId} (E : Elem P t e z size bytes)
    {w0 : World} {v : Value} {n : Nat} {xs : List Value} (hown : w.ownsRow w0.heap.size e size v n xs) (hb : Below w0.heap.size w0 w)
    (cs : List Value) {G : Nat} (hG : w.heap[G]? = some (.cells cs.toArray e (0, 0))) {s x : Operand} {m c : Nat}
    (h : ∀ g cap w', w'.ownsRow w0.heap.size e size (.slice (some ⟨g, 0, none⟩) (n + m) cap) (n + m) (xs ++ cs) → Below w0.heap.size w0 w' → w.grownBy w' v.ownBlock → wpList P ops Q rest (a.put o.dst (.slice (some ⟨g, 0, none⟩) (n + m) cap)) w')
    (hgd : o.guard = none := by rfl) (ho : o.op = .call { callee := .builtin .append, args := #[s, x], argTypes := #[t, t] } := by rfl) (hty : o.type = t := by rfl)
    (hs : a.eval s = v := by rfl) (hx : a.eval x = .slice (some ⟨G, 0, none⟩) m c := by rfl) (hl : cs.length = m * size := by rfl) (h1 : ∀ u ∈ cs, u.oneCell' = true := by simp [Value.oneCell'])
    (hm : 0 < m := by omega) (hbytes : (n + m) * bytes ≤ 140737488355328 := by omega) (h63 : n + m ≤ 140737488355328 := by omega) :
    wpList P ops Q (o :: rest) a w :=
  wpList_app E hgd s x ho hty n xs hs hx w0 hown hb cs hG hl h1 hm hbytes h63 h
theorem step_ap {P : Program} {w : World} {ops : Array Oper} {o : Oper} {a : Act} {K : Act → World → Prop} {Q : Exit → Act → World → Prop} {E0 : Prop} {e : TypeId} {z : Value} {size bytes : Nat} {t : TypeId} (E : Elem P t e z size bytes)
    {w0 : World} {v : Value} {n : Nat} {xs : List Value} (hown : w.ownsRow w0.heap.size e size v n xs) (hb : Below w0.heap.size w0 w)
    (cs : List Value) {G : Nat} (hG : w.heap[G]? = some (.cells cs.toArray e (0, 0))) {s x : Operand} {m c : Nat}
    (h : ∀ g cap w', w'.ownsRow w0.heap.size e size (.slice (some ⟨g, 0, none⟩) (n + m) cap) (n + m) (xs ++ cs) → Below w0.heap.size w0 w' → w.grownBy w' v.ownBlock → K (a.put o.dst (.slice (some ⟨g, 0, none⟩) (n + m) cap)) w')
    (hgd : o.guard = none := by rfl) (ho : o.op = .call { callee := .builtin .append, args := #[s, x], argTypes := #[t, t] } := by rfl) (hty : o.type = t := by rfl)
    (hs : a.eval s = v := by rfl) (hx : a.eval x = .slice (some ⟨G, 0, none⟩) m c := by rfl) (hl : cs.length = m * size := by rfl) (h1 : ∀ u ∈ cs, u.oneCell' = true := by simp [Value.oneCell'])
    (hm : 0 < m := by omega) (hbytes : (n + m) * bytes ≤ 140737488355328 := by omega) (h63 : n + m ≤ 140737488355328 := by omega) :
    if Region.wanted o (yielded ops a.tmps) = true then Oper.wp P o a w K Q else E0 :=
  step_app E hgd s x ho hty n xs hs hx w0 hown hb cs hG hl h1 hm hbytes h63 h
end Go.Proofs.YtcopnpllaoahaaaGreatDoor
namespace Go.Proofs.YtcopnpllaoahaaaGreatDoor
/-- n bits as a number -/
def nb : Nat → (Nat → Bool) → Nat
  | 0, _ => 0
  | n + 1, f => (if f n then 2 ^ n else 0) + nb n f
theorem nb_lt (n : Nat) (f : Nat → Bool) : nb n f < 2 ^ n := by
  induction n with
  | zero => simp [nb]
  | succ n ih => rw [nb, Nat.pow_succ]; split <;> omega
theorem nb_bit (n : Nat) (f : Nat → Bool) (j : Nat) : (nb n f).testBit j = (decide (j < n) && f j) := by
  induction n with
  | zero => simp [nb]
  | succ n ih =>
    rw [nb]
    have hlt := nb_lt n f
    by_cases hf : f n = true
    · rw [if_pos hf]
      rcases Nat.lt_trichotomy j n with h | h | h
      · rw [Nat.testBit_two_pow_add_gt h, ih]
        simp [h, Nat.lt_succ_of_lt h]
      · subst h
        rw [Nat.testBit_two_pow_add_eq, Nat.testBit_lt_two_pow hlt]
        simp [hf]
      · rw [Nat.testBit_lt_two_pow (Nat.lt_of_lt_of_le (show 2 ^ n + nb n f < 2 ^ (n + 1) by rw [Nat.pow_succ]; omega) (Nat.pow_le_pow_right (by omega) h))]
        simp; omega
    · rw [if_neg hf, Nat.zero_add, ih]
      have hf : f n = false := by simpa using hf
      rcases Nat.lt_trichotomy j n with h | h | h
      · simp [h, Nat.lt_succ_of_lt h]
      · subst h; simp [hf]
      · simp [show ¬ j < n by omega, show ¬ j < n + 1 by omega]
/-- words of 64 bits -/
abbrev W64 (l : List Nat) : Prop := ∀ x ∈ l, x < 18446744073709551616
def rbit (l : List Nat) (i : Nat) : Bool := (l.getD (i / 64) 0).testBit (i % 64)
/-- the row of n words with such bits -/
def rowOf (n : Nat) (f : Nat → Bool) : List Nat := (List.range n).map fun i => nb 64 fun j => f (64 * i + j)
theorem rowOf_len (n : Nat) (f : Nat → Bool) : (rowOf n f).length = n := by simp [rowOf]
theorem rowOf_get {n : Nat} {f : Nat → Bool} {i : Nat} (h : i < n) : (rowOf n f).getD i 0 = nb 64 fun j => f (64 * i + j) := by
  simp [rowOf, h]
theorem rowOf_w (n : Nat) (f : Nat → Bool) : W64 (rowOf n f) := by
  intro x hx
  obtain ⟨i, _, rfl⟩ := List.mem_map.1 hx
  exact nb_lt 64 _
theorem rowOf_bit {n : Nat} {f : Nat → Bool} {i : Nat} (h : i < 64 * n) : rbit (rowOf n f) i = f i := by
  unfold rbit
  rw [rowOf_get (by omega), nb_bit, decide_eq_true (by omega)]
  rw [Bool.true_and, show 64 * (i / 64) + i % 64 = i by omega]
theorem word_ext {x y : Nat} (hx : x < 18446744073709551616) (hy : y < 18446744073709551616) (h : ∀ j, j < 64 → x.testBit j = y.testBit j) : x = y := by
  refine Nat.eq_of_testBit_eq fun j => ?_
  by_cases hj : j < 64
  · exact h j hj
  · have hp : (2 : Nat) ^ 64 ≤ 2 ^ j := Nat.pow_le_pow_right (by omega) (by omega)
    rw [Nat.testBit_lt_two_pow (Nat.lt_of_lt_of_le hx hp), Nat.testBit_lt_two_pow (Nat.lt_of_lt_of_le hy hp)]
theorem row_ext {l m : List Nat} (hl : W64 l) (hm : W64 m) (hn : l.length = m.length) (h : ∀ i, i < 64 * l.length → rbit l i = rbit m i) : l = m := by
  refine List.ext_getElem hn fun i h1 h2 => word_ext (hl _ (List.getElem_mem h1)) (hm _ (List.getElem_mem h2)) fun j hj => ?_
  have := h (64 * i + j) (by omega)
  unfold rbit at this
  rw [show (64 * i + j) / 64 = i by omega, show (64 * i + j) % 64 = j by omega] at this
  simpa [h1, h2] using this
theorem row_eq {l : List Nat} {n : Nat} {f : Nat → Bool} (hl : W64 l) (hn : l.length = n) (h : ∀ i, i < 64 * n → rbit l i = f i) : l = rowOf n f := by
  subst hn
  exact row_ext hl (rowOf_w _ _) (rowOf_len _ _).symm fun i hi => by rw [h i hi, rowOf_bit hi]
theorem rowOf_congr {n : Nat} {f g : Nat → Bool} (h : ∀ i, i < 64 * n → f i = g i) : rowOf n f = rowOf n g :=
  row_eq (rowOf_w _ _) (rowOf_len _ _) fun i hi => by rw [rowOf_bit hi, h i hi]
theorem row_self {l : List Nat} (hl : W64 l) : l = rowOf l.length (rbit l) := row_eq hl rfl fun _ _ => rfl
/-! one bit turned -/
def setB (l : List Nat) (i : Nat) (v : Bool) : List Nat := if rbit l i = v then l else l.set (i / 64) (l.getD (i / 64) 0 ^^^ 2 ^ (i % 64))
theorem setB_len (l : List Nat) (i : Nat) (v : Bool) : (setB l i v).length = l.length := by unfold setB; split <;> simp
theorem setB_w {l : List Nat} (hl : W64 l) (i : Nat) (v : Bool) (hi : i < 64 * l.length) : W64 (setB l i v) := by
  unfold setB
  split
  · exact hl
  · intro x hx
    rcases List.mem_or_eq_of_mem_set hx with hx | hx
    · exact hl x hx
    · subst hx
      have h1 : l.getD (i / 64) 0 < 2 ^ 64 := by
        have : i / 64 < l.length := by omega
        simp only [List.getD_eq_getElem?_getD, List.getElem?_eq_getElem this]
        exact hl _ (List.getElem_mem this)
      exact Nat.xor_lt_two_pow h1 (Nat.pow_lt_pow_right (by omega) (by omega))
theorem setB_bit {l : List Nat} {i : Nat} {v : Bool} (hi : i < 64 * l.length) (j : Nat) : rbit (setB l i v) j = if j = i then v else rbit l j := by
  unfold setB
  by_cases h : rbit l i = v
  · rw [if_pos h]
    by_cases e : j = i
    · rw [if_pos e, e, h]
    · rw [if_neg e]
  · rw [if_neg h]
    unfold rbit at h ⊢
    have hlt : i / 64 < l.length := by omega
    by_cases e : j / 64 = i / 64
    · rw [e, List.getD_eq_getElem?_getD, List.getElem?_set_self hlt, Option.getD_some, Nat.testBit_xor, Nat.testBit_two_pow]
      by_cases e2 : j = i
      · subst e2
        rw [if_pos rfl, decide_eq_true rfl]
        cases hb : (l.getD (j / 64) 0).testBit (j % 64) <;> cases v <;> simp_all
      · rw [if_neg e2, decide_eq_false (by omega), Bool.xor_false]
    · rw [if_neg (fun h => e (by rw [h])), List.getD_eq_getElem?_getD, List.getElem?_set_ne (by omega), ← List.getD_eq_getElem?_getD]
end Go.Proofs.YtcopnpllaoahaaaGreatDoor
namespace Go.Proofs.YtcopnpllaoahaaaGreatDoor
open Go.RowKit
def ML (w : World) : Prop := ∃ m, w.cell? ⟨1, 0, none⟩ = some (.int .i64 m)
theorem ML.below {w w' : World} (h : ML w) (hb : Below w.heap.size w w') : ML w' := by
  obtain ⟨m, hm⟩ := h
  refine ⟨m, (hb.cell ?_).trans hm⟩
  rcases Nat.lt_or_ge 1 w.heap.size with hlt | hge
  · exact hlt
  · unfold World.cell? at hm
    simp [Array.getElem?_eq_none hge] at hm
theorem ml_of {w : World} (h : w.ShapedOpen Tryz.prog) : ML w := Go.Proofs.cell_of_shapedOpen_int (zero := #[.int .i64 0]) (t := 3) h (of_decide_eq_true (by kernel_rfl)) (by kernel_rfl) rfl (by kernel_rfl) (by kernel_rfl) Tryz.underlying3
end Go.Proofs.YtcopnpllaoahaaaGreatDoor
