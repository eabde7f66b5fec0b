/- append onto a row of the call's own, of a slice that reads as a list: nil, empty or not. -/
import Derived.Test.YtmpdgckccgbdnaaDoorOwn
import Derived.Maps.AppendAt
import Derived.RegionTactic
import Derived.OwnWalk
namespace Go.Proofs.YtmpdgckccgbdnaaDoor
open Go.RowKit
section
variable {P : Program} (w : World)
theorem run_append_of_nil (base : Nat) (t ty e : TypeId) (i : TypeInfo) (size : Nat) (ht : P.underlying t = some (.slice e)) (hi : P.info? e = some i)
    (v : Value) (n : Nat) (xs : List Value) (hown : w.ownsRow base e size v n xs) (c : Nat) : (Builtin.append_ #[t, t] ty #[v, .slice none 0 c]).run P w = .ok v w := by
  rcases hown.2 with ⟨rfl, rfl⟩ | ⟨g, cap, cur, rfl, _, _, hnc, _⟩
  · simp [Builtin.append_, run_underlying ht, sizeOf, typeInfo, hi, Builtin.lenOf, Builtin.firstCells]
  · simp [Builtin.append_, run_underlying ht, sizeOf, typeInfo, hi, Builtin.lenOf, Builtin.firstCells, hnc, storeCells]
theorem run_apr {e : TypeId} {z : Value} {size bytes : Nat} {t : TypeId} (E : Elem P t e z size bytes) (base : Nat) (ty : TypeId)
    (v : Value) (n : Nat) (xs : List Value) (hown : w.ownsRow base e size v n xs)
    (B : Nat) (A : Option Addr) (m c : Nat) (news : List Value) (hr : Reads w B size A m news) (h1 : ∀ u ∈ news, u.oneCell' = true)
    (h63 : n + m ≤ 140737488355328) (hbytes : (n + m) * bytes ≤ 140737488355328) (hbase : base ≤ w.heap.size) :
    ∃ v' w', (Builtin.append_ #[t, t] ty #[v, .slice A m c]).run P w = .ok v' w' ∧ w'.ownsRow base e size v' (n + m) (xs ++ news) ∧ w.grownBy w' v.ownBlock := by
  obtain ⟨i, hi, hz, hsize, hby⟩ := info_parts E.hi
  rcases A with _ | ad
  · have hm : m = 0 := by
      rcases Nat.eq_zero_or_pos m with h0 | h0
      · exact h0
      · obtain ⟨_, _, h, _⟩ := hr.2 h0
        cases h
    subst hm
    have hn : news = [] := List.eq_nil_of_length_eq_zero (by simpa using hr.1)
    subst hn
    exact ⟨v, w, run_append_of_nil w base t ty e i size E.ht hi v n xs hown c, by simpa using hown, World.grownBy.refl w _⟩
  · have hcells : ∀ j u, news[j]? = some u → w.cell? (ad.add j) = some u := by
      intro j u hu
      rcases Nat.eq_zero_or_pos m with h0 | h0
      · subst h0
        have hn : news = [] := List.eq_nil_of_length_eq_zero (by simpa using hr.1)
        subst hn
        simp at hu
      · obtain ⟨b, off, h, _, hc⟩ := hr.2 h0
        injection h with h
        subst h
        rw [add_lit]
        exact hc j u hu
    obtain ⟨v', w', hrun, h2, h3, _, _⟩ := run_append_own_at (P := P) w base t ty e i z size bytes E.ht hi hz hsize hby E.hz E.hs v n xs hown ad m c news hr.1 hcells h1 (by unfold maxLen; omega) hbytes hbase
    exact ⟨v', w', hrun, h2, h3⟩
end
theorem wpList_apr {P : Program} {w : World} {ops : Array Oper} {rest : List Oper} {o : Oper} {a : Act} {Q : Exit → Act → World → Prop} {e : TypeId} {z : Value} {size bytes : Nat} {t : TypeId} (E : Elem P t e z size bytes)
    {w0 : World} {v : Value} {n : Nat} {xs : List Value} (hown : w.ownsRow w0.heap.size e size v n xs) (hb : Below w0.heap.size w0 w)
    {B : Nat} {A : Option Addr} {m c : Nat} {news : List Value} (hr : Reads w B size A m news) (h1 : ∀ u ∈ news, u.oneCell' = true) {s x : Operand}
    (h : ∀ v' w', w'.ownsRow w0.heap.size e size v' (n + m) (xs ++ news) → Below w0.heap.size w0 w' → w.grownBy w' v.ownBlock → wpList P ops Q rest (a.put o.dst v') w')
    (hgd : o.guard = none := by rfl) (ho : o.op = .call { callee := .builtin .append, args := #[s, x], argTypes := #[t, t] } := by rfl)
    (hs : a.eval s = v := by rfl) (hx : a.eval x = .slice A m c := by rfl)
    (hbytes : (n + m) * bytes ≤ 140737488355328 := by omega) (h63 : n + m ≤ 140737488355328 := by omega) :
    wpList P ops Q (o :: rest) a w := by
  obtain ⟨v', w', hrun, h2, h3⟩ := run_apr w E w0.heap.size o.type v n xs hown B A m c news hr h1 h63 hbytes hb.size
  refine wpList_plain hgd fun _ hK => ?_
  unfold Oper.wp execOp
  simp only [ho, resolve, invoke, builtin, Sem.run_bind, Sem.run_pure, Result.andThen_ok, List.map_toArray, List.map_cons, List.map_nil, hs, hx, hrun]
  exact hK _ _ (h v' w' h2 (below_own hb hown h3) h3)
theorem step_apr {P : Program} {w : World} {ops : Array Oper} {o : Oper} {a : Act} {K : Act → World → Prop} {Q : Exit → Act → World → Prop} {E0 : Prop} {e : TypeId} {z : Value} {size bytes : Nat} {t : TypeId} (E : Elem P t e z size bytes)
    {w0 : World} {v : Value} {n : Nat} {xs : List Value} (hown : w.ownsRow w0.heap.size e size v n xs) (hb : Below w0.heap.size w0 w)
    {B : Nat} {A : Option Addr} {m c : Nat} {news : List Value} (hr : Reads w B size A m news) (h1 : ∀ u ∈ news, u.oneCell' = true) {s x : Operand}
    (h : ∀ v' w', w'.ownsRow w0.heap.size e size v' (n + m) (xs ++ news) → Below w0.heap.size w0 w' → w.grownBy w' v.ownBlock → K (a.put o.dst v') w')
    (hgd : o.guard = none := by rfl) (ho : o.op = .call { callee := .builtin .append, args := #[s, x], argTypes := #[t, t] } := by rfl)
    (hs : a.eval s = v := by rfl) (hx : a.eval x = .slice A m c := by rfl)
    (hbytes : (n + m) * bytes ≤ 140737488355328 := by omega) (h63 : n + m ≤ 140737488355328 := by omega) :
    if Region.wanted o (yielded ops a.tmps) = true then Oper.wp P o a w K Q else E0 := by
  have hw : Region.wanted o (yielded ops a.tmps) = true := by simp [Region.wanted, hgd]
  rw [if_pos hw]
  obtain ⟨v', w', hrun, h2, h3⟩ := run_apr w E w0.heap.size o.type v n xs hown B A m c news hr h1 h63 hbytes hb.size
  unfold Oper.wp execOp
  simp only [ho, resolve, invoke, builtin, Sem.run_bind, Sem.run_pure, Result.andThen_ok, List.map_toArray, List.map_cons, List.map_nil, hs, hx, hrun]
  exact h v' w' h2 (below_own hb hown h3) h3
/-- a part of a slice, from k elements on: the address is the old one where nothing is left of the capacity -/
theorem Reads.cut {w : World} {B size n : Nat} {A : Option Addr} {xs : List Value} (h : Reads w B size A n xs) {k cap : Nat} (hk : k ≤ n) (hc : n ≤ cap) :
    Reads w B size (if cap = k then A else A.map (·.add (k * size))) (n - k) (xs.drop (k * size)) := by
  refine ⟨by rw [List.length_drop, h.1, Nat.sub_mul], fun hn => ?_⟩
  obtain ⟨b, off, rfl, hb, hcell⟩ := h.2 (by omega)
  rw [if_neg (by omega)]
  refine ⟨b, off + k * size, by rw [Option.map_some, add_lit], hb, fun j u hu => ?_⟩
  rw [show off + k * size + j = off + (k * size + j) by omega]
  exact hcell _ u (by rw [← hu, List.getElem?_drop])
theorem Reads.firsts {w : World} {B size n : Nat} {A : Option Addr} {xs : List Value} (h : Reads w B size A n xs) {k : Nat} (hk : k ≤ n) : Reads w B size A k (xs.take (k * size)) := by
  refine ⟨by rw [List.length_take, h.1]; exact Nat.min_eq_left (Nat.mul_le_mul_right _ hk), fun hn => ?_⟩
  obtain ⟨b, off, rfl, hb, hcell⟩ := h.2 (by omega)
  refine ⟨b, off, rfl, hb, fun j u hu => hcell _ u ?_⟩
  rw [List.getElem?_take] at hu
  split at hu
  · exact hu
  · cases hu
theorem flat2_take {α : Type} {f g : α → Value} (l : List α) (k : Nat) : (flat2 f g l).take (k * 2) = flat2 f g (l.take k) := by
  induction l generalizing k with
  | nil => simp [flat2]
  | cons x r ih =>
    cases k with
    | zero => simp [flat2]
    | succ k => rw [show (k + 1) * 2 = k * 2 + 1 + 1 by omega]; simp [flat2, ih]
theorem flat2_drop {α : Type} {f g : α → Value} (l : List α) (k : Nat) : (flat2 f g l).drop (k * 2) = flat2 f g (l.drop k) := by
  induction l generalizing k with
  | nil => simp [flat2]
  | cons x r ih =>
    cases k with
    | zero => simp [flat2]
    | succ k => rw [show (k + 1) * 2 = k * 2 + 1 + 1 by omega]; simp [flat2, ih]
theorem flat2_one {α : Type} {f g : α → Value} (l : List α) (hf : ∀ x, (f x).oneCell' = true) (hg : ∀ x, (g x).oneCell' = true) : ∀ u ∈ flat2 f g l, u.oneCell' = true := by
  induction l with
  | nil => simp [flat2]
  | cons x r ih => simp [flat2, hf, hg]; exact ih
theorem add_zero_ (a : Addr) : a.add 0 = a := by unfold Addr.add; simp
/-- x[:k] -/
theorem sl_to {P : Program} {t e : TypeId} {z : Value} {size bytes : Nat} (E : Elem P t e z size bytes) (he : P.elem t = e) (A : Option Addr) (len cap : Nat) (k : Int) (j : Nat) (hkj : k = j) (hj : j ≤ len) (hc : len ≤ cap) (W : World) :
    (Instr.sliceAt t (.slice A len cap) none (some (.int .i64 k)) none).run P W = .ok (.slice A j cap) W := by
  subst hkj
  have ht : P.underlying t = some (.slice (P.elem t)) := by rw [he]; exact E.ht
  obtain ⟨i, hi, _, hs, _⟩ := info_parts E.hi
  rw [run_sliceAt_slice W t _ _ _ _ ht, run_slice_h W t A len cap ht .i64 (j : Int) (by omega) (by omega), he]
  simp [sizeOf, typeInfo, hi, sliced, Result.andThen]
  intro _
  cases A with
  | none => rfl
  | some a => simp [add_zero_]
/-- x[k:] -/
theorem sl_from {P : Program} {t e : TypeId} {z : Value} {size bytes : Nat} (E : Elem P t e z size bytes) (he : P.elem t = e) {w : World} {B : Nat} {A : Option Addr} {len cap : Nat} {xs : List Value} (h : Reads w B size A len xs) (k : Int) (j : Nat) (hkj : k = j) (hj : j ≤ len) (hc : len ≤ cap) :
    ∃ A', (∀ W : World, (Instr.sliceAt t (.slice A len cap) (some (.int .i64 k)) none none).run P W = .ok (.slice A' (len - j) (cap - j)) W) ∧ Reads w B size A' (len - j) (xs.drop (j * size)) := by
  subst hkj
  refine ⟨_, fun W => ?_, h.cut hj hc⟩
  have ht : P.underlying t = some (.slice (P.elem t)) := by rw [he]; exact E.ht
  obtain ⟨i, hi, _, hs, _⟩ := info_parts E.hi
  rw [run_sliceAt_slice W t _ _ _ _ ht, run_slice_l W t A len cap ht .i64 (j : Int) (by omega) (by omega), he]
  simp [sizeOf, typeInfo, hi, sliced, Result.andThen, hs]
end Go.Proofs.YtmpdgckccgbdnaaDoor
