/- append onto a row of the call's own, of a slice that reads as a list: nil, empty or not. Blocks of the call's own that are known whole, kept over callees. No condition. -/
import Derived.Test.YtcopnpllaoahaaaGreatDoorOwn
import Derived.Maps.AppendAt
import Derived.RegionTactic
import Derived.OwnWalk
import Derived.Laws.Tables
import Derived.Laws.Rows
import Derived.Laws.EntriesVeiled
namespace Go.Proofs.YtcopnpllaoahaaaGreatDoor
open Go.RowKit
section
variable {P : Program} (w : World)
theorem run_append_of_nil (base : Nat) (t ty e : TypeId) (i : TypeInfo) (size : Nat) (ht : P.underlying t = some (.slice e)) (hi : P.info? e = some i)
    (v : Value) (n : Nat) (xs : List Value) (hown : w.ownsRow base e size v n xs) (c : Nat) : (Builtin.append_ #[t, t] ty #[v, .slice none 0 c]).run P w = .ok v w := by
  rcases hown.2 with ⟨rfl, rfl⟩ | ⟨g, cap, cur, rfl, _, _, hnc, _⟩
  · simp [Builtin.append_, run_underlying ht, sizeOf, typeInfo, hi, Builtin.lenOf, Builtin.firstCells]
  · simp [Builtin.append_, run_underlying ht, sizeOf, typeInfo, hi, Builtin.lenOf, Builtin.firstCells, hnc, storeCells]
theorem run_apr {e : TypeId} {z : Value} {size bytes : Nat} {t : TypeId} (E : Elem P t e z size bytes) (base : Nat) (ty : TypeId)
    (v : Value) (n : Nat) (xs : List Value) (hown : w.ownsRow base e size v n xs)
    (B : Nat) (A : Option Addr) (m c : Nat) (news : List Value) (hr : Reads w B size A m news) (h1 : ∀ u ∈ news, u.oneCell' = true)
    (h63 : n + m ≤ 140737488355328) (hbytes : (n + m) * bytes ≤ 140737488355328) (hbase : base ≤ w.heap.size) :
    ∃ v' w', (Builtin.append_ #[t, t] ty #[v, .slice A m c]).run P w = .ok v' w' ∧ w'.ownsRow base e size v' (n + m) (xs ++ news) ∧ w.grownBy w' v.ownBlock := by
  obtain ⟨i, hi, hz, hsize, hby⟩ := info_parts E.hi
  rcases A with _ | ad
  · have hm : m = 0 := by
      rcases Nat.eq_zero_or_pos m with h0 | h0
      · exact h0
      · obtain ⟨_, _, h, _⟩ := hr.2 h0
        cases h
    subst hm
    have hn : news = [] := List.eq_nil_of_length_eq_zero (by simpa using hr.1)
    subst hn
    exact ⟨v, w, run_append_of_nil w base t ty e i size E.ht hi v n xs hown c, by simpa using hown, World.grownBy.refl w _⟩
  · have hcells : ∀ j u, news[j]? = some u → w.cell? (ad.add j) = some u := by
      intro j u hu
      rcases Nat.eq_zero_or_pos m with h0 | h0
      · subst h0
        have hn : news = [] := List.eq_nil_of_length_eq_zero (by simpa using hr.1)
        subst hn
        simp at hu
      · obtain ⟨b, off, h, _, hc⟩ := hr.2 h0
        injection h with h
        subst h
        rw [add_lit]
        exact hc j u hu
    obtain ⟨v', w', hrun, h2, h3, _, _⟩ := run_append_own_at (P := P) w base t ty e i z size bytes E.ht hi hz hsize hby E.hz E.hs v n xs hown ad m c news hr.1 hcells h1 (by unfold maxLen; omega) hbytes hbase
    exact ⟨v', w', hrun, h2, h3⟩
end
theorem wpList_apr {P : Program} {w : World} {ops : Array Oper} {rest : List Oper} {o : Oper} {a : Act} {Q : Exit → Act → World → Prop} {e : TypeId} {z : Value} {size bytes : Nat} {t : TypeId} (E : Elem P t e z size bytes)
    {w0 : World} {v : Value} {n : Nat} {xs : List Value} (hown : w.ownsRow w0.heap.size e size v n xs) (hb : Below w0.heap.size w0 w)
    {B : Nat} {A : Option Addr} {m c : Nat} {news : List Value} (hr : Reads w B size A m news) (h1 : ∀ u ∈ news, u.oneCell' = true) {s x : Operand}
    (h : ∀ v' w', w'.ownsRow w0.heap.size e size v' (n + m) (xs ++ news) → Below w0.heap.size w0 w' → w.grownBy w' v.ownBlock → wpList P ops Q rest (a.put o.dst v') w')
    (hgd : o.guard = none := by rfl) (ho : o.op = .call { callee := .builtin .append, args := #[s, x], argTypes := #[t, t] } := by rfl)
    (hs : a.eval s = v := by rfl) (hx : a.eval x = .slice A m c := by rfl)
    (hbytes : (n + m) * bytes ≤ 140737488355328 := by omega) (h63 : n + m ≤ 140737488355328 := by omega) :
    wpList P ops Q (o :: rest) a w := by
  obtain ⟨v', w', hrun, h2, h3⟩ := run_apr w E w0.heap.size o.type v n xs hown B A m c news hr h1 h63 hbytes hb.size
  refine wpList_plain hgd fun _ hK => ?_
  unfold Oper.wp execOp
  simp only [ho, resolve, invoke, builtin, Sem.run_bind, Sem.run_pure, Result.andThen_ok, List.map_toArray, List.map_cons, List.map_nil, hs, hx, hrun]
  exact hK _ _ (h v' w' h2 (below_own hb hown h3) h3)
theorem step_apr {P : Program} {w : World} {ops : Array Oper} {o : Oper} {a : Act} {K : Act → World → Prop} {Q : Exit → Act → World → Prop} {E0 : Prop} {e : TypeId} {z : Value} {size bytes : Nat} {t : TypeId} (E : Elem P t e z size bytes)
    {w0 : World} {v : Value} {n : Nat} {xs : List Value} (hown : w.ownsRow w0.heap.size e size v n xs) (hb : Below w0.heap.size w0 w)
    {B : Nat} {A : Option Addr} {m c : Nat} {news : List Value} (hr : Reads w B size A m news) (h1 : ∀ u ∈ news, u.oneCell' = true) {s x : Operand}
    (h : ∀ v' w', w'.ownsRow w0.heap.size e size v' (n + m) (xs ++ news) → Below w0.heap.size w0 w' → w.grownBy w' v.ownBlock → K (a.put o.dst v') w')
    (hgd : o.guard = none := by rfl) (ho : o.op = .call { callee := .builtin .append, args := #[s, x], argTypes := #[t, t] } := by rfl)
    (hs : a.eval s = v := by rfl) (hx : a.eval x = .slice A m c := by rfl)
    (hbytes : (n + m) * bytes ≤ 140737488355328 := by omega) (h63 : n + m ≤ 140737488355328 := by omega) :
    if Region.wanted o (yielded ops a.tmps) = true then Oper.wp P o a w K Q else E0 := by
  have hw : Region.wanted o (yielded ops a.tmps) = true := by simp [Region.wanted, hgd]
  rw [if_pos hw]
  obtain ⟨v', w', hrun, h2, h3⟩ := run_apr w E w0.heap.size o.type v n xs hown B A m c news hr h1 h63 hbytes hb.size
  unfold Oper.wp execOp
  simp only [ho, resolve, invoke, builtin, Sem.run_bind, Sem.run_pure, Result.andThen_ok, List.map_toArray, List.map_cons, List.map_nil, hs, hx, hrun]
  exact h v' w' h2 (below_own hb hown h3) h3
/-- a part of a slice, from k elements on: the address is the old one where nothing is left of the capacity -/
theorem Reads.cut {w : World} {B size n : Nat} {A : Option Addr} {xs : List Value} (h : Reads w B size A n xs) {k cap : Nat} (hk : k ≤ n) (hc : n ≤ cap) :
    Reads w B size (if cap = k then A else A.map (·.add (k * size))) (n - k) (xs.drop (k * size)) := by
  refine ⟨by rw [List.length_drop, h.1, Nat.sub_mul], fun hn => ?_⟩
  obtain ⟨b, off, rfl, hb, hcell⟩ := h.2 (by omega)
  rw [if_neg (by omega)]
  refine ⟨b, off + k * size, by rw [Option.map_some, add_lit], hb, fun j u hu => ?_⟩
  rw [show off + k * size + j = off + (k * size + j) by omega]
  exact hcell _ u (by rw [← hu, List.getElem?_drop])
theorem Reads.firsts {w : World} {B size n : Nat} {A : Option Addr} {xs : List Value} (h : Reads w B size A n xs) {k : Nat} (hk : k ≤ n) : Reads w B size A k (xs.take (k * size)) := by
  refine ⟨by rw [List.length_take, h.1]; exact Nat.min_eq_left (Nat.mul_le_mul_right _ hk), fun hn => ?_⟩
  obtain ⟨b, off, rfl, hb, hcell⟩ := h.2 (by omega)
  refine ⟨b, off, rfl, hb, fun j u hu => hcell _ u ?_⟩
  rw [List.getElem?_take] at hu
  split at hu
  · exact hu
  · cases hu
theorem flat2_take {α : Type} {f g : α → Value} (l : List α) (k : Nat) : (flat2 f g l).take (k * 2) = flat2 f g (l.take k) := by
  induction l generalizing k with
  | nil => simp [flat2]
  | cons x r ih =>
    cases k with
    | zero => simp [flat2]
    | succ k => rw [show (k + 1) * 2 = k * 2 + 1 + 1 by omega]; simp [flat2, ih]
theorem flat2_drop {α : Type} {f g : α → Value} (l : List α) (k : Nat) : (flat2 f g l).drop (k * 2) = flat2 f g (l.drop k) := by
  induction l generalizing k with
  | nil => simp [flat2]
  | cons x r ih =>
    cases k with
    | zero => simp [flat2]
    | succ k => rw [show (k + 1) * 2 = k * 2 + 1 + 1 by omega]; simp [flat2, ih]
theorem flat2_one {α : Type} {f g : α → Value} (l : List α) (hf : ∀ x, (f x).oneCell' = true) (hg : ∀ x, (g x).oneCell' = true) : ∀ u ∈ flat2 f g l, u.oneCell' = true := by
  induction l with
  | nil => simp [flat2]
  | cons x r ih => simp [flat2, hf, hg]; exact ih
theorem add_zero_ (a : Addr) : a.add 0 = a := by unfold Addr.add; simp
/-- x[:k] -/
theorem sl_to {P : Program} {t e : TypeId} {z : Value} {size bytes : Nat} (E : Elem P t e z size bytes) (he : P.elem t = e) (A : Option Addr) (len cap : Nat) (k : Int) (j : Nat) (hkj : k = j) (hj : j ≤ len) (hc : len ≤ cap) (W : World) :
    (Instr.sliceAt t (.slice A len cap) none (some (.int .i64 k)) none).run P W = .ok (.slice A j cap) W := by
  subst hkj
  have ht : P.underlying t = some (.slice (P.elem t)) := by rw [he]; exact E.ht
  obtain ⟨i, hi, _, hs, _⟩ := info_parts E.hi
  rw [run_sliceAt_slice W t _ _ _ _ ht, run_slice_h W t A len cap ht .i64 (j : Int) (by omega) (by omega), he]
  simp [sizeOf, typeInfo, hi, sliced, Result.andThen]
  intro _
  cases A with
  | none => rfl
  | some a => simp [add_zero_]
/-- x[k:] -/
theorem sl_from {P : Program} {t e : TypeId} {z : Value} {size bytes : Nat} (E : Elem P t e z size bytes) (he : P.elem t = e) {w : World} {B : Nat} {A : Option Addr} {len cap : Nat} {xs : List Value} (h : Reads w B size A len xs) (k : Int) (j : Nat) (hkj : k = j) (hj : j ≤ len) (hc : len ≤ cap) :
    ∃ A', (∀ W : World, (Instr.sliceAt t (.slice A len cap) (some (.int .i64 k)) none none).run P W = .ok (.slice A' (len - j) (cap - j)) W) ∧ Reads w B size A' (len - j) (xs.drop (j * size)) := by
  subst hkj
  refine ⟨_, fun W => ?_, h.cut hj hc⟩
  have ht : P.underlying t = some (.slice (P.elem t)) := by rw [he]; exact E.ht
  obtain ⟨i, hi, _, hs, _⟩ := info_parts E.hi
  rw [run_sliceAt_slice W t _ _ _ _ ht, run_slice_l W t A len cap ht .i64 (j : Int) (by omega) (by omega), he]
  simp [sizeOf, typeInfo, hi, sliced, Result.andThen, hs]
end Go.Proofs.YtcopnpllaoahaaaGreatDoor
namespace Go.Proofs.YtcopnpllaoahaaaGreatDoor
open Go.RowKit
theorem bcell {W w1 : World} (hb : Below W.heap.size W w1) : (∀ b o, b < W.heap.size → w1.cell? ⟨b, o, none⟩ = W.cell? ⟨b, o, none⟩) ∧ (∀ b o, b < W.heap.size → w1.frozen? ⟨b, o, none⟩ = W.frozen? ⟨b, o, none⟩) :=
  ⟨fun b o h => hb.cell (p := ⟨b, o, none⟩) h, fun b o h => hb.frozen (p := ⟨b, o, none⟩) h⟩
theorem ret_int {k : IntKind} {a b : Int} (h : a = b) : Ending.returned (.int k a) = .returned (.int k b) := by rw [h]
theorem bs {w0 w : World} (h : Below w0.heap.size w0 w) {p : Addr} {u : Value} (hp : w0.heap.size ≤ p.block) : Below w0.heap.size w0 (w.setCell p u) := h.setCell hp u
/-- cells of a list of three-cell structs -/
def flat3 {α : Type} (f g h : α → Value) : List α → List Value
  | [] => []
  | x :: r => f x :: g x :: h x :: flat3 f g h r
section
variable {α : Type} {f g h : α → Value}
theorem flat3_length (l : List α) : (flat3 f g h l).length = l.length * 3 := by
  induction l with
  | nil => rfl
  | cons x r ih => simp [flat3, ih]; omega
theorem flat3_append (l r : List α) : flat3 f g h (l ++ r) = flat3 f g h l ++ flat3 f g h r := by
  induction l with
  | nil => rfl
  | cons x t ih => simp [flat3, ih]
theorem flat3_at (l : List α) (k : Nat) (hk : k < l.length) : (flat3 f g h l)[k * 3]? = some (f l[k]) ∧ (flat3 f g h l)[k * 3 + 1]? = some (g l[k]) ∧ (flat3 f g h l)[k * 3 + 2]? = some (h l[k]) := by
  induction l generalizing k with
  | nil => simp at hk
  | cons x r ih =>
    cases k with
    | zero => simp [flat3]
    | succ k =>
      have := ih k (by simpa using hk)
      have e : (k + 1) * 3 = k * 3 + 1 + 1 + 1 := by omega
      rw [e]
      simpa [flat3] using this
end
theorem Reads.at3 {α : Type} {f g h : α → Value} {w : World} {B n k : Nat} {A : Option Addr} {l : List α} (hr : Reads w B 3 A n (flat3 f g h l)) (hn : n = l.length) (hk : k < l.length) :
    ∃ b off, A = some ⟨b, off, none⟩ ∧ b < B ∧ w.cell? ⟨b, off + k * 3, none⟩ = some (f l[k]) ∧ w.cell? ⟨b, off + k * 3 + 1, none⟩ = some (g l[k]) ∧ w.cell? ⟨b, off + k * 3 + 2, none⟩ = some (h l[k]) := by
  obtain ⟨b, off, e, hb, hc⟩ := hr.2 (by omega)
  obtain ⟨h1, h2, h3⟩ := flat3_at (f := f) (g := g) (h := h) l k hk
  exact ⟨b, off, e, hb, hc _ _ h1, by have := hc _ _ h2; rwa [← Nat.add_assoc] at this, by have := hc _ _ h3; rwa [← Nat.add_assoc] at this⟩
/-- what comes back: a slice that reads as xs, and an error -/
def RetSl (w : World) (size : Nat) (xs : List Value) (n : Nat) (err : Int) (e : Ending) (w' : World) : Prop :=
  ∃ A c, e = .returned (.tuple #[.slice A n c, .int .i64 err]) ∧ Below w.heap.size w w' ∧ Reads w' w'.heap.size size A n xs ∧ n ≤ c ∧ c ≤ 9223372036854775807
theorem RetSl.of_own {w w' : World} {size n k : Nat} {xs ys : List Value} {err err' : Int} {base : Nat} {e : TypeId} {v : Value} (h : w'.ownsRow base e size v k ys) (hb : Below w.heap.size w w') (he : err = err') (hn : k = n) (hx : ys = xs) :
    RetSl w size xs n err (.returned (.tuple #[v, .int .i64 err'])) w' := by
  subst hn hx he
  obtain ⟨A, c, rfl, hr, hc, hm⟩ := own_sl h
  exact ⟨A, c, rfl, hb, hr, hc, hm⟩
theorem RetSl.nil {w w' : World} {size n : Nat} {xs : List Value} {err : Int} (hb : Below w.heap.size w w') (hx : xs = []) (hn : n = 0) : RetSl w size xs n err (.returned (.tuple #[.slice none 0 0, .int .i64 err])) w' := by
  subst hx hn
  exact ⟨none, 0, rfl, hb, Reads.none_, Nat.le_refl _, by omega⟩
/-- since w0 only what is new has turned, and the blocks of L hold just this -/
structure Fr (w0 : World) (L : List (Nat × Obj)) (w : World) : Prop where
  bel : Below w0.heap.size w0 w
  blk : ∀ p ∈ L, w.heap[p.1]? = some p.2
section
variable {w0 w1 w2 : World} {L : List (Nat × Obj)}
theorem Fr.nil (h : Below w0.heap.size w0 w1) : Fr w0 [] w1 := ⟨h, fun p hp => by cases hp⟩
theorem Fr.start (w : World) : Fr w [] w := .nil (Below.refl _ _)
theorem Fr.go (h : Fr w0 L w1) (hb : Below w1.heap.size w1 w2) : Fr w0 L w2 := ⟨bt h.bel hb, fun p hp => (hb.block p.1 (heap_lt (h.blk p hp))).trans (h.blk p hp)⟩
theorem Fr.al (h : Fr w0 L w1) (o : Obj) : Fr w0 L (w1.alloc o) := h.go ((Below.refl _ _).alloc (Nat.le_refl _) o)
theorem Fr.drew (h : Fr w0 L w1) : Fr w0 L w1.drew := ⟨h.bel.drew, h.blk⟩
theorem Fr.drewN (h : Fr w0 L w1) (n : Nat) : Fr w0 L (w1.drewN n) := ⟨bd h.bel n, h.blk⟩
theorem Fr.cons (h : Fr w0 L w1) {g : Nat} {o : Obj} (hn : w1.heap[g]? = some o) : Fr w0 ((g, o) :: L) w1 := by
  refine ⟨h.bel, fun p hp => ?_⟩
  rcases List.mem_cons.1 hp with rfl | hp
  · exact hn
  · exact h.blk p hp
/-- a new block, kept in mind -/
theorem Fr.new (h : Fr w0 L w1) (o : Obj) : Fr w0 ((w1.heap.size, o) :: L) (w1.alloc o) := (h.al o).cons (alloc1_new _ _)
theorem Fr.newN (h : Fr w0 L w1) {g : Nat} (hg : w1.heap.size = g) (o : Obj) : Fr w0 ((g, o) :: L) (w1.alloc o) := by subst hg; exact h.new o
theorem Fr.sub {M : List (Nat × Obj)} (h : Fr w0 L w1) (hs : ∀ p ∈ M, p ∈ L) : Fr w0 M w1 := ⟨h.bel, fun p hp => h.blk p (hs p hp)⟩
theorem Fr.at {g : Nat} {o : Obj} (h : Fr w0 L w1) (hm : (g, o) ∈ L) : w1.heap[g]? = some o := h.blk _ hm
theorem Fr.lt {g : Nat} {o : Obj} (h : Fr w0 L w1) (hm : (g, o) ∈ L) : g < w1.heap.size := heap_lt (h.at hm)
/-- the head block is written -/
theorem Fr.set {g : Nat} {cs : Array Value} {t : TypeId} (h : Fr w0 ((g, .cells cs t (0, 0)) :: L) w1) (hg : w0.heap.size ≤ g) (hL : ∀ p ∈ L, p.1 ≠ g) (i : Nat) (u : Value) :
    Fr w0 ((g, .cells (cs.setIfInBounds i u) t (0, 0)) :: L) (w1.setCell ⟨g, i, none⟩ u) := by
  refine ⟨h.bel.setCell (p := ⟨g, i, none⟩) hg u, fun p hp => ?_⟩
  rcases List.mem_cons.1 hp with rfl | hp
  · exact set_same (h.blk _ List.mem_cons_self) u
  · exact set_blk (h.blk p (List.mem_cons_of_mem _ hp)) _ u (hL p hp).symm
theorem Fr.grown (h : Fr w0 L w1) {row : Option Nat} (hb : Below w0.heap.size w0 w2) (hg : w1.grownBy w2 row) (hr : ∀ p ∈ L, row ≠ some p.1) : Fr w0 L w2 := ⟨hb, fun p hp => grown_blk hg (h.blk p hp) (hr p hp)⟩
theorem Fr.grown1 {g : Nat} {o : Obj} (h : Fr w0 [(g, o)] w1) {row : Option Nat} (hb : Below w0.heap.size w0 w2) (hg : w1.grownBy w2 row) (hr : row ≠ some g) : Fr w0 [(g, o)] w2 :=
  h.grown hb hg fun p hp => by
    rcases List.mem_cons.1 hp with rfl | hp
    · exact hr
    · cases hp
theorem setRow_heap_other (w : World) (g k : Nat) (cs : Array Value) (h : k ≠ g) : (w.setRow g cs).heap[k]? = w.heap[k]? := by
  unfold World.setRow
  simp [Array.getElem?_modify, Ne.symm h]
theorem setRow_heap_at {w : World} {g : Nat} {old cs : Array Value} {t : TypeId} {fr : Nat × Nat} (h : w.heap[g]? = some (.cells old t fr)) : (w.setRow g cs).heap[g]? = some (.cells cs t fr) := setRow_heap w g old cs t fr h
/-- the block g is written whole -/
theorem Fr.row {g : Nat} {old cs : Array Value} {t : TypeId} (h : Fr w0 ((g, .cells old t (0, 0)) :: L) w1) (hg : w0.heap.size ≤ g) (hL : ∀ p ∈ L, p.1 ≠ g) :
    Fr w0 ((g, .cells cs t (0, 0)) :: L) (w1.setRow g cs) := by
  refine ⟨⟨h.bel.os, h.bel.tape, h.bel.output, by simpa [World.setRow] using h.bel.size, fun k hk => ?_⟩, fun p hp => ?_⟩
  · rw [setRow_heap_other _ _ _ _ (by omega)]; exact h.bel.block k hk
  rcases List.mem_cons.1 hp with rfl | hp
  · exact setRow_heap_at (h.blk _ List.mem_cons_self)
  · rw [setRow_heap_other _ _ _ _ (hL p hp)]; exact h.blk p (List.mem_cons_of_mem _ hp)
end
end Go.Proofs.YtcopnpllaoahaaaGreatDoor
