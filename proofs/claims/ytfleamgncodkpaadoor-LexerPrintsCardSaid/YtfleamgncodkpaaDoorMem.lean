/- Plain words for memory: a slice value reads as a list of cells; kept over new memory. No condition. -/
import Derived.Below
import Derived.Laws.OwnMore
import Derived.Deep.AppendLies
import Derived.Deep.Draws
import Derived.WalkKit
namespace Go.Proofs.YtfleamgncodkpaaDoor
open Go.RowKit

theorem block_of_add (a : Addr) (n : Nat) : (a.add n).block = a.block := by unfold Addr.add; split <;> rfl
theorem add_of_add (a : Addr) (i j : Nat) : (a.add i).add j = a.add (i + j) := by
  unfold Addr.add
  by_cases hi : i = 0 <;> by_cases hj : j = 0 <;> simp [hi, hj, Nat.add_assoc]
theorem add_lit (b off n : Nat) : (⟨b, off, none⟩ : Addr).add n = ⟨b, off + n, none⟩ := by
  unfold Addr.add; split <;> simp_all

/-- the slice value of address A and length n reads as the cells xs, all below block B -/
def Reads (w : World) (B size : Nat) (A : Option Addr) (n : Nat) (xs : List Value) : Prop :=
  xs.length = n * size ∧ (0 < n → ∃ b off, A = some ⟨b, off, none⟩ ∧ b < B ∧ ∀ j u, xs[j]? = some u → w.cell? ⟨b, off + j, none⟩ = some u)

section
variable {w w' : World} {B B' size n : Nat} {A : Option Addr} {xs : List Value}
theorem Reads.none_ : Reads w B size A 0 [] := ⟨by simp, fun h => absurd h (by omega)⟩
theorem Reads.keep (h : Reads w B size A n xs) (hk : ∀ p : Addr, p.block < B → w'.cell? p = w.cell? p) : Reads w' B size A n xs :=
  ⟨h.1, fun hn => by
    obtain ⟨b, off, e, hb, hc⟩ := h.2 hn
    exact ⟨b, off, e, hb, fun j u hu => (hk _ hb).trans (hc j u hu)⟩⟩
theorem Reads.more (h : Reads w B size A n xs) (hB : B ≤ B') : Reads w B' size A n xs :=
  ⟨h.1, fun hn => by
    obtain ⟨b, off, e, hb, hc⟩ := h.2 hn
    exact ⟨b, off, e, by omega, hc⟩⟩
theorem Reads.below (h : Reads w B size A n xs) (hb : Below B w w') : Reads w' B size A n xs := h.keep fun _ hp => hb.cell hp
theorem Reads.below' (h : Reads w B size A n xs) (hb : Below B' w w') (hB : B ≤ B') : Reads w' B size A n xs := h.keep fun _ hp => hb.cell (by omega)
theorem Reads.drew (h : Reads w B size A n xs) : Reads w.drew B size A n xs := h
theorem Reads.drewN (h : Reads w B size A n xs) (k : Nat) : Reads (w.drewN k) B size A n xs := h
theorem Reads.alloc (h : Reads w B size A n xs) (hB : B ≤ w.heap.size) (o : Obj) : Reads (w.alloc o) B size A n xs := h.keep fun p hp => World.cell?_alloc_lt w o p (by omega)
theorem Reads.setCell (h : Reads w B size A n xs) {p : Addr} (hB : B ≤ p.block) (u : Value) : Reads (w.setCell p u) B size A n xs :=
  h.keep fun q hq => World.cell?_setCell_other w p q u (fun e => by subst e; omega)
theorem Reads.grown (h : Reads w B size A n xs) {row : Option Nat} (hg : w.grownBy w' row) (hB : B ≤ w.heap.size) (hr : ∀ g, row = some g → B ≤ g) : Reads w' B size A n xs :=
  h.keep fun p hp => World.cell?_of_block (hg.block p.block (by omega) (fun e => by have := hr _ e.symm; omega))
theorem Reads.of_own {base : Nat} {e : TypeId} {c : Nat} (h : w.ownsRow base e size (.slice A n c) n xs) : Reads w w.heap.size size A n xs := by
  refine ⟨h.1, fun hn => ?_⟩
  obtain ⟨g, cap, hv, _, hlt⟩ := h.form hn
  have hA : A = some ⟨g, 0, none⟩ := by injection hv
  subst hA
  refine ⟨_, _, rfl, hlt, fun j u hu => ?_⟩
  have := h.cells (g := g) rfl j u hu
  rwa [add_lit] at this
end

/-- cells of a list of two-cell structs -/
def flat2 {α : Type} (f g : α → Value) : List α → List Value
  | [] => []
  | x :: r => f x :: g x :: flat2 f g r
section
variable {α : Type} {f g : α → Value}
theorem flat2_length (l : List α) : (flat2 f g l).length = l.length * 2 := by
  induction l with
  | nil => rfl
  | cons x r ih => simp [flat2, ih]; omega
theorem flat2_append (l r : List α) : flat2 f g (l ++ r) = flat2 f g l ++ flat2 f g r := by
  induction l with
  | nil => rfl
  | cons x t ih => simp [flat2, ih]
theorem flat2_at (l : List α) (k : Nat) (h : k < l.length) : (flat2 f g l)[k * 2]? = some (f l[k]) ∧ (flat2 f g l)[k * 2 + 1]? = some (g l[k]) := by
  induction l generalizing k with
  | nil => simp at h
  | cons x r ih =>
    cases k with
    | zero => simp [flat2]
    | succ k =>
      have := ih k (by simpa using h)
      have e : (k + 1) * 2 = k * 2 + 1 + 1 := by omega
      rw [e]
      simpa [flat2] using this
end
theorem Reads.at2 {α : Type} {f g : α → Value} {w : World} {B n k : Nat} {A : Option Addr} {l : List α} (h : Reads w B 2 A n (flat2 f g l)) (hn : n = l.length) (hk : k < l.length) :
    ∃ b off, A = some ⟨b, off, none⟩ ∧ b < B ∧ w.cell? ⟨b, off + k * 2, none⟩ = some (f l[k]) ∧ w.cell? ⟨b, off + k * 2 + 1, none⟩ = some (g l[k]) := by
  obtain ⟨b, off, e, hb, hc⟩ := h.2 (by omega)
  obtain ⟨h1, h2⟩ := flat2_at (f := f) (g := g) l k hk
  exact ⟨b, off, e, hb, hc _ _ h1, by have := hc _ _ h2; rwa [← Nat.add_assoc] at this⟩
end Go.Proofs.YtfleamgncodkpaaDoor
namespace Go.Proofs.YtfleamgncodkpaaDoor
open Go.RowKit
/-- slice type t has elements e, whose zero is z, of so many cells and bytes -/
structure Elem (P : Program) (t e : TypeId) (z : Value) (size bytes : Nat) : Prop where
  ht : P.underlying t = some (.slice e)
  hi : (P.info? e).map (fun i => (i.zero, i.size, i.bytes)) = some (some z, size, bytes)
  hz : z.cells.size = size
  hs : 0 < size
theorem alloc1_new (w : World) (o : Obj) : (w.alloc o).heap[w.heap.size]? = some o := heap_alloc_new w o
theorem alloc2_new (w : World) (o o' : Obj) : ((w.alloc o').alloc o).heap[w.heap.size + 1]? = some o := by
  have := heap_alloc_new (w.alloc o') o
  simpa using this
theorem alloc3_new (w : World) (o o' o'' : Obj) : (((w.alloc o'').alloc o').alloc o).heap[w.heap.size + 1 + 1]? = some o := by
  have := heap_alloc_new ((w.alloc o'').alloc o') o
  simpa using this
theorem alloc4_new (w : World) (o o' o'' o3 : Obj) : ((((w.alloc o3).alloc o'').alloc o').alloc o).heap[w.heap.size + 1 + 1 + 1]? = some o := by
  have := heap_alloc_new (((w.alloc o3).alloc o'').alloc o') o
  simpa using this
theorem below_own {w0 w w' : World} {e : TypeId} {size n : Nat} {v : Value} {xs : List Value} (hb : Below w0.heap.size w0 w) (hown : w.ownsRow w0.heap.size e size v n xs) (hg : w.grownBy w' v.ownBlock) : Below w0.heap.size w0 w' :=
  hb.grown hg hb.size fun k hk => (hown.lt k hk).1

/-- append(v, x): x lies in a block that is known whole -/
theorem wpList_app {P : Program} {w : World} {ops : Array Oper} {rest : List Oper} {o : Oper} {a : Act} {Q : Exit → Act → World → Prop} {e : TypeId} {z : Value} {size bytes : Nat} {t : TypeId} (E : Elem P t e z size bytes)
    (hgd : o.guard = none) (s x : Operand) (ho : o.op = .call { callee := .builtin .append, args := #[s, x], argTypes := #[t, t] }) (hty : o.type = t)
    {v : Value} (n : Nat) (xs : List Value) (hs : a.eval s = v) {G m c : Nat} (hx : a.eval x = .slice (some ⟨G, 0, none⟩) m c)
    (w0 : World) (hown : w.ownsRow w0.heap.size e size v n xs) (hb : Below w0.heap.size w0 w)
    (cs : List Value) (hG : w.heap[G]? = some (.cells cs.toArray e (0, 0))) (hl : cs.length = m * size) (h1 : ∀ u ∈ cs, u.oneCell' = true)
    (hm : 0 < m) (hbytes : (n + m) * bytes ≤ 140737488355328) (h63 : n + m ≤ 140737488355328)
    (h : ∀ g cap w', w'.ownsRow w0.heap.size e size (.slice (some ⟨g, 0, none⟩) (n + m) cap) (n + m) (xs ++ cs) → Below w0.heap.size w0 w' → w.grownBy w' v.ownBlock → wpList P ops Q rest (a.put o.dst (.slice (some ⟨g, 0, none⟩) (n + m) cap)) w') :
    wpList P ops Q (o :: rest) a w := by
  obtain ⟨i, hi, hz0, hz1, hz2⟩ := info_parts E.hi
  exact wpList_append_lies w hgd s x t ho w0.heap.size e i z size bytes (hty ▸ E.ht) hi hz0 hz1 hz2 E.hz E.hs v n xs hs hown ⟨G, 0, none⟩ m c cs hx hl (World.news_of_block hG) h1 hm (by unfold maxLen; omega) hbytes hb.size _ rfl
    fun g cap w' h2 h3 _ _ => h g cap w' h2 (below_own hb hown h3) h3
/-- the same at a step of a region that draws -/
theorem step_app {P : Program} {w : World} {ops : Array Oper} {o : Oper} {a : Act} {K : Act → World → Prop} {Q : Exit → Act → World → Prop} {E0 : Prop} {e : TypeId} {z : Value} {size bytes : Nat} {t : TypeId} (E : Elem P t e z size bytes)
    (hgd : o.guard = none) (s x : Operand) (ho : o.op = .call { callee := .builtin .append, args := #[s, x], argTypes := #[t, t] }) (hty : o.type = t)
    {v : Value} (n : Nat) (xs : List Value) (hs : a.eval s = v) {G m c : Nat} (hx : a.eval x = .slice (some ⟨G, 0, none⟩) m c)
    (w0 : World) (hown : w.ownsRow w0.heap.size e size v n xs) (hb : Below w0.heap.size w0 w)
    (cs : List Value) (hG : w.heap[G]? = some (.cells cs.toArray e (0, 0))) (hl : cs.length = m * size) (h1 : ∀ u ∈ cs, u.oneCell' = true)
    (hm : 0 < m) (hbytes : (n + m) * bytes ≤ 140737488355328) (h63 : n + m ≤ 140737488355328)
    (h : ∀ g cap w', w'.ownsRow w0.heap.size e size (.slice (some ⟨g, 0, none⟩) (n + m) cap) (n + m) (xs ++ cs) → Below w0.heap.size w0 w' → w.grownBy w' v.ownBlock → K (a.put o.dst (.slice (some ⟨g, 0, none⟩) (n + m) cap)) w') :
    if Region.wanted o (yielded ops a.tmps) = true then Oper.wp P o a w K Q else E0 := by
  obtain ⟨i, hi, hz0, hz1, hz2⟩ := info_parts E.hi
  exact step_append_lies w hgd s x t ho w0.heap.size e i z size bytes (hty ▸ E.ht) hi hz0 hz1 hz2 E.hz E.hs v n xs hs hown ⟨G, 0, none⟩ m c cs hx hl (World.news_of_block hG) h1 hm (by unfold maxLen; omega) hbytes hb.size _ rfl
    fun g cap w' h2 h3 _ _ => h g cap w' h2 (below_own hb hown h3) h3
end Go.Proofs.YtfleamgncodkpaaDoor

namespace Go.Proofs.YtfleamgncodkpaaDoor
open Go.RowKit
theorem own_sl {w : World} {base : Nat} {e : TypeId} {size n : Nat} {v : Value} {xs : List Value} (h : w.ownsRow base e size v n xs) :
    ∃ A c, v = .slice A n c ∧ Reads w w.heap.size size A n xs ∧ n ≤ c ∧ c ≤ 9223372036854775807 := by
  have h' := h
  rcases h.2 with ⟨rfl, rfl⟩ | ⟨g, cap, cur, rfl, hb, hg, hc, hm, _⟩
  · exact ⟨none, 0, rfl, Reads.of_own h', Nat.le_refl _, by omega⟩
  · exact ⟨_, cap, rfl, Reads.of_own h', hc, by unfold maxLen at hm; exact hm⟩
end Go.Proofs.YtfleamgncodkpaaDoor
