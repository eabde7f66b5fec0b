/- Blocks of the call's own that are known whole, kept over callees. No condition. -/
import Derived.Test.YtmpdgckccgbdnaaDoorApp
import Derived.Laws.Tables
import Derived.Laws.Rows
import Derived.Laws.EntriesVeiled
namespace Go.Proofs.YtmpdgckccgbdnaaDoor
open Go.RowKit
theorem bcell {W w1 : World} (hb : Below W.heap.size W w1) : (∀ b o, b < W.heap.size → w1.cell? ⟨b, o, none⟩ = W.cell? ⟨b, o, none⟩) ∧ (∀ b o, b < W.heap.size → w1.frozen? ⟨b, o, none⟩ = W.frozen? ⟨b, o, none⟩) :=
  ⟨fun b o h => hb.cell (p := ⟨b, o, none⟩) h, fun b o h => hb.frozen (p := ⟨b, o, none⟩) h⟩
theorem ret_int {k : IntKind} {a b : Int} (h : a = b) : Ending.returned (.int k a) = .returned (.int k b) := by rw [h]
theorem bs {w0 w : World} (h : Below w0.heap.size w0 w) {p : Addr} {u : Value} (hp : w0.heap.size ≤ p.block) : Below w0.heap.size w0 (w.setCell p u) := h.setCell hp u
/-- cells of a list of three-cell structs -/
def flat3 {α : Type} (f g h : α → Value) : List α → List Value
  | [] => []
  | x :: r => f x :: g x :: h x :: flat3 f g h r
section
variable {α : Type} {f g h : α → Value}
theorem flat3_length (l : List α) : (flat3 f g h l).length = l.length * 3 := by
  induction l with
  | nil => rfl
  | cons x r ih => simp [flat3, ih]; omega
theorem flat3_append (l r : List α) : flat3 f g h (l ++ r) = flat3 f g h l ++ flat3 f g h r := by
  induction l with
  | nil => rfl
  | cons x t ih => simp [flat3, ih]
theorem flat3_at (l : List α) (k : Nat) (hk : k < l.length) : (flat3 f g h l)[k * 3]? = some (f l[k]) ∧ (flat3 f g h l)[k * 3 + 1]? = some (g l[k]) ∧ (flat3 f g h l)[k * 3 + 2]? = some (h l[k]) := by
  induction l generalizing k with
  | nil => simp at hk
  | cons x r ih =>
    cases k with
    | zero => simp [flat3]
    | succ k =>
      have := ih k (by simpa using hk)
      have e : (k + 1) * 3 = k * 3 + 1 + 1 + 1 := by omega
      rw [e]
      simpa [flat3] using this
end
theorem Reads.at3 {α : Type} {f g h : α → Value} {w : World} {B n k : Nat} {A : Option Addr} {l : List α} (hr : Reads w B 3 A n (flat3 f g h l)) (hn : n = l.length) (hk : k < l.length) :
    ∃ b off, A = some ⟨b, off, none⟩ ∧ b < B ∧ w.cell? ⟨b, off + k * 3, none⟩ = some (f l[k]) ∧ w.cell? ⟨b, off + k * 3 + 1, none⟩ = some (g l[k]) ∧ w.cell? ⟨b, off + k * 3 + 2, none⟩ = some (h l[k]) := by
  obtain ⟨b, off, e, hb, hc⟩ := hr.2 (by omega)
  obtain ⟨h1, h2, h3⟩ := flat3_at (f := f) (g := g) (h := h) l k hk
  exact ⟨b, off, e, hb, hc _ _ h1, by have := hc _ _ h2; rwa [← Nat.add_assoc] at this, by have := hc _ _ h3; rwa [← Nat.add_assoc] at this⟩
/-- what comes back: a slice that reads as xs, and an error -/
def RetSl (w : World) (size : Nat) (xs : List Value) (n : Nat) (err : Int) (e : Ending) (w' : World) : Prop :=
  ∃ A c, e = .returned (.tuple #[.slice A n c, .int .i64 err]) ∧ Below w.heap.size w w' ∧ Reads w' w'.heap.size size A n xs ∧ n ≤ c ∧ c ≤ 9223372036854775807
theorem RetSl.of_own {w w' : World} {size n k : Nat} {xs ys : List Value} {err err' : Int} {base : Nat} {e : TypeId} {v : Value} (h : w'.ownsRow base e size v k ys) (hb : Below w.heap.size w w') (he : err = err') (hn : k = n) (hx : ys = xs) :
    RetSl w size xs n err (.returned (.tuple #[v, .int .i64 err'])) w' := by
  subst hn hx he
  obtain ⟨A, c, rfl, hr, hc, hm⟩ := own_sl h
  exact ⟨A, c, rfl, hb, hr, hc, hm⟩
theorem RetSl.nil {w w' : World} {size n : Nat} {xs : List Value} {err : Int} (hb : Below w.heap.size w w') (hx : xs = []) (hn : n = 0) : RetSl w size xs n err (.returned (.tuple #[.slice none 0 0, .int .i64 err])) w' := by
  subst hx hn
  exact ⟨none, 0, rfl, hb, Reads.none_, Nat.le_refl _, by omega⟩
/-- since w0 only what is new has turned, and the blocks of L hold just this -/
structure Fr (w0 : World) (L : List (Nat × Obj)) (w : World) : Prop where
  bel : Below w0.heap.size w0 w
  blk : ∀ p ∈ L, w.heap[p.1]? = some p.2
section
variable {w0 w1 w2 : World} {L : List (Nat × Obj)}
theorem Fr.nil (h : Below w0.heap.size w0 w1) : Fr w0 [] w1 := ⟨h, fun p hp => by cases hp⟩
theorem Fr.start (w : World) : Fr w [] w := .nil (Below.refl _ _)
theorem Fr.go (h : Fr w0 L w1) (hb : Below w1.heap.size w1 w2) : Fr w0 L w2 := ⟨bt h.bel hb, fun p hp => (hb.block p.1 (heap_lt (h.blk p hp))).trans (h.blk p hp)⟩
theorem Fr.al (h : Fr w0 L w1) (o : Obj) : Fr w0 L (w1.alloc o) := h.go ((Below.refl _ _).alloc (Nat.le_refl _) o)
theorem Fr.drew (h : Fr w0 L w1) : Fr w0 L w1.drew := ⟨h.bel.drew, h.blk⟩
theorem Fr.drewN (h : Fr w0 L w1) (n : Nat) : Fr w0 L (w1.drewN n) := ⟨bd h.bel n, h.blk⟩
theorem Fr.cons (h : Fr w0 L w1) {g : Nat} {o : Obj} (hn : w1.heap[g]? = some o) : Fr w0 ((g, o) :: L) w1 := by
  refine ⟨h.bel, fun p hp => ?_⟩
  rcases List.mem_cons.1 hp with rfl | hp
  · exact hn
  · exact h.blk p hp
/-- a new block, kept in mind -/
theorem Fr.new (h : Fr w0 L w1) (o : Obj) : Fr w0 ((w1.heap.size, o) :: L) (w1.alloc o) := (h.al o).cons (alloc1_new _ _)
theorem Fr.newN (h : Fr w0 L w1) {g : Nat} (hg : w1.heap.size = g) (o : Obj) : Fr w0 ((g, o) :: L) (w1.alloc o) := by subst hg; exact h.new o
theorem Fr.sub {M : List (Nat × Obj)} (h : Fr w0 L w1) (hs : ∀ p ∈ M, p ∈ L) : Fr w0 M w1 := ⟨h.bel, fun p hp => h.blk p (hs p hp)⟩
theorem Fr.at {g : Nat} {o : Obj} (h : Fr w0 L w1) (hm : (g, o) ∈ L) : w1.heap[g]? = some o := h.blk _ hm
theorem Fr.lt {g : Nat} {o : Obj} (h : Fr w0 L w1) (hm : (g, o) ∈ L) : g < w1.heap.size := heap_lt (h.at hm)
/-- the head block is written -/
theorem Fr.set {g : Nat} {cs : Array Value} {t : TypeId} (h : Fr w0 ((g, .cells cs t (0, 0)) :: L) w1) (hg : w0.heap.size ≤ g) (hL : ∀ p ∈ L, p.1 ≠ g) (i : Nat) (u : Value) :
    Fr w0 ((g, .cells (cs.setIfInBounds i u) t (0, 0)) :: L) (w1.setCell ⟨g, i, none⟩ u) := by
  refine ⟨h.bel.setCell (p := ⟨g, i, none⟩) hg u, fun p hp => ?_⟩
  rcases List.mem_cons.1 hp with rfl | hp
  · exact set_same (h.blk _ List.mem_cons_self) u
  · exact set_blk (h.blk p (List.mem_cons_of_mem _ hp)) _ u (hL p hp).symm
theorem Fr.grown (h : Fr w0 L w1) {row : Option Nat} (hb : Below w0.heap.size w0 w2) (hg : w1.grownBy w2 row) (hr : ∀ p ∈ L, row ≠ some p.1) : Fr w0 L w2 := ⟨hb, fun p hp => grown_blk hg (h.blk p hp) (hr p hp)⟩
theorem Fr.grown1 {g : Nat} {o : Obj} (h : Fr w0 [(g, o)] w1) {row : Option Nat} (hb : Below w0.heap.size w0 w2) (hg : w1.grownBy w2 row) (hr : row ≠ some g) : Fr w0 [(g, o)] w2 :=
  h.grown hb hg fun p hp => by
    rcases List.mem_cons.1 hp with rfl | hp
    · exact hr
    · cases hp
theorem setRow_heap_other (w : World) (g k : Nat) (cs : Array Value) (h : k ≠ g) : (w.setRow g cs).heap[k]? = w.heap[k]? := by
  unfold World.setRow
  simp [Array.getElem?_modify, Ne.symm h]
theorem setRow_heap_at {w : World} {g : Nat} {old cs : Array Value} {t : TypeId} {fr : Nat × Nat} (h : w.heap[g]? = some (.cells old t fr)) : (w.setRow g cs).heap[g]? = some (.cells cs t fr) := setRow_heap w g old cs t fr h
/-- the block g is written whole -/
theorem Fr.row {g : Nat} {old cs : Array Value} {t : TypeId} (h : Fr w0 ((g, .cells old t (0, 0)) :: L) w1) (hg : w0.heap.size ≤ g) (hL : ∀ p ∈ L, p.1 ≠ g) :
    Fr w0 ((g, .cells cs t (0, 0)) :: L) (w1.setRow g cs) := by
  refine ⟨⟨h.bel.os, h.bel.tape, h.bel.output, by simpa [World.setRow] using h.bel.size, fun k hk => ?_⟩, fun p hp => ?_⟩
  · rw [setRow_heap_other _ _ _ _ (by omega)]; exact h.bel.block k hk
  rcases List.mem_cons.1 hp with rfl | hp
  · exact setRow_heap_at (h.blk _ List.mem_cons_self)
  · rw [setRow_heap_other _ _ _ _ (hL p hp)]; exact h.blk p (List.mem_cons_of_mem _ hp)
end
end Go.Proofs.YtmpdgckccgbdnaaDoor
