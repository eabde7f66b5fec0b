/- Plain words for memory: a slice value reads as a list of cells; kept over new memory. No condition. More plain words for memory: []byte to string, make, frames. Own rows and blocks: plain words. append onto a row of the call's own, of a slice that reads as a list: nil, empty or not. Blocks of the call's own that are known whole, kept over callees. No condition. Comparing lists element by element. No condition. A call of a function, as one step of a region that draws its order (for go_region_law). A string comes back. No condition. Plain words of decimal forms. No condition. -/
import Derived.Below
import Derived.Laws.OwnMore
import Derived.Deep.AppendLies
import Derived.Deep.Draws
import Derived.WalkKit
import Derived.Laws.BytesArg
import Derived.Test.YtpgojecldmcopaaGreatDoorProg
import Derived.Lib.OthersKept
import Derived.Lib.Builder
import Derived.Lib.Hide
import Derived.WalkSpells
import Derived.WalkLawsBesides
import Derived.Deep.QuietTactic
import Derived.BigQuiet
import Derived.Deep.Light
import Derived.Deep.RegionHeld3
import Derived.BigRegion
import Derived.Deep.RegionLaw
import Derived.Maps.AppendAt
import Derived.RegionTactic
import Derived.OwnWalk
import Derived.Laws.Tables
import Derived.Laws.Rows
import Derived.Laws.EntriesVeiled
namespace Go.Proofs.YtpgojecldmcopaaGreatDoor
open Go.RowKit

theorem block_of_add (a : Addr) (n : Nat) : (a.add n).block = a.block := by unfold Addr.add; split <;> rfl
theorem add_of_add (a : Addr) (i j : Nat) : (a.add i).add j = a.add (i + j) := by
  unfold Addr.add
  by_cases hi : i = 0 <;> by_cases hj : j = 0 <;> simp [hi, hj, Nat.add_assoc]
theorem add_lit (b off n : Nat) : (⟨b, off, none⟩ : Addr).add n = ⟨b, off + n, none⟩ := by
  unfold Addr.add; split <;> simp_all

/-- the slice value of address A and length n reads as the cells xs, all below block B -/
def Reads (w : World) (B size : Nat) (A : Option Addr) (n : Nat) (xs : List Value) : Prop :=
  xs.length = n * size ∧ (0 < n → ∃ b off, A = some ⟨b, off, none⟩ ∧ b < B ∧ ∀ j u, xs[j]? = some u → w.cell? ⟨b, off + j, none⟩ = some u)

section
variable {w w' : World} {B B' size n : Nat} {A : Option Addr} {xs : List Value}
theorem Reads.none_ : Reads w B size A 0 [] := ⟨by simp, fun h => absurd h (by omega)⟩
theorem Reads.keep (h : Reads w B size A n xs) (hk : ∀ p : Addr, p.block < B → w'.cell? p = w.cell? p) : Reads w' B size A n xs :=
  ⟨h.1, fun hn => by
    obtain ⟨b, off, e, hb, hc⟩ := h.2 hn
    exact ⟨b, off, e, hb, fun j u hu => (hk _ hb).trans (hc j u hu)⟩⟩
theorem Reads.more (h : Reads w B size A n xs) (hB : B ≤ B') : Reads w B' size A n xs :=
  ⟨h.1, fun hn => by
    obtain ⟨b, off, e, hb, hc⟩ := h.2 hn
    exact ⟨b, off, e, by omega, hc⟩⟩
theorem Reads.below (h : Reads w B size A n xs) (hb : Below B w w') : Reads w' B size A n xs := h.keep fun _ hp => hb.cell hp
theorem Reads.below' (h : Reads w B size A n xs) (hb : Below B' w w') (hB : B ≤ B') : Reads w' B size A n xs := h.keep fun _ hp => hb.cell (by omega)
theorem Reads.drew (h : Reads w B size A n xs) : Reads w.drew B size A n xs := h
theorem Reads.drewN (h : Reads w B size A n xs) (k : Nat) : Reads (w.drewN k) B size A n xs := h
theorem Reads.alloc (h : Reads w B size A n xs) (hB : B ≤ w.heap.size) (o : Obj) : Reads (w.alloc o) B size A n xs := h.keep fun p hp => World.cell?_alloc_lt w o p (by omega)
theorem Reads.setCell (h : Reads w B size A n xs) {p : Addr} (hB : B ≤ p.block) (u : Value) : Reads (w.setCell p u) B size A n xs :=
  h.keep fun q hq => World.cell?_setCell_other w p q u (fun e => by subst e; omega)
theorem Reads.grown (h : Reads w B size A n xs) {row : Option Nat} (hg : w.grownBy w' row) (hB : B ≤ w.heap.size) (hr : ∀ g, row = some g → B ≤ g) : Reads w' B size A n xs :=
  h.keep fun p hp => World.cell?_of_block (hg.block p.block (by omega) (fun e => by have := hr _ e.symm; omega))
theorem Reads.of_own {base : Nat} {e : TypeId} {c : Nat} (h : w.ownsRow base e size (.slice A n c) n xs) : Reads w w.heap.size size A n xs := by
  refine ⟨h.1, fun hn => ?_⟩
  obtain ⟨g, cap, hv, _, hlt⟩ := h.form hn
  have hA : A = some ⟨g, 0, none⟩ := by injection hv
  subst hA
  refine ⟨_, _, rfl, hlt, fun j u hu => ?_⟩
  have := h.cells (g := g) rfl j u hu
  rwa [add_lit] at this
end

/-- cells of a list of two-cell structs -/
def flat2 {α : Type} (f g : α → Value) : List α → List Value
  | [] => []
  | x :: r => f x :: g x :: flat2 f g r
section
variable {α : Type} {f g : α → Value}
theorem flat2_length (l : List α) : (flat2 f g l).length = l.length * 2 := by
  induction l with
  | nil => rfl
  | cons x r ih => simp [flat2, ih]; omega
theorem flat2_append (l r : List α) : flat2 f g (l ++ r) = flat2 f g l ++ flat2 f g r := by
  induction l with
  | nil => rfl
  | cons x t ih => simp [flat2, ih]
theorem flat2_at (l : List α) (k : Nat) (h : k < l.length) : (flat2 f g l)[k * 2]? = some (f l[k]) ∧ (flat2 f g l)[k * 2 + 1]? = some (g l[k]) := by
  induction l generalizing k with
  | nil => simp at h
  | cons x r ih =>
    cases k with
    | zero => simp [flat2]
    | succ k =>
      have := ih k (by simpa using h)
      have e : (k + 1) * 2 = k * 2 + 1 + 1 := by omega
      rw [e]
      simpa [flat2] using this
end
theorem Reads.at2 {α : Type} {f g : α → Value} {w : World} {B n k : Nat} {A : Option Addr} {l : List α} (h : Reads w B 2 A n (flat2 f g l)) (hn : n = l.length) (hk : k < l.length) :
    ∃ b off, A = some ⟨b, off, none⟩ ∧ b < B ∧ w.cell? ⟨b, off + k * 2, none⟩ = some (f l[k]) ∧ w.cell? ⟨b, off + k * 2 + 1, none⟩ = some (g l[k]) := by
  obtain ⟨b, off, e, hb, hc⟩ := h.2 (by omega)
  obtain ⟨h1, h2⟩ := flat2_at (f := f) (g := g) l k hk
  exact ⟨b, off, e, hb, hc _ _ h1, by have := hc _ _ h2; rwa [← Nat.add_assoc] at this⟩
end Go.Proofs.YtpgojecldmcopaaGreatDoor
namespace Go.Proofs.YtpgojecldmcopaaGreatDoor
open Go.RowKit
/-- slice type t has elements e, whose zero is z, of so many cells and bytes -/
structure Elem (P : Program) (t e : TypeId) (z : Value) (size bytes : Nat) : Prop where
  ht : P.underlying t = some (.slice e)
  hi : (P.info? e).map (fun i => (i.zero, i.size, i.bytes)) = some (some z, size, bytes)
  hz : z.cells.size = size
  hs : 0 < size
theorem alloc1_new (w : World) (o : Obj) : (w.alloc o).heap[w.heap.size]? = some o := heap_alloc_new w o
theorem alloc2_new (w : World) (o o' : Obj) : ((w.alloc o').alloc o).heap[w.heap.size + 1]? = some o := by
  have := heap_alloc_new (w.alloc o') o
  simpa using this
theorem alloc3_new (w : World) (o o' o'' : Obj) : (((w.alloc o'').alloc o').alloc o).heap[w.heap.size + 1 + 1]? = some o := by
  have := heap_alloc_new ((w.alloc o'').alloc o') o
  simpa using this
theorem alloc4_new (w : World) (o o' o'' o3 : Obj) : ((((w.alloc o3).alloc o'').alloc o').alloc o).heap[w.heap.size + 1 + 1 + 1]? = some o := by
  have := heap_alloc_new (((w.alloc o3).alloc o'').alloc o') o
  simpa using this
theorem below_own {w0 w w' : World} {e : TypeId} {size n : Nat} {v : Value} {xs : List Value} (hb : Below w0.heap.size w0 w) (hown : w.ownsRow w0.heap.size e size v n xs) (hg : w.grownBy w' v.ownBlock) : Below w0.heap.size w0 w' :=
  hb.grown hg hb.size fun k hk => (hown.lt k hk).1

/-- append(v, x): x lies in a block that is known whole -/
theorem wpList_app {P : Program} {w : World} {ops : Array Oper} {rest : List Oper} {o : Oper} {a : Act} {Q : Exit → Act → World → Prop} {e : TypeId} {z : Value} {size bytes : Nat} {t : TypeId} (E : Elem P t e z size bytes)
    (hgd : o.guard = none) (s x : Operand) (ho : o.op = .call { callee := .builtin .append, args := #[s, x], argTypes := #[t, t] }) (hty : o.type = t)
    {v : Value} (n : Nat) (xs : List Value) (hs : a.eval s = v) {G m c : Nat} (hx : a.eval x = .slice (some ⟨G, 0, none⟩) m c)
    (w0 : World) (hown : w.ownsRow w0.heap.size e size v n xs) (hb : Below w0.heap.size w0 w)
    (cs : List Value) (hG : w.heap[G]? = some (.cells cs.toArray e (0, 0))) (hl : cs.length = m * size) (h1 : ∀ u ∈ cs, u.oneCell' = true)
    (hm : 0 < m) (hbytes : (n + m) * bytes ≤ 140737488355328) (h63 : n + m ≤ 140737488355328)
    (h : ∀ g cap w', w'.ownsRow w0.heap.size e size (.slice (some ⟨g, 0, none⟩) (n + m) cap) (n + m) (xs ++ cs) → Below w0.heap.size w0 w' → w.grownBy w' v.ownBlock → wpList P ops Q rest (a.put o.dst (.slice (some ⟨g, 0, none⟩) (n + m) cap)) w') :
    wpList P ops Q (o :: rest) a w := by
  obtain ⟨i, hi, hz0, hz1, hz2⟩ := info_parts E.hi
  exact wpList_append_lies w hgd s x t ho w0.heap.size e i z size bytes (hty ▸ E.ht) hi hz0 hz1 hz2 E.hz E.hs v n xs hs hown ⟨G, 0, none⟩ m c cs hx hl (World.news_of_block hG) h1 hm (by unfold maxLen; omega) hbytes hb.size _ rfl
    fun g cap w' h2 h3 _ _ => h g cap w' h2 (below_own hb hown h3) h3
/-- the same at a step of a region that draws -/
theorem step_app {P : Program} {w : World} {ops : Array Oper} {o : Oper} {a : Act} {K : Act → World → Prop} {Q : Exit → Act → World → Prop} {E0 : Prop} {e : TypeId} {z : Value} {size bytes : Nat} {t : TypeId} (E : Elem P t e z size bytes)
    (hgd : o.guard = none) (s x : Operand) (ho : o.op = .call { callee := .builtin .append, args := #[s, x], argTypes := #[t, t] }) (hty : o.type = t)
    {v : Value} (n : Nat) (xs : List Value) (hs : a.eval s = v) {G m c : Nat} (hx : a.eval x = .slice (some ⟨G, 0, none⟩) m c)
    (w0 : World) (hown : w.ownsRow w0.heap.size e size v n xs) (hb : Below w0.heap.size w0 w)
    (cs : List Value) (hG : w.heap[G]? = some (.cells cs.toArray e (0, 0))) (hl : cs.length = m * size) (h1 : ∀ u ∈ cs, u.oneCell' = true)
    (hm : 0 < m) (hbytes : (n + m) * bytes ≤ 140737488355328) (h63 : n + m ≤ 140737488355328)
    (h : ∀ g cap w', w'.ownsRow w0.heap.size e size (.slice (some ⟨g, 0, none⟩) (n + m) cap) (n + m) (xs ++ cs) → Below w0.heap.size w0 w' → w.grownBy w' v.ownBlock → K (a.put o.dst (.slice (some ⟨g, 0, none⟩) (n + m) cap)) w') :
    if Region.wanted o (yielded ops a.tmps) = true then Oper.wp P o a w K Q else E0 := by
  obtain ⟨i, hi, hz0, hz1, hz2⟩ := info_parts E.hi
  exact step_append_lies w hgd s x t ho w0.heap.size e i z size bytes (hty ▸ E.ht) hi hz0 hz1 hz2 E.hz E.hs v n xs hs hown ⟨G, 0, none⟩ m c cs hx hl (World.news_of_block hG) h1 hm (by unfold maxLen; omega) hbytes hb.size _ rfl
    fun g cap w' h2 h3 _ _ => h g cap w' h2 (below_own hb hown h3) h3
end Go.Proofs.YtpgojecldmcopaaGreatDoor

namespace Go.Proofs.YtpgojecldmcopaaGreatDoor
open Go.RowKit
theorem own_sl {w : World} {base : Nat} {e : TypeId} {size n : Nat} {v : Value} {xs : List Value} (h : w.ownsRow base e size v n xs) :
    ∃ A c, v = .slice A n c ∧ Reads w w.heap.size size A n xs ∧ n ≤ c ∧ c ≤ 9223372036854775807 := by
  have h' := h
  rcases h.2 with ⟨rfl, rfl⟩ | ⟨g, cap, cur, rfl, hb, hg, hc, hm, _⟩
  · exact ⟨none, 0, rfl, Reads.of_own h', Nat.le_refl _, by omega⟩
  · exact ⟨_, cap, rfl, Reads.of_own h', hc, by unfold maxLen at hm; exact hm⟩
end Go.Proofs.YtpgojecldmcopaaGreatDoor
namespace Go.Proofs.YtpgojecldmcopaaGreatDoor
open Go.RowKit
theorem strOfNums_bytes (l : List UInt8) : strOfNums (l.map fun b => ((b.toNat : Nat) : Int)) = ⟨l.toArray⟩ := by
  apply ByteArray.ext
  apply Array.toList_inj.1
  rw [strOfNums_data]
  simp only [List.map_map]
  rw [show ((fun n : Int => UInt8.ofNat n.toNat) ∘ fun b : UInt8 => ((b.toNat : Nat) : Int)) = id from by funext b; simp]
  simp
/-- a []byte that reads as the bytes l, turned to a string -/
theorem run_conv {P : Program} {src dst e : TypeId} (hs : P.underlying src = some (.slice e)) (he : P.underlying e = some (.int .u8)) (hd : P.underlying dst = some .string) {w : World} {B n c : Nat} {A : Option Addr} {l : List UInt8}
    (h : Reads w B 1 A n (l.map fun b => Value.int .u8 (b.toNat : Int))) : (convert src dst (.slice A n c)).run P w = .ok (.string ⟨l.toArray⟩) w := by
  have hl : l.length = n := by simpa using h.1
  rcases Nat.eq_zero_or_pos n with h0 | h0
  · subst h0
    have : l = [] := List.eq_nil_of_length_eq_zero hl
    subst this
    cases A with
    | none => exact run_convert_bytes_nil w src e hs he 0 c dst hd
    | some ad =>
      rw [run_convert_bytes_string w src dst e _ 0 c hs he hd]
      rw [run_bytesToString w ad 0 c [] (by simp [loadCells, loadCellsFrom])]
      rfl
  · obtain ⟨b, off, rfl, _, hc⟩ := h.2 h0
    rw [← strOfNums_bytes]
    refine run_convert_bytes_arg w src e hs he b off n c _ (by simpa using hl) (fun i hi => ?_) dst hd
    have hi' : i < l.length := by omega
    rw [hc i (.int .u8 (l[i].toNat : Int)) (by simp [hi'])]
    simp [List.getD, hi']
theorem run_make_rowN {P : Program} (t e : TypeId) (i : TypeInfo) (z : Value) (ht : P.underlying t = some (.slice e)) (hi : P.info? e = some i) (hz : i.zero = some z)
    (kl kc : IntKind) (n c : Nat) (hnc : n ≤ c) (hbytes : i.bytes * c ≤ 281474976710656) (h63 : c ≤ 9223372036854775807) (w : World) :
    (Instr.makeSlice t (.int kl (n : Int)) (.int kc (c : Int))).run P w = .ok (.slice (some ⟨w.heap.size, 0, none⟩) n c) (w.alloc (.cells (madeCells z.cells (c * i.size)) e)) := by
  have hb : (i.bytes : Int) * (c : Int) ≤ 281474976710656 := by
    have h : ((i.bytes * c : Nat) : Int) ≤ 281474976710656 := by omega
    rwa [Int.natCast_mul] at h
  have hr := run_make (P := P) w t e i z ht hi hz kl kc n c (by omega) (by omega) hb (by omega)
  simp only [Int.toNat_natCast] at hr
  exact hr
/-- make([]T, n, c): one equation for each world -/
theorem run_mk {P : Program} {t e : TypeId} {z : Value} {size bytes : Nat} (E : Elem P t e z size bytes) (kl kc : IntKind) (n c : Nat) (hnc : n ≤ c) (hbytes : bytes * c ≤ 281474976710656) (h63 : c ≤ 9223372036854775807) (w : World) :
    (Instr.makeSlice t (.int kl (n : Int)) (.int kc (c : Int))).run P w = .ok (.slice (some ⟨w.heap.size, 0, none⟩) n c) (w.alloc (.cells (madeCells z.cells (c * size)) e)) := by
  obtain ⟨i, hi, hz0, hz1, hz2⟩ := info_parts E.hi
  subst hz1 hz2
  exact run_make_rowN t e i z E.ht hi hz0 kl kc n c hnc hbytes h63 w
/-- everything but the blocks of X stands -/
def KeepX (X : Nat → Prop) (w w' : World) : Prop := w.heap.size ≤ w'.heap.size ∧ ∀ g, g < w.heap.size → ¬ X g → w'.heap[g]? = w.heap[g]?
theorem KeepX.refl (X : Nat → Prop) (w : World) : KeepX X w w := ⟨Nat.le_refl _, fun _ _ _ => rfl⟩
theorem KeepX.trans {X : Nat → Prop} {a b c : World} (h : KeepX X a b) (k : KeepX X b c) : KeepX X a c :=
  ⟨Nat.le_trans h.1 k.1, fun g hg hX => (k.2 g (Nat.lt_of_lt_of_le hg h.1) hX).trans (h.2 g hg hX)⟩
theorem KeepX.setCell {X : Nat → Prop} {a w : World} (h : KeepX X a w) {p : Addr} (hp : X p.block) (u : Value) : KeepX X a (w.setCell p u) :=
  ⟨by simpa [World.setCell] using h.1, fun g hg hX => (Below.heap_setCell w p u g (fun e => hX (e ▸ hp))).trans (h.2 g hg hX)⟩
theorem KeepX.drewN {X : Nat → Prop} {a w : World} (h : KeepX X a w) (n : Nat) : KeepX X a (w.drewN n) := h
theorem KeepX.alloc {X : Nat → Prop} {a w : World} (h : KeepX X a w) (o : Obj) : KeepX X a (w.alloc o) :=
  ⟨Nat.le_trans h.1 (by simp), fun g hg hX => (Below.heap_alloc w o g (Nat.lt_of_lt_of_le hg h.1)).trans (h.2 g hg hX)⟩
theorem KeepX.own {X : Nat → Prop} {w w' : World} (h : KeepX X w w') {base : Nat} {e : TypeId} {size n : Nat} {v : Value} {xs : List Value} (hown : w.ownsRow base e size v n xs) (hX : ∀ g, v.ownBlock = some g → ¬ X g) : w'.ownsRow base e size v n xs := by
  refine ⟨hown.1, ?_⟩
  rcases hown.2 with hn | ⟨g, cap, cur, rfl, hbg, hg, rest⟩
  · exact .inl hn
  · have hlt : g < w.heap.size := by
      rcases Nat.lt_or_ge g w.heap.size with h' | h'
      · exact h'
      · simp [Array.getElem?_eq_none h'] at hg
    exact .inr ⟨g, cap, cur, rfl, hbg, (h.2 g hlt (hX g rfl)).trans hg, rest⟩
end Go.Proofs.YtpgojecldmcopaaGreatDoor
namespace Go.Proofs.YtpgojecldmcopaaGreatDoor
open Go.RowKit
theorem ret_bool {a b : Bool} (h : a = b) : Ending.returned (.bool a) = .returned (.bool b) := by rw [h]
theorem ret_pair {j k : IntKind} {a b c d : Int} (h : a = c) (h' : b = d) : Ending.returned (.tuple #[.int j a, .int k b]) = .returned (.tuple #[.int j c, .int k d]) := by rw [h, h']
theorem toList_nil (s : ByteArray) : s.toList = [] ↔ s.size = 0 := by
  rw [ByteArray.toList_eq, ← List.length_eq_zero_iff]
  exact Iff.rfl
theorem heap_lt {w : World} {g : Nat} {o : Obj} (h : w.heap[g]? = some o) : g < w.heap.size := by
  rcases Nat.lt_or_ge g w.heap.size with h' | h'
  · exact h'
  · simp [Array.getElem?_eq_none h'] at h
theorem own_blk_ne {base size n g : Nat} {e t : TypeId} {v : Value} {xs : List Value} {w : World} {cs : Array Value} {fr : Nat × Nat} (h : w.ownsRow base e size v n xs) (hg : w.heap[g]? = some (.cells cs t fr)) (hne : e ≠ t) : v.ownBlock ≠ some g := by
  rcases h.2 with ⟨rfl, _⟩ | ⟨g', cap, cur, rfl, _, hh, _⟩
  · simp [Value.ownBlock]
  · intro he
    have : g' = g := by simpa [Value.ownBlock] using he
    subst this
    rw [hg] at hh
    injection hh with hh
    injection hh with _ ht _
    exact hne ht.symm
theorem take_of_drop {α : Type} {l : List α} {k : Nat} {x : α} (h : l.drop k = x :: l.drop (k + 1)) : l.take (k + 1) = l.take k ++ [x] := by
  have hk : k < l.length := by
    rcases Nat.lt_or_ge k l.length with hk | hk
    · exact hk
    · rw [List.drop_eq_nil_of_le hk] at h; cases h
  rw [List.drop_eq_getElem_cons hk] at h
  rw [List.take_succ_eq_append_getElem hk]
  injection h with h _
  rw [h]
theorem drewN_below (w : World) (n : Nat) {B : Nat} : Below B w (w.drewN n) := ⟨rfl, rfl, rfl, Nat.le_refl _, fun _ _ => rfl⟩
def byteAt (s : ByteArray) (i : Nat) : UInt8 := s.data.toList.getD i 0
theorem byteAt_lt (s : ByteArray) (i : Nat) (h : i < s.size) : s[i] = byteAt s i := by
  have : i < s.data.toList.length := by simpa using h
  unfold byteAt
  rw [List.getD_eq_getElem?_getD, List.getElem?_eq_getElem this]
  rfl
theorem u8El : Elem Tryz.prog 49 5 (.int .u8 0) 1 1 := ⟨Tryz.underlying49, by kernel_rfl, rfl, by decide⟩
theorem below_blk {w w' : World} {B g : Nat} {o : Obj} (h : Below B w w') (hg : g < B) (ho : w.heap[g]? = some o) : w'.heap[g]? = some o := (h.block g hg).trans ho
theorem grown_blk {w w' : World} {g : Nat} {row : Option Nat} {o : Obj} (h : w.grownBy w' row) (ho : w.heap[g]? = some o) (hr : row ≠ some g) : w'.heap[g]? = some o := (h.block g (heap_lt ho) (fun e => hr e.symm)).trans ho
theorem alloc_blk {w : World} {g : Nat} {o o' : Obj} (ho : w.heap[g]? = some o) : (w.alloc o').heap[g]? = some o := (Go.RowKit.Below.heap_alloc w o' g (heap_lt ho)).trans ho
theorem below_drewN' {B : Nat} (w : World) (n : Nat) : Below B w (w.drewN n) := ⟨rfl, rfl, rfl, Nat.le_refl _, fun _ _ => rfl⟩
theorem own_set {w : World} {base size n : Nat} {e : TypeId} {v : Value} {xs : List Value} (h : w.ownsRow base e size v n xs) (p : Addr) (u : Value) (hp : v.ownBlock ≠ some p.block) : (w.setCell p u).ownsRow base e size v n xs := by
  refine ⟨h.1, ?_⟩
  rcases h.2 with hn | ⟨g, cap, cur, rfl, hbg, hg, rest⟩
  · exact .inl hn
  · exact .inr ⟨g, cap, cur, rfl, hbg, (Go.RowKit.Below.heap_setCell w p u g (fun e => hp (by rw [← e]; rfl))).trans hg, rest⟩
theorem set_blk {w : World} {g : Nat} {o : Obj} (h : w.heap[g]? = some o) (p : Addr) (u : Value) (hp : p.block ≠ g) : (w.setCell p u).heap[g]? = some o := (Go.RowKit.Below.heap_setCell w p u g (fun e => hp e.symm)).trans h
theorem set_same {w : World} {g i : Nat} {t : TypeId} {cs : Array Value} (h : w.heap[g]? = some (.cells cs t (0, 0))) (u : Value) : (w.setCell ⟨g, i, none⟩ u).heap[g]? = some (.cells (cs.setIfInBounds i u) t (0, 0)) := by
  simp [World.setCell, Array.getElem?_modify, h]
theorem reads_blk {w : World} {g : Nat} {t : TypeId} {cs : List Value} (h : w.heap[g]? = some (.cells cs.toArray t (0, 0))) : Reads w w.heap.size 1 (some ⟨g, 0, none⟩) cs.length cs :=
  ⟨by simp, fun _ => ⟨g, 0, rfl, heap_lt h, fun j u hu => by rw [Lib.cell_of_heap h]; simpa using hu⟩⟩
theorem bt {w0 w w' : World} (h : Below w0.heap.size w0 w) (h2 : Below w.heap.size w w') : Below w0.heap.size w0 w' := h.trans (h2.mono h.size)
theorem ba {w0 w : World} (h : Below w0.heap.size w0 w) (o : Obj) : Below w0.heap.size w0 (w.alloc o) := h.alloc h.size o
theorem bd {w0 w : World} (h : Below w0.heap.size w0 w) (n : Nat) : Below w0.heap.size w0 (w.drewN n) := ⟨h.os, h.tape, h.output, h.size, h.block⟩
theorem Reads.go {w w' : World} {size n : Nat} {A : Option Addr} {xs : List Value} (h : Reads w w.heap.size size A n xs) (hb : Below w.heap.size w w') : Reads w' w'.heap.size size A n xs := (h.below hb).more hb.size
theorem Reads.al {w : World} {size n : Nat} {A : Option Addr} {xs : List Value} (h : Reads w w.heap.size size A n xs) (o : Obj) : Reads (w.alloc o) (w.alloc o).heap.size size A n xs := (h.alloc (Nat.le_refl _) o).more (by simp)
theorem reads_blkN {w : World} {g size n : Nat} {t : TypeId} {cs : List Value} (h : w.heap[g]? = some (.cells cs.toArray t (0, 0))) (hl : cs.length = n * size) : Reads w w.heap.size size (some ⟨g, 0, none⟩) n cs :=
  ⟨hl, fun _ => ⟨g, 0, rfl, heap_lt h, fun j u hu => by rw [Lib.cell_of_heap h]; simpa using hu⟩⟩
theorem own_own_ne {b1 b2 s1 s2 n1 n2 : Nat} {e1 e2 : TypeId} {v1 v2 : Value} {x1 x2 : List Value} {w : World} (h1 : w.ownsRow b1 e1 s1 v1 n1 x1) (h2 : w.ownsRow b2 e2 s2 v2 n2 x2) (hne : e1 ≠ e2) : v1.ownBlock = none ∨ v1.ownBlock ≠ v2.ownBlock := by
  rcases h1.2 with ⟨rfl, _⟩ | ⟨g, cap, cur, rfl, _, hg, _⟩
  · exact .inl rfl
  · right
    intro he
    exact own_blk_ne h2 hg (fun e => hne e.symm) (he.symm.trans rfl)
theorem own_below {w w' : World} {base size n : Nat} {e : TypeId} {v : Value} {xs : List Value} (h : w.ownsRow base e size v n xs) (hb : Below w.heap.size w w') : w'.ownsRow base e size v n xs := by
  refine ⟨h.1, ?_⟩
  rcases h.2 with hn | ⟨g, cap, cur, rfl, hbg, hg, rest⟩
  · exact .inl hn
  · exact .inr ⟨g, cap, cur, rfl, hbg, (hb.block g (heap_lt hg)).trans hg, rest⟩
/-- make of one-cell elements -/
theorem run_mk1 {P : Program} {t e : TypeId} {z : Value} {bytes : Nat} (E : Elem P t e z 1 bytes) (hz : z.cells = #[z]) (kl kc : IntKind) (n c : Nat) (hnc : n ≤ c) (hbytes : bytes * c ≤ 281474976710656) (h63 : c ≤ 9223372036854775807) (w : World) :
    (Instr.makeSlice t (.int kl (n : Int)) (.int kc (c : Int))).run P w = .ok (.slice (some ⟨w.heap.size, 0, none⟩) n c) (w.alloc (.cells (madeCells #[z] c) e)) := by
  have := run_mk E kl kc n c hnc hbytes h63 w
  rwa [hz, Nat.mul_one] at this
def bs8 (l : List UInt8) : List Value := l.map fun b => Value.int .u8 (b.toNat : Int)
theorem bs8_app (l r : List UInt8) : bs8 (l ++ r) = bs8 l ++ bs8 r := by simp [bs8]
theorem own_conv {w : World} {base n c : Nat} {A : Option Addr} {l : List UInt8} (h : w.ownsRow base 5 1 (.slice A n c) n (bs8 l)) :
    (convert 49 9 (.slice A n c)).run Tryz.prog w = .ok (.string ⟨l.toArray⟩) w :=
  run_conv Tryz.underlying49 Tryz.underlying5 Tryz.underlying9 (Reads.of_own h)
/-- append(v, x), x a block that is known whole; short form -/
theorem wpList_ap {P : Program} {w : World} {ops : Array Oper} {rest : List Oper} {o : Oper} {a : Act} {Q : Exit → Act → World → Prop} {e : TypeId} {z : Value} {size bytes : Nat} {t : TypeId} (E : Elem P t e z size bytes)
    {w0 : World} {v : Value} {n : Nat} {xs : List Value} (hown : w.ownsRow w0.heap.size e size v n xs) (hb : Below w0.heap.size w0 w)
    (cs : List Value) {G : Nat} (hG : w.heap[G]? = some (.cells cs.toArray e (0, 0))) {s x : Operand} {m c : Nat}
    (h : ∀ g cap w', w'.ownsRow w0.heap.size e size (.slice (some ⟨g, 0, none⟩) (n + m) cap) (n + m) (xs ++ cs) → Below w0.heap.size w0 w' → w.grownBy w' v.ownBlock → wpList P ops Q rest (a.put o.dst (.slice (some ⟨g, 0, none⟩) (n + m) cap)) w')
    (hgd : o.guard = none := by rfl) (ho : o.op = .call { callee := .builtin .append, args := #[s, x], argTypes := #[t, t] } := by rfl) (hty : o.type = t := by rfl)
    (hs : a.eval s = v := by rfl) (hx : a.eval x = .slice (some ⟨G, 0, none⟩) m c := by rfl) (hl : cs.length = m * size := by rfl) (h1 : ∀ u ∈ cs, u.oneCell' = true := by simp [Value.oneCell'])
    (hm : 0 < m := by omega) (hbytes : (n + m) * bytes ≤ 140737488355328 := by omega) (h63 : n + m ≤ 140737488355328 := by omega) :
    wpList P ops Q (o :: rest) a w :=
  wpList_app E hgd s x ho hty n xs hs hx w0 hown hb cs hG hl h1 hm hbytes h63 h
theorem step_ap {P : Program} {w : World} {ops : Array Oper} {o : Oper} {a : Act} {K : Act → World → Prop} {Q : Exit → Act → World → Prop} {E0 : Prop} {e : TypeId} {z : Value} {size bytes : Nat} {t : TypeId} (E : Elem P t e z size bytes)
    {w0 : World} {v : Value} {n : Nat} {xs : List Value} (hown : w.ownsRow w0.heap.size e size v n xs) (hb : Below w0.heap.size w0 w)
    (cs : List Value) {G : Nat} (hG : w.heap[G]? = some (.cells cs.toArray e (0, 0))) {s x : Operand} {m c : Nat}
    (h : ∀ g cap w', w'.ownsRow w0.heap.size e size (.slice (some ⟨g, 0, none⟩) (n + m) cap) (n + m) (xs ++ cs) → Below w0.heap.size w0 w' → w.grownBy w' v.ownBlock → K (a.put o.dst (.slice (some ⟨g, 0, none⟩) (n + m) cap)) w')
    (hgd : o.guard = none := by rfl) (ho : o.op = .call { callee := .builtin .append, args := #[s, x], argTypes := #[t, t] } := by rfl) (hty : o.type = t := by rfl)
    (hs : a.eval s = v := by rfl) (hx : a.eval x = .slice (some ⟨G, 0, none⟩) m c := by rfl) (hl : cs.length = m * size := by rfl) (h1 : ∀ u ∈ cs, u.oneCell' = true := by simp [Value.oneCell'])
    (hm : 0 < m := by omega) (hbytes : (n + m) * bytes ≤ 140737488355328 := by omega) (h63 : n + m ≤ 140737488355328 := by omega) :
    if Region.wanted o (yielded ops a.tmps) = true then Oper.wp P o a w K Q else E0 :=
  step_app E hgd s x ho hty n xs hs hx w0 hown hb cs hG hl h1 hm hbytes h63 h
end Go.Proofs.YtpgojecldmcopaaGreatDoor
namespace Go.Proofs.YtpgojecldmcopaaGreatDoor
open Go.RowKit
section
variable {P : Program} (w : World)
theorem run_append_of_nil (base : Nat) (t ty e : TypeId) (i : TypeInfo) (size : Nat) (ht : P.underlying t = some (.slice e)) (hi : P.info? e = some i)
    (v : Value) (n : Nat) (xs : List Value) (hown : w.ownsRow base e size v n xs) (c : Nat) : (Builtin.append_ #[t, t] ty #[v, .slice none 0 c]).run P w = .ok v w := by
  rcases hown.2 with ⟨rfl, rfl⟩ | ⟨g, cap, cur, rfl, _, _, hnc, _⟩
  · simp [Builtin.append_, run_underlying ht, sizeOf, typeInfo, hi, Builtin.lenOf, Builtin.firstCells]
  · simp [Builtin.append_, run_underlying ht, sizeOf, typeInfo, hi, Builtin.lenOf, Builtin.firstCells, hnc, storeCells]
theorem run_apr {e : TypeId} {z : Value} {size bytes : Nat} {t : TypeId} (E : Elem P t e z size bytes) (base : Nat) (ty : TypeId)
    (v : Value) (n : Nat) (xs : List Value) (hown : w.ownsRow base e size v n xs)
    (B : Nat) (A : Option Addr) (m c : Nat) (news : List Value) (hr : Reads w B size A m news) (h1 : ∀ u ∈ news, u.oneCell' = true)
    (h63 : n + m ≤ 140737488355328) (hbytes : (n + m) * bytes ≤ 140737488355328) (hbase : base ≤ w.heap.size) :
    ∃ v' w', (Builtin.append_ #[t, t] ty #[v, .slice A m c]).run P w = .ok v' w' ∧ w'.ownsRow base e size v' (n + m) (xs ++ news) ∧ w.grownBy w' v.ownBlock := by
  obtain ⟨i, hi, hz, hsize, hby⟩ := info_parts E.hi
  rcases A with _ | ad
  · have hm : m = 0 := by
      rcases Nat.eq_zero_or_pos m with h0 | h0
      · exact h0
      · obtain ⟨_, _, h, _⟩ := hr.2 h0
        cases h
    subst hm
    have hn : news = [] := List.eq_nil_of_length_eq_zero (by simpa using hr.1)
    subst hn
    exact ⟨v, w, run_append_of_nil w base t ty e i size E.ht hi v n xs hown c, by simpa using hown, World.grownBy.refl w _⟩
  · have hcells : ∀ j u, news[j]? = some u → w.cell? (ad.add j) = some u := by
      intro j u hu
      rcases Nat.eq_zero_or_pos m with h0 | h0
      · subst h0
        have hn : news = [] := List.eq_nil_of_length_eq_zero (by simpa using hr.1)
        subst hn
        simp at hu
      · obtain ⟨b, off, h, _, hc⟩ := hr.2 h0
        injection h with h
        subst h
        rw [add_lit]
        exact hc j u hu
    obtain ⟨v', w', hrun, h2, h3, _, _⟩ := run_append_own_at (P := P) w base t ty e i z size bytes E.ht hi hz hsize hby E.hz E.hs v n xs hown ad m c news hr.1 hcells h1 (by unfold maxLen; omega) hbytes hbase
    exact ⟨v', w', hrun, h2, h3⟩
end
theorem wpList_apr {P : Program} {w : World} {ops : Array Oper} {rest : List Oper} {o : Oper} {a : Act} {Q : Exit → Act → World → Prop} {e : TypeId} {z : Value} {size bytes : Nat} {t : TypeId} (E : Elem P t e z size bytes)
    {w0 : World} {v : Value} {n : Nat} {xs : List Value} (hown : w.ownsRow w0.heap.size e size v n xs) (hb : Below w0.heap.size w0 w)
    {B : Nat} {A : Option Addr} {m c : Nat} {news : List Value} (hr : Reads w B size A m news) (h1 : ∀ u ∈ news, u.oneCell' = true) {s x : Operand}
    (h : ∀ v' w', w'.ownsRow w0.heap.size e size v' (n + m) (xs ++ news) → Below w0.heap.size w0 w' → w.grownBy w' v.ownBlock → wpList P ops Q rest (a.put o.dst v') w')
    (hgd : o.guard = none := by rfl) (ho : o.op = .call { callee := .builtin .append, args := #[s, x], argTypes := #[t, t] } := by rfl)
    (hs : a.eval s = v := by rfl) (hx : a.eval x = .slice A m c := by rfl)
    (hbytes : (n + m) * bytes ≤ 140737488355328 := by omega) (h63 : n + m ≤ 140737488355328 := by omega) :
    wpList P ops Q (o :: rest) a w := by
  obtain ⟨v', w', hrun, h2, h3⟩ := run_apr w E w0.heap.size o.type v n xs hown B A m c news hr h1 h63 hbytes hb.size
  refine wpList_plain hgd fun _ hK => ?_
  unfold Oper.wp execOp
  simp only [ho, resolve, invoke, builtin, Sem.run_bind, Sem.run_pure, Result.andThen_ok, List.map_toArray, List.map_cons, List.map_nil, hs, hx, hrun]
  exact hK _ _ (h v' w' h2 (below_own hb hown h3) h3)
theorem step_apr {P : Program} {w : World} {ops : Array Oper} {o : Oper} {a : Act} {K : Act → World → Prop} {Q : Exit → Act → World → Prop} {E0 : Prop} {e : TypeId} {z : Value} {size bytes : Nat} {t : TypeId} (E : Elem P t e z size bytes)
    {w0 : World} {v : Value} {n : Nat} {xs : List Value} (hown : w.ownsRow w0.heap.size e size v n xs) (hb : Below w0.heap.size w0 w)
    {B : Nat} {A : Option Addr} {m c : Nat} {news : List Value} (hr : Reads w B size A m news) (h1 : ∀ u ∈ news, u.oneCell' = true) {s x : Operand}
    (h : ∀ v' w', w'.ownsRow w0.heap.size e size v' (n + m) (xs ++ news) → Below w0.heap.size w0 w' → w.grownBy w' v.ownBlock → K (a.put o.dst v') w')
    (hgd : o.guard = none := by rfl) (ho : o.op = .call { callee := .builtin .append, args := #[s, x], argTypes := #[t, t] } := by rfl)
    (hs : a.eval s = v := by rfl) (hx : a.eval x = .slice A m c := by rfl)
    (hbytes : (n + m) * bytes ≤ 140737488355328 := by omega) (h63 : n + m ≤ 140737488355328 := by omega) :
    if Region.wanted o (yielded ops a.tmps) = true then Oper.wp P o a w K Q else E0 := by
  have hw : Region.wanted o (yielded ops a.tmps) = true := by simp [Region.wanted, hgd]
  rw [if_pos hw]
  obtain ⟨v', w', hrun, h2, h3⟩ := run_apr w E w0.heap.size o.type v n xs hown B A m c news hr h1 h63 hbytes hb.size
  unfold Oper.wp execOp
  simp only [ho, resolve, invoke, builtin, Sem.run_bind, Sem.run_pure, Result.andThen_ok, List.map_toArray, List.map_cons, List.map_nil, hs, hx, hrun]
  exact h v' w' h2 (below_own hb hown h3) h3
/-- a part of a slice, from k elements on: the address is the old one where nothing is left of the capacity -/
theorem Reads.cut {w : World} {B size n : Nat} {A : Option Addr} {xs : List Value} (h : Reads w B size A n xs) {k cap : Nat} (hk : k ≤ n) (hc : n ≤ cap) :
    Reads w B size (if cap = k then A else A.map (·.add (k * size))) (n - k) (xs.drop (k * size)) := by
  refine ⟨by rw [List.length_drop, h.1, Nat.sub_mul], fun hn => ?_⟩
  obtain ⟨b, off, rfl, hb, hcell⟩ := h.2 (by omega)
  rw [if_neg (by omega)]
  refine ⟨b, off + k * size, by rw [Option.map_some, add_lit], hb, fun j u hu => ?_⟩
  rw [show off + k * size + j = off + (k * size + j) by omega]
  exact hcell _ u (by rw [← hu, List.getElem?_drop])
theorem Reads.firsts {w : World} {B size n : Nat} {A : Option Addr} {xs : List Value} (h : Reads w B size A n xs) {k : Nat} (hk : k ≤ n) : Reads w B size A k (xs.take (k * size)) := by
  refine ⟨by rw [List.length_take, h.1]; exact Nat.min_eq_left (Nat.mul_le_mul_right _ hk), fun hn => ?_⟩
  obtain ⟨b, off, rfl, hb, hcell⟩ := h.2 (by omega)
  refine ⟨b, off, rfl, hb, fun j u hu => hcell _ u ?_⟩
  rw [List.getElem?_take] at hu
  split at hu
  · exact hu
  · cases hu
theorem flat2_take {α : Type} {f g : α → Value} (l : List α) (k : Nat) : (flat2 f g l).take (k * 2) = flat2 f g (l.take k) := by
  induction l generalizing k with
  | nil => simp [flat2]
  | cons x r ih =>
    cases k with
    | zero => simp [flat2]
    | succ k => rw [show (k + 1) * 2 = k * 2 + 1 + 1 by omega]; simp [flat2, ih]
theorem flat2_drop {α : Type} {f g : α → Value} (l : List α) (k : Nat) : (flat2 f g l).drop (k * 2) = flat2 f g (l.drop k) := by
  induction l generalizing k with
  | nil => simp [flat2]
  | cons x r ih =>
    cases k with
    | zero => simp [flat2]
    | succ k => rw [show (k + 1) * 2 = k * 2 + 1 + 1 by omega]; simp [flat2, ih]
theorem flat2_one {α : Type} {f g : α → Value} (l : List α) (hf : ∀ x, (f x).oneCell' = true) (hg : ∀ x, (g x).oneCell' = true) : ∀ u ∈ flat2 f g l, u.oneCell' = true := by
  induction l with
  | nil => simp [flat2]
  | cons x r ih => simp [flat2, hf, hg]; exact ih
theorem add_zero_ (a : Addr) : a.add 0 = a := by unfold Addr.add; simp
/-- x[:k] -/
theorem sl_to {P : Program} {t e : TypeId} {z : Value} {size bytes : Nat} (E : Elem P t e z size bytes) (he : P.elem t = e) (A : Option Addr) (len cap : Nat) (k : Int) (j : Nat) (hkj : k = j) (hj : j ≤ len) (hc : len ≤ cap) (W : World) :
    (Instr.sliceAt t (.slice A len cap) none (some (.int .i64 k)) none).run P W = .ok (.slice A j cap) W := by
  subst hkj
  have ht : P.underlying t = some (.slice (P.elem t)) := by rw [he]; exact E.ht
  obtain ⟨i, hi, _, hs, _⟩ := info_parts E.hi
  rw [run_sliceAt_slice W t _ _ _ _ ht, run_slice_h W t A len cap ht .i64 (j : Int) (by omega) (by omega), he]
  simp [sizeOf, typeInfo, hi, sliced, Result.andThen]
  intro _
  cases A with
  | none => rfl
  | some a => simp [add_zero_]
/-- x[k:] -/
theorem sl_from {P : Program} {t e : TypeId} {z : Value} {size bytes : Nat} (E : Elem P t e z size bytes) (he : P.elem t = e) {w : World} {B : Nat} {A : Option Addr} {len cap : Nat} {xs : List Value} (h : Reads w B size A len xs) (k : Int) (j : Nat) (hkj : k = j) (hj : j ≤ len) (hc : len ≤ cap) :
    ∃ A', (∀ W : World, (Instr.sliceAt t (.slice A len cap) (some (.int .i64 k)) none none).run P W = .ok (.slice A' (len - j) (cap - j)) W) ∧ Reads w B size A' (len - j) (xs.drop (j * size)) := by
  subst hkj
  refine ⟨_, fun W => ?_, h.cut hj hc⟩
  have ht : P.underlying t = some (.slice (P.elem t)) := by rw [he]; exact E.ht
  obtain ⟨i, hi, _, hs, _⟩ := info_parts E.hi
  rw [run_sliceAt_slice W t _ _ _ _ ht, run_slice_l W t A len cap ht .i64 (j : Int) (by omega) (by omega), he]
  simp [sizeOf, typeInfo, hi, sliced, Result.andThen, hs]
end Go.Proofs.YtpgojecldmcopaaGreatDoor
namespace Go.Proofs.YtpgojecldmcopaaGreatDoor
open Go.RowKit
theorem bcell {W w1 : World} (hb : Below W.heap.size W w1) : (∀ b o, b < W.heap.size → w1.cell? ⟨b, o, none⟩ = W.cell? ⟨b, o, none⟩) ∧ (∀ b o, b < W.heap.size → w1.frozen? ⟨b, o, none⟩ = W.frozen? ⟨b, o, none⟩) :=
  ⟨fun b o h => hb.cell (p := ⟨b, o, none⟩) h, fun b o h => hb.frozen (p := ⟨b, o, none⟩) h⟩
theorem ret_int {k : IntKind} {a b : Int} (h : a = b) : Ending.returned (.int k a) = .returned (.int k b) := by rw [h]
theorem bs {w0 w : World} (h : Below w0.heap.size w0 w) {p : Addr} {u : Value} (hp : w0.heap.size ≤ p.block) : Below w0.heap.size w0 (w.setCell p u) := h.setCell hp u
/-- cells of a list of three-cell structs -/
def flat3 {α : Type} (f g h : α → Value) : List α → List Value
  | [] => []
  | x :: r => f x :: g x :: h x :: flat3 f g h r
section
variable {α : Type} {f g h : α → Value}
theorem flat3_length (l : List α) : (flat3 f g h l).length = l.length * 3 := by
  induction l with
  | nil => rfl
  | cons x r ih => simp [flat3, ih]; omega
theorem flat3_append (l r : List α) : flat3 f g h (l ++ r) = flat3 f g h l ++ flat3 f g h r := by
  induction l with
  | nil => rfl
  | cons x t ih => simp [flat3, ih]
theorem flat3_at (l : List α) (k : Nat) (hk : k < l.length) : (flat3 f g h l)[k * 3]? = some (f l[k]) ∧ (flat3 f g h l)[k * 3 + 1]? = some (g l[k]) ∧ (flat3 f g h l)[k * 3 + 2]? = some (h l[k]) := by
  induction l generalizing k with
  | nil => simp at hk
  | cons x r ih =>
    cases k with
    | zero => simp [flat3]
    | succ k =>
      have := ih k (by simpa using hk)
      have e : (k + 1) * 3 = k * 3 + 1 + 1 + 1 := by omega
      rw [e]
      simpa [flat3] using this
end
theorem Reads.at3 {α : Type} {f g h : α → Value} {w : World} {B n k : Nat} {A : Option Addr} {l : List α} (hr : Reads w B 3 A n (flat3 f g h l)) (hn : n = l.length) (hk : k < l.length) :
    ∃ b off, A = some ⟨b, off, none⟩ ∧ b < B ∧ w.cell? ⟨b, off + k * 3, none⟩ = some (f l[k]) ∧ w.cell? ⟨b, off + k * 3 + 1, none⟩ = some (g l[k]) ∧ w.cell? ⟨b, off + k * 3 + 2, none⟩ = some (h l[k]) := by
  obtain ⟨b, off, e, hb, hc⟩ := hr.2 (by omega)
  obtain ⟨h1, h2, h3⟩ := flat3_at (f := f) (g := g) (h := h) l k hk
  exact ⟨b, off, e, hb, hc _ _ h1, by have := hc _ _ h2; rwa [← Nat.add_assoc] at this, by have := hc _ _ h3; rwa [← Nat.add_assoc] at this⟩
/-- what comes back: a slice that reads as xs, and an error -/
def RetSl (w : World) (size : Nat) (xs : List Value) (n : Nat) (err : Int) (e : Ending) (w' : World) : Prop :=
  ∃ A c, e = .returned (.tuple #[.slice A n c, .int .i64 err]) ∧ Below w.heap.size w w' ∧ Reads w' w'.heap.size size A n xs ∧ n ≤ c ∧ c ≤ 9223372036854775807
theorem RetSl.of_own {w w' : World} {size n k : Nat} {xs ys : List Value} {err err' : Int} {base : Nat} {e : TypeId} {v : Value} (h : w'.ownsRow base e size v k ys) (hb : Below w.heap.size w w') (he : err = err') (hn : k = n) (hx : ys = xs) :
    RetSl w size xs n err (.returned (.tuple #[v, .int .i64 err'])) w' := by
  subst hn hx he
  obtain ⟨A, c, rfl, hr, hc, hm⟩ := own_sl h
  exact ⟨A, c, rfl, hb, hr, hc, hm⟩
theorem RetSl.nil {w w' : World} {size n : Nat} {xs : List Value} {err : Int} (hb : Below w.heap.size w w') (hx : xs = []) (hn : n = 0) : RetSl w size xs n err (.returned (.tuple #[.slice none 0 0, .int .i64 err])) w' := by
  subst hx hn
  exact ⟨none, 0, rfl, hb, Reads.none_, Nat.le_refl _, by omega⟩
/-- since w0 only what is new has turned, and the blocks of L hold just this -/
structure Fr (w0 : World) (L : List (Nat × Obj)) (w : World) : Prop where
  bel : Below w0.heap.size w0 w
  blk : ∀ p ∈ L, w.heap[p.1]? = some p.2
section
variable {w0 w1 w2 : World} {L : List (Nat × Obj)}
theorem Fr.nil (h : Below w0.heap.size w0 w1) : Fr w0 [] w1 := ⟨h, fun p hp => by cases hp⟩
theorem Fr.start (w : World) : Fr w [] w := .nil (Below.refl _ _)
theorem Fr.go (h : Fr w0 L w1) (hb : Below w1.heap.size w1 w2) : Fr w0 L w2 := ⟨bt h.bel hb, fun p hp => (hb.block p.1 (heap_lt (h.blk p hp))).trans (h.blk p hp)⟩
theorem Fr.al (h : Fr w0 L w1) (o : Obj) : Fr w0 L (w1.alloc o) := h.go ((Below.refl _ _).alloc (Nat.le_refl _) o)
theorem Fr.drew (h : Fr w0 L w1) : Fr w0 L w1.drew := ⟨h.bel.drew, h.blk⟩
theorem Fr.drewN (h : Fr w0 L w1) (n : Nat) : Fr w0 L (w1.drewN n) := ⟨bd h.bel n, h.blk⟩
theorem Fr.cons (h : Fr w0 L w1) {g : Nat} {o : Obj} (hn : w1.heap[g]? = some o) : Fr w0 ((g, o) :: L) w1 := by
  refine ⟨h.bel, fun p hp => ?_⟩
  rcases List.mem_cons.1 hp with rfl | hp
  · exact hn
  · exact h.blk p hp
/-- a new block, kept in mind -/
theorem Fr.new (h : Fr w0 L w1) (o : Obj) : Fr w0 ((w1.heap.size, o) :: L) (w1.alloc o) := (h.al o).cons (alloc1_new _ _)
theorem Fr.newN (h : Fr w0 L w1) {g : Nat} (hg : w1.heap.size = g) (o : Obj) : Fr w0 ((g, o) :: L) (w1.alloc o) := by subst hg; exact h.new o
theorem Fr.sub {M : List (Nat × Obj)} (h : Fr w0 L w1) (hs : ∀ p ∈ M, p ∈ L) : Fr w0 M w1 := ⟨h.bel, fun p hp => h.blk p (hs p hp)⟩
theorem Fr.at {g : Nat} {o : Obj} (h : Fr w0 L w1) (hm : (g, o) ∈ L) : w1.heap[g]? = some o := h.blk _ hm
theorem Fr.lt {g : Nat} {o : Obj} (h : Fr w0 L w1) (hm : (g, o) ∈ L) : g < w1.heap.size := heap_lt (h.at hm)
/-- the head block is written -/
theorem Fr.set {g : Nat} {cs : Array Value} {t : TypeId} (h : Fr w0 ((g, .cells cs t (0, 0)) :: L) w1) (hg : w0.heap.size ≤ g) (hL : ∀ p ∈ L, p.1 ≠ g) (i : Nat) (u : Value) :
    Fr w0 ((g, .cells (cs.setIfInBounds i u) t (0, 0)) :: L) (w1.setCell ⟨g, i, none⟩ u) := by
  refine ⟨h.bel.setCell (p := ⟨g, i, none⟩) hg u, fun p hp => ?_⟩
  rcases List.mem_cons.1 hp with rfl | hp
  · exact set_same (h.blk _ List.mem_cons_self) u
  · exact set_blk (h.blk p (List.mem_cons_of_mem _ hp)) _ u (hL p hp).symm
theorem Fr.grown (h : Fr w0 L w1) {row : Option Nat} (hb : Below w0.heap.size w0 w2) (hg : w1.grownBy w2 row) (hr : ∀ p ∈ L, row ≠ some p.1) : Fr w0 L w2 := ⟨hb, fun p hp => grown_blk hg (h.blk p hp) (hr p hp)⟩
theorem Fr.grown1 {g : Nat} {o : Obj} (h : Fr w0 [(g, o)] w1) {row : Option Nat} (hb : Below w0.heap.size w0 w2) (hg : w1.grownBy w2 row) (hr : row ≠ some g) : Fr w0 [(g, o)] w2 :=
  h.grown hb hg fun p hp => by
    rcases List.mem_cons.1 hp with rfl | hp
    · exact hr
    · cases hp
theorem setRow_heap_other (w : World) (g k : Nat) (cs : Array Value) (h : k ≠ g) : (w.setRow g cs).heap[k]? = w.heap[k]? := by
  unfold World.setRow
  simp [Array.getElem?_modify, Ne.symm h]
theorem setRow_heap_at {w : World} {g : Nat} {old cs : Array Value} {t : TypeId} {fr : Nat × Nat} (h : w.heap[g]? = some (.cells old t fr)) : (w.setRow g cs).heap[g]? = some (.cells cs t fr) := setRow_heap w g old cs t fr h
/-- the block g is written whole -/
theorem Fr.row {g : Nat} {old cs : Array Value} {t : TypeId} (h : Fr w0 ((g, .cells old t (0, 0)) :: L) w1) (hg : w0.heap.size ≤ g) (hL : ∀ p ∈ L, p.1 ≠ g) :
    Fr w0 ((g, .cells cs t (0, 0)) :: L) (w1.setRow g cs) := by
  refine ⟨⟨h.bel.os, h.bel.tape, h.bel.output, by simpa [World.setRow] using h.bel.size, fun k hk => ?_⟩, fun p hp => ?_⟩
  · rw [setRow_heap_other _ _ _ _ (by omega)]; exact h.bel.block k hk
  rcases List.mem_cons.1 hp with rfl | hp
  · exact setRow_heap_at (h.blk _ List.mem_cons_self)
  · rw [setRow_heap_other _ _ _ _ (hL p hp)]; exact h.blk p (List.mem_cons_of_mem _ hp)
end
end Go.Proofs.YtpgojecldmcopaaGreatDoor
namespace Go.Proofs.YtpgojecldmcopaaGreatDoor
open Go.RowKit
def CmpRel {α : Type} (l m : List α) (k : Nat) : Prop := l.take k = m.take k
theorem CmpRel.step {α : Type} {l m : List α} {k : Nat} {x y : α} (h : CmpRel l m k) (hl : Hid (l.drop k = x :: l.drop (k + 1))) (hm : Hid (m.drop k = y :: m.drop (k + 1))) (e : x = y) : CmpRel l m (k + 1) := by
  unfold CmpRel at *
  rw [take_of_drop hl.out, take_of_drop hm.out, h, e]
theorem CmpRel.stop {α : Type} {l m : List α} {k : Nat} {x y : α} (hl : Hid (l.drop k = x :: l.drop (k + 1))) (hm : Hid (m.drop k = y :: m.drop (k + 1))) (e : x ≠ y) : l ≠ m := by
  rintro rfl
  have := hl.out.symm.trans hm.out
  injection this with h1 _
  exact e h1
theorem CmpRel.done {α : Type} {l m : List α} {k : Nat} (h : CmpRel l m k) (hl : l.length ≤ k) (hm : m.length ≤ k) : l = m := by
  unfold CmpRel at h
  rwa [List.take_of_length_le hl, List.take_of_length_le hm] at h
theorem strAt {w : World} {B k : Nat} {A : Option Addr} {l : List ByteArray} (h : Reads w B 1 A l.length (l.map Value.string)) (hk : k < l.length) :
    ∃ b off s, A = some ⟨b, off, none⟩ ∧ b < B ∧ w.cell? ⟨b, off + k, none⟩ = some (.string s) ∧ Hid (l.drop k = s :: l.drop (k + 1)) := by
  obtain ⟨b, off, e, hb, hc⟩ := h.2 (by omega)
  exact ⟨b, off, _, e, hb, hc k _ (by rw [List.getElem?_map, List.getElem?_eq_getElem hk]; rfl), List.drop_eq_getElem_cons hk⟩
theorem ret_ne {α : Type} [DecidableEq α] {l m : List α} {b : Bool} (hb : b = false) (h : l ≠ m) : Ending.returned (.bool b) = .returned (.bool (decide (l = m))) := by
  rw [hb, decide_eq_false h]
theorem ret_eq {α : Type} [DecidableEq α] {l m : List α} {b : Bool} (hb : b = true) (h : l = m) : Ending.returned (.bool b) = .returned (.bool (decide (l = m))) := by
  rw [hb, decide_eq_true h]
theorem bytes_eq (b d : ByteArray) : (b.toList = d.toList) ↔ b = d := ⟨fun h => by rw [ByteArray.toList_eq, ByteArray.toList_eq] at h; exact ByteArray.ext (Array.toList_inj.1 h), fun h => by rw [h]⟩
theorem ret_dec {p : Prop} [Decidable p] {b : Bool} (h : (b = true) ↔ p) : Ending.returned (.bool b) = .returned (.bool (decide p)) := by
  congr 2
  rw [Bool.eq_iff_iff, h]
  simp

end Go.Proofs.YtpgojecldmcopaaGreatDoor
namespace Go.Proofs.YtpgojecldmcopaaGreatDoor
open Go.RowKit
theorem step_fn {P : Program} {w : World} {ops : Array Oper} {o : Oper} {a : Act} {K : Act → World → Prop} {Q : Exit → Act → World → Prop} {E0 : Prop} (f : FuncId) (xs : Array Operand) (ts : Array TypeId) (vs : Array Value) (R : Ending → World → Prop)
    (hcf : ∀ W, (callFunc f vs).run P W = .ok (.enter f vs) W) (h : Calls P f vs w R) (hR : ∀ e w', R e w' → ∃ v, e = .returned v ∧ K (a.put o.dst v) w')
    (hgd : o.guard = none := by rfl) (ho : o.op = .call { callee := .value (.func f), args := xs, argTypes := ts } := by rfl) (hx : xs.map a.eval = vs := by rfl) :
    if Region.wanted o (yielded ops a.tmps) = true then Oper.wp P o a w K Q else E0 := by
  have hw : Region.wanted o (yielded ops a.tmps) = true := by simp [Region.wanted, hgd]
  rw [if_pos hw]
  unfold Oper.wp execOp
  simp only [ho, resolve, invoke, Sem.run_bind, hx]
  have e1 : Sem.run P (Deferred.ofValue (a.eval (Operand.func f)) vs) w = .ok { target := .fn (.func f) #[], args := vs } w := by simp [Deferred.ofValue, Act.eval]
  rw [e1]
  simp only [Result.andThen_ok, Array.append_empty, hcf]
  rw [Oper.upon_enter]
  refine h.mono fun e w' hr => ?_
  obtain ⟨v, rfl, hk⟩ := hR e w' hr
  exact hk
/-- one argument, a value comes back -/
theorem step_fn1 {P : Program} {w : World} {ops : Array Oper} {o : Oper} {a : Act} {K : Act → World → Prop} {Q : Exit → Act → World → Prop} {E0 : Prop} (f : FuncId) {x : Operand} {ts : Array TypeId} (v : Value) {R : Ending → World → Prop}
    (hcf : ∀ vs W, (callFunc f vs).run P W = .ok (.enter f vs) W) (h : Calls P f #[v] w R) (hR : ∀ e w', R e w' → ∃ v, e = .returned v ∧ K (a.put o.dst v) w')
    (hgd : o.guard = none := by rfl) (ho : o.op = .call { callee := .value (.func f), args := #[x], argTypes := ts } := by rfl) (hx : a.eval x = v := by rfl) :
    if Region.wanted o (yielded ops a.tmps) = true then Oper.wp P o a w K Q else E0 :=
  step_fn f _ _ _ R (hcf _) h hR hgd ho (by simp [hx])
theorem cf_of {P : Program} {f : FuncId} {fn : Func} (hf : P.funcs[f]? = some fn) (h1 : (fn.name == "runtime.NumGoroutine") = false) (h2 : fn.body.isSome = true) (vs : Array Value) (W : World) : (callFunc f vs).run P W = .ok (.enter f vs) W := by
  have h1 : ¬ fn.name = "runtime.NumGoroutine" := by simpa using h1
  have h2 : ¬ fn.body = none := fun h => by rw [h] at h2; cases h2
  simp [callFunc, hf, h1, h2]
end Go.Proofs.YtpgojecldmcopaaGreatDoor
namespace Go.Proofs.YtpgojecldmcopaaGreatDoor
open Go.RowKit
theorem ret_str {a b : ByteArray} (h : a = b) : Ending.returned (.string a) = .returned (.string b) := by rw [h]
end Go.Proofs.YtpgojecldmcopaaGreatDoor
namespace Go.Proofs.YtpgojecldmcopaaGreatDoor
open Go.RowKit
/-- names -/
def lowB (c : UInt8) : Bool := decide (97 ≤ c.toNat ∧ c.toNat ≤ 122)
def digB (c : UInt8) : Bool := decide (48 ≤ c.toNat ∧ c.toNat ≤ 57)
def nameC (c : UInt8) : Bool := lowB c || digB c || c == 45
def nameL (l : List UInt8) : Bool := decide (l.length ≤ 16) && (match l with | [] => false | x :: _ => lowB x) && l.all nameC
/-- decimal forms -/
def digsL (l : List UInt8) : Bool := l.all digB && (match l with | [] => false | [_] => true | x :: _ => !(x == 48))
def decL (l : List UInt8) : Bool := match l with
  | 45 :: x :: r => digsL (x :: r) && !(x == 48)
  | l => digsL l
def natL (l : List UInt8) : Nat := l.foldl (fun n c => 10 * n + (c.toNat - 48)) 0
def intL (l : List UInt8) : Int := match l with
  | 45 :: r => -(natL r : Int)
  | l => natL l
/-- what Int returns -/
def intR (l : List UInt8) (low high : Int) : Int × Int :=
  if decL l = false then (0, 6) else if intL l < -9223372036854775808 ∨ 9223372036854775807 < intL l ∨ intL l < low ∨ high < intL l then (0, 7) else (intL l, 0)
end Go.Proofs.YtpgojecldmcopaaGreatDoor
