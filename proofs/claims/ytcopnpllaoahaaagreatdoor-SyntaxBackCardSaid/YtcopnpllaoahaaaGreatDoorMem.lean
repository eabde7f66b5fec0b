/- Plain words for memory: a slice value reads as a list of cells; kept over new memory. No condition. More plain words for memory: []byte to string, make, frames. Pieces of a string between bytes: plain laws. No condition. -/
import Derived.Below
import Derived.Laws.OwnMore
import Derived.Deep.AppendLies
import Derived.Deep.Draws
import Derived.WalkKit
import Derived.Laws.BytesArg
import Derived.Lib.SplitLaws
import Derived.Lib.IndexBytes
import Derived.Lib.IndexMore
namespace Go.Proofs.YtcopnpllaoahaaaGreatDoor
open Go.RowKit

theorem block_of_add (a : Addr) (n : Nat) : (a.add n).block = a.block := by unfold Addr.add; split <;> rfl
theorem add_of_add (a : Addr) (i j : Nat) : (a.add i).add j = a.add (i + j) := by
  unfold Addr.add
  by_cases hi : i = 0 <;> by_cases hj : j = 0 <;> simp [hi, hj, Nat.add_assoc]
theorem add_lit (b off n : Nat) : (⟨b, off, none⟩ : Addr).add n = ⟨b, off + n, none⟩ := by
  unfold Addr.add; split <;> simp_all

/-- the slice value of address A and length n reads as the cells xs, all below block B -/
def Reads (w : World) (B size : Nat) (A : Option Addr) (n : Nat) (xs : List Value) : Prop :=
  xs.length = n * size ∧ (0 < n → ∃ b off, A = some ⟨b, off, none⟩ ∧ b < B ∧ ∀ j u, xs[j]? = some u → w.cell? ⟨b, off + j, none⟩ = some u)

section
variable {w w' : World} {B B' size n : Nat} {A : Option Addr} {xs : List Value}
theorem Reads.none_ : Reads w B size A 0 [] := ⟨by simp, fun h => absurd h (by omega)⟩
theorem Reads.keep (h : Reads w B size A n xs) (hk : ∀ p : Addr, p.block < B → w'.cell? p = w.cell? p) : Reads w' B size A n xs :=
  ⟨h.1, fun hn => by
    obtain ⟨b, off, e, hb, hc⟩ := h.2 hn
    exact ⟨b, off, e, hb, fun j u hu => (hk _ hb).trans (hc j u hu)⟩⟩
theorem Reads.more (h : Reads w B size A n xs) (hB : B ≤ B') : Reads w B' size A n xs :=
  ⟨h.1, fun hn => by
    obtain ⟨b, off, e, hb, hc⟩ := h.2 hn
    exact ⟨b, off, e, by omega, hc⟩⟩
theorem Reads.below (h : Reads w B size A n xs) (hb : Below B w w') : Reads w' B size A n xs := h.keep fun _ hp => hb.cell hp
theorem Reads.below' (h : Reads w B size A n xs) (hb : Below B' w w') (hB : B ≤ B') : Reads w' B size A n xs := h.keep fun _ hp => hb.cell (by omega)
theorem Reads.drew (h : Reads w B size A n xs) : Reads w.drew B size A n xs := h
theorem Reads.drewN (h : Reads w B size A n xs) (k : Nat) : Reads (w.drewN k) B size A n xs := h
theorem Reads.alloc (h : Reads w B size A n xs) (hB : B ≤ w.heap.size) (o : Obj) : Reads (w.alloc o) B size A n xs := h.keep fun p hp => World.cell?_alloc_lt w o p (by omega)
theorem Reads.setCell (h : Reads w B size A n xs) {p : Addr} (hB : B ≤ p.block) (u : Value) : Reads (w.setCell p u) B size A n xs :=
  h.keep fun q hq => World.cell?_setCell_other w p q u (fun e => by subst e; omega)
theorem Reads.grown (h : Reads w B size A n xs) {row : Option Nat} (hg : w.grownBy w' row) (hB : B ≤ w.heap.size) (hr : ∀ g, row = some g → B ≤ g) : Reads w' B size A n xs :=
  h.keep fun p hp => World.cell?_of_block (hg.block p.block (by omega) (fun e => by have := hr _ e.symm; omega))
theorem Reads.of_own {base : Nat} {e : TypeId} {c : Nat} (h : w.ownsRow base e size (.slice A n c) n xs) : Reads w w.heap.size size A n xs := by
  refine ⟨h.1, fun hn => ?_⟩
  obtain ⟨g, cap, hv, _, hlt⟩ := h.form hn
  have hA : A = some ⟨g, 0, none⟩ := by injection hv
  subst hA
  refine ⟨_, _, rfl, hlt, fun j u hu => ?_⟩
  have := h.cells (g := g) rfl j u hu
  rwa [add_lit] at this
end

/-- cells of a list of two-cell structs -/
def flat2 {α : Type} (f g : α → Value) : List α → List Value
  | [] => []
  | x :: r => f x :: g x :: flat2 f g r
section
variable {α : Type} {f g : α → Value}
theorem flat2_length (l : List α) : (flat2 f g l).length = l.length * 2 := by
  induction l with
  | nil => rfl
  | cons x r ih => simp [flat2, ih]; omega
theorem flat2_append (l r : List α) : flat2 f g (l ++ r) = flat2 f g l ++ flat2 f g r := by
  induction l with
  | nil => rfl
  | cons x t ih => simp [flat2, ih]
theorem flat2_at (l : List α) (k : Nat) (h : k < l.length) : (flat2 f g l)[k * 2]? = some (f l[k]) ∧ (flat2 f g l)[k * 2 + 1]? = some (g l[k]) := by
  induction l generalizing k with
  | nil => simp at h
  | cons x r ih =>
    cases k with
    | zero => simp [flat2]
    | succ k =>
      have := ih k (by simpa using h)
      have e : (k + 1) * 2 = k * 2 + 1 + 1 := by omega
      rw [e]
      simpa [flat2] using this
end
theorem Reads.at2 {α : Type} {f g : α → Value} {w : World} {B n k : Nat} {A : Option Addr} {l : List α} (h : Reads w B 2 A n (flat2 f g l)) (hn : n = l.length) (hk : k < l.length) :
    ∃ b off, A = some ⟨b, off, none⟩ ∧ b < B ∧ w.cell? ⟨b, off + k * 2, none⟩ = some (f l[k]) ∧ w.cell? ⟨b, off + k * 2 + 1, none⟩ = some (g l[k]) := by
  obtain ⟨b, off, e, hb, hc⟩ := h.2 (by omega)
  obtain ⟨h1, h2⟩ := flat2_at (f := f) (g := g) l k hk
  exact ⟨b, off, e, hb, hc _ _ h1, by have := hc _ _ h2; rwa [← Nat.add_assoc] at this⟩
end Go.Proofs.YtcopnpllaoahaaaGreatDoor
namespace Go.Proofs.YtcopnpllaoahaaaGreatDoor
open Go.RowKit
/-- slice type t has elements e, whose zero is z, of so many cells and bytes -/
structure Elem (P : Program) (t e : TypeId) (z : Value) (size bytes : Nat) : Prop where
  ht : P.underlying t = some (.slice e)
  hi : (P.info? e).map (fun i => (i.zero, i.size, i.bytes)) = some (some z, size, bytes)
  hz : z.cells.size = size
  hs : 0 < size
theorem alloc1_new (w : World) (o : Obj) : (w.alloc o).heap[w.heap.size]? = some o := heap_alloc_new w o
theorem alloc2_new (w : World) (o o' : Obj) : ((w.alloc o').alloc o).heap[w.heap.size + 1]? = some o := by
  have := heap_alloc_new (w.alloc o') o
  simpa using this
theorem alloc3_new (w : World) (o o' o'' : Obj) : (((w.alloc o'').alloc o').alloc o).heap[w.heap.size + 1 + 1]? = some o := by
  have := heap_alloc_new ((w.alloc o'').alloc o') o
  simpa using this
theorem alloc4_new (w : World) (o o' o'' o3 : Obj) : ((((w.alloc o3).alloc o'').alloc o').alloc o).heap[w.heap.size + 1 + 1 + 1]? = some o := by
  have := heap_alloc_new (((w.alloc o3).alloc o'').alloc o') o
  simpa using this
theorem below_own {w0 w w' : World} {e : TypeId} {size n : Nat} {v : Value} {xs : List Value} (hb : Below w0.heap.size w0 w) (hown : w.ownsRow w0.heap.size e size v n xs) (hg : w.grownBy w' v.ownBlock) : Below w0.heap.size w0 w' :=
  hb.grown hg hb.size fun k hk => (hown.lt k hk).1

/-- append(v, x): x lies in a block that is known whole -/
theorem wpList_app {P : Program} {w : World} {ops : Array Oper} {rest : List Oper} {o : Oper} {a : Act} {Q : Exit → Act → World → Prop} {e : TypeId} {z : Value} {size bytes : Nat} {t : TypeId} (E : Elem P t e z size bytes)
    (hgd : o.guard = none) (s x : Operand) (ho : o.op = .call { callee := .builtin .append, args := #[s, x], argTypes := #[t, t] }) (hty : o.type = t)
    {v : Value} (n : Nat) (xs : List Value) (hs : a.eval s = v) {G m c : Nat} (hx : a.eval x = .slice (some ⟨G, 0, none⟩) m c)
    (w0 : World) (hown : w.ownsRow w0.heap.size e size v n xs) (hb : Below w0.heap.size w0 w)
    (cs : List Value) (hG : w.heap[G]? = some (.cells cs.toArray e (0, 0))) (hl : cs.length = m * size) (h1 : ∀ u ∈ cs, u.oneCell' = true)
    (hm : 0 < m) (hbytes : (n + m) * bytes ≤ 140737488355328) (h63 : n + m ≤ 140737488355328)
    (h : ∀ g cap w', w'.ownsRow w0.heap.size e size (.slice (some ⟨g, 0, none⟩) (n + m) cap) (n + m) (xs ++ cs) → Below w0.heap.size w0 w' → w.grownBy w' v.ownBlock → wpList P ops Q rest (a.put o.dst (.slice (some ⟨g, 0, none⟩) (n + m) cap)) w') :
    wpList P ops Q (o :: rest) a w := by
  obtain ⟨i, hi, hz0, hz1, hz2⟩ := info_parts E.hi
  exact wpList_append_lies w hgd s x t ho w0.heap.size e i z size bytes (hty ▸ E.ht) hi hz0 hz1 hz2 E.hz E.hs v n xs hs hown ⟨G, 0, none⟩ m c cs hx hl (World.news_of_block hG) h1 hm (by unfold maxLen; omega) hbytes hb.size _ rfl
    fun g cap w' h2 h3 _ _ => h g cap w' h2 (below_own hb hown h3) h3
/-- the same at a step of a region that draws -/
theorem step_app {P : Program} {w : World} {ops : Array Oper} {o : Oper} {a : Act} {K : Act → World → Prop} {Q : Exit → Act → World → Prop} {E0 : Prop} {e : TypeId} {z : Value} {size bytes : Nat} {t : TypeId} (E : Elem P t e z size bytes)
    (hgd : o.guard = none) (s x : Operand) (ho : o.op = .call { callee := .builtin .append, args := #[s, x], argTypes := #[t, t] }) (hty : o.type = t)
    {v : Value} (n : Nat) (xs : List Value) (hs : a.eval s = v) {G m c : Nat} (hx : a.eval x = .slice (some ⟨G, 0, none⟩) m c)
    (w0 : World) (hown : w.ownsRow w0.heap.size e size v n xs) (hb : Below w0.heap.size w0 w)
    (cs : List Value) (hG : w.heap[G]? = some (.cells cs.toArray e (0, 0))) (hl : cs.length = m * size) (h1 : ∀ u ∈ cs, u.oneCell' = true)
    (hm : 0 < m) (hbytes : (n + m) * bytes ≤ 140737488355328) (h63 : n + m ≤ 140737488355328)
    (h : ∀ g cap w', w'.ownsRow w0.heap.size e size (.slice (some ⟨g, 0, none⟩) (n + m) cap) (n + m) (xs ++ cs) → Below w0.heap.size w0 w' → w.grownBy w' v.ownBlock → K (a.put o.dst (.slice (some ⟨g, 0, none⟩) (n + m) cap)) w') :
    if Region.wanted o (yielded ops a.tmps) = true then Oper.wp P o a w K Q else E0 := by
  obtain ⟨i, hi, hz0, hz1, hz2⟩ := info_parts E.hi
  exact step_append_lies w hgd s x t ho w0.heap.size e i z size bytes (hty ▸ E.ht) hi hz0 hz1 hz2 E.hz E.hs v n xs hs hown ⟨G, 0, none⟩ m c cs hx hl (World.news_of_block hG) h1 hm (by unfold maxLen; omega) hbytes hb.size _ rfl
    fun g cap w' h2 h3 _ _ => h g cap w' h2 (below_own hb hown h3) h3
end Go.Proofs.YtcopnpllaoahaaaGreatDoor

namespace Go.Proofs.YtcopnpllaoahaaaGreatDoor
open Go.RowKit
theorem own_sl {w : World} {base : Nat} {e : TypeId} {size n : Nat} {v : Value} {xs : List Value} (h : w.ownsRow base e size v n xs) :
    ∃ A c, v = .slice A n c ∧ Reads w w.heap.size size A n xs ∧ n ≤ c ∧ c ≤ 9223372036854775807 := by
  have h' := h
  rcases h.2 with ⟨rfl, rfl⟩ | ⟨g, cap, cur, rfl, hb, hg, hc, hm, _⟩
  · exact ⟨none, 0, rfl, Reads.of_own h', Nat.le_refl _, by omega⟩
  · exact ⟨_, cap, rfl, Reads.of_own h', hc, by unfold maxLen at hm; exact hm⟩
end Go.Proofs.YtcopnpllaoahaaaGreatDoor
namespace Go.Proofs.YtcopnpllaoahaaaGreatDoor
open Go.RowKit
theorem strOfNums_bytes (l : List UInt8) : strOfNums (l.map fun b => ((b.toNat : Nat) : Int)) = ⟨l.toArray⟩ := by
  apply ByteArray.ext
  apply Array.toList_inj.1
  rw [strOfNums_data]
  simp only [List.map_map]
  rw [show ((fun n : Int => UInt8.ofNat n.toNat) ∘ fun b : UInt8 => ((b.toNat : Nat) : Int)) = id from by funext b; simp]
  simp
/-- a []byte that reads as the bytes l, turned to a string -/
theorem run_conv {P : Program} {src dst e : TypeId} (hs : P.underlying src = some (.slice e)) (he : P.underlying e = some (.int .u8)) (hd : P.underlying dst = some .string) {w : World} {B n c : Nat} {A : Option Addr} {l : List UInt8}
    (h : Reads w B 1 A n (l.map fun b => Value.int .u8 (b.toNat : Int))) : (convert src dst (.slice A n c)).run P w = .ok (.string ⟨l.toArray⟩) w := by
  have hl : l.length = n := by simpa using h.1
  rcases Nat.eq_zero_or_pos n with h0 | h0
  · subst h0
    have : l = [] := List.eq_nil_of_length_eq_zero hl
    subst this
    cases A with
    | none => exact run_convert_bytes_nil w src e hs he 0 c dst hd
    | some ad =>
      rw [run_convert_bytes_string w src dst e _ 0 c hs he hd]
      rw [run_bytesToString w ad 0 c [] (by simp [loadCells, loadCellsFrom])]
      rfl
  · obtain ⟨b, off, rfl, _, hc⟩ := h.2 h0
    rw [← strOfNums_bytes]
    refine run_convert_bytes_arg w src e hs he b off n c _ (by simpa using hl) (fun i hi => ?_) dst hd
    have hi' : i < l.length := by omega
    rw [hc i (.int .u8 (l[i].toNat : Int)) (by simp [hi'])]
    simp [List.getD, hi']
theorem run_make_rowN {P : Program} (t e : TypeId) (i : TypeInfo) (z : Value) (ht : P.underlying t = some (.slice e)) (hi : P.info? e = some i) (hz : i.zero = some z)
    (kl kc : IntKind) (n c : Nat) (hnc : n ≤ c) (hbytes : i.bytes * c ≤ 281474976710656) (h63 : c ≤ 9223372036854775807) (w : World) :
    (Instr.makeSlice t (.int kl (n : Int)) (.int kc (c : Int))).run P w = .ok (.slice (some ⟨w.heap.size, 0, none⟩) n c) (w.alloc (.cells (madeCells z.cells (c * i.size)) e)) := by
  have hb : (i.bytes : Int) * (c : Int) ≤ 281474976710656 := by
    have h : ((i.bytes * c : Nat) : Int) ≤ 281474976710656 := by omega
    rwa [Int.natCast_mul] at h
  have hr := run_make (P := P) w t e i z ht hi hz kl kc n c (by omega) (by omega) hb (by omega)
  simp only [Int.toNat_natCast] at hr
  exact hr
/-- make([]T, n, c): one equation for each world -/
theorem run_mk {P : Program} {t e : TypeId} {z : Value} {size bytes : Nat} (E : Elem P t e z size bytes) (kl kc : IntKind) (n c : Nat) (hnc : n ≤ c) (hbytes : bytes * c ≤ 281474976710656) (h63 : c ≤ 9223372036854775807) (w : World) :
    (Instr.makeSlice t (.int kl (n : Int)) (.int kc (c : Int))).run P w = .ok (.slice (some ⟨w.heap.size, 0, none⟩) n c) (w.alloc (.cells (madeCells z.cells (c * size)) e)) := by
  obtain ⟨i, hi, hz0, hz1, hz2⟩ := info_parts E.hi
  subst hz1 hz2
  exact run_make_rowN t e i z E.ht hi hz0 kl kc n c hnc hbytes h63 w
/-- everything but the blocks of X stands -/
def KeepX (X : Nat → Prop) (w w' : World) : Prop := w.heap.size ≤ w'.heap.size ∧ ∀ g, g < w.heap.size → ¬ X g → w'.heap[g]? = w.heap[g]?
theorem KeepX.refl (X : Nat → Prop) (w : World) : KeepX X w w := ⟨Nat.le_refl _, fun _ _ _ => rfl⟩
theorem KeepX.trans {X : Nat → Prop} {a b c : World} (h : KeepX X a b) (k : KeepX X b c) : KeepX X a c :=
  ⟨Nat.le_trans h.1 k.1, fun g hg hX => (k.2 g (Nat.lt_of_lt_of_le hg h.1) hX).trans (h.2 g hg hX)⟩
theorem KeepX.setCell {X : Nat → Prop} {a w : World} (h : KeepX X a w) {p : Addr} (hp : X p.block) (u : Value) : KeepX X a (w.setCell p u) :=
  ⟨by simpa [World.setCell] using h.1, fun g hg hX => (Below.heap_setCell w p u g (fun e => hX (e ▸ hp))).trans (h.2 g hg hX)⟩
theorem KeepX.drewN {X : Nat → Prop} {a w : World} (h : KeepX X a w) (n : Nat) : KeepX X a (w.drewN n) := h
theorem KeepX.alloc {X : Nat → Prop} {a w : World} (h : KeepX X a w) (o : Obj) : KeepX X a (w.alloc o) :=
  ⟨Nat.le_trans h.1 (by simp), fun g hg hX => (Below.heap_alloc w o g (Nat.lt_of_lt_of_le hg h.1)).trans (h.2 g hg hX)⟩
theorem KeepX.own {X : Nat → Prop} {w w' : World} (h : KeepX X w w') {base : Nat} {e : TypeId} {size n : Nat} {v : Value} {xs : List Value} (hown : w.ownsRow base e size v n xs) (hX : ∀ g, v.ownBlock = some g → ¬ X g) : w'.ownsRow base e size v n xs := by
  refine ⟨hown.1, ?_⟩
  rcases hown.2 with hn | ⟨g, cap, cur, rfl, hbg, hg, rest⟩
  · exact .inl hn
  · have hlt : g < w.heap.size := by
      rcases Nat.lt_or_ge g w.heap.size with h' | h'
      · exact h'
      · simp [Array.getElem?_eq_none h'] at hg
    exact .inr ⟨g, cap, cur, rfl, hbg, (h.2 g hlt (hX g rfl)).trans hg, rest⟩
end Go.Proofs.YtcopnpllaoahaaaGreatDoor
namespace Go.Proofs.YtcopnpllaoahaaaGreatDoor
open Go.RowKit
theorem dropByte {s : ByteArray} {k : Nat} (h : k < s.size) : s.data.toList.drop k = s[k] :: s.data.toList.drop (k + 1) := by
  have hl : k < s.data.toList.length := by simpa using h
  rw [List.drop_eq_getElem_cons hl]; rfl
theorem extList (s : ByteArray) (a b : Nat) : (s.extract a b).data.toList = (s.data.toList.drop a).take (b - a) := by
  rw [ByteArray.data_extract, Array.toList_extract]
def mkB (l : List UInt8) : ByteArray := ⟨l.toArray⟩
/-- a string cut at a byte -/
def pts (d : UInt8) (cur : List UInt8) : List UInt8 → List (List UInt8)
  | [] => [cur]
  | c :: t => if c = d then cur :: pts d [] t else pts d (cur ++ [c]) t
theorem pts_hit (d : UInt8) (cur t : List UInt8) : pts d cur (d :: t) = cur :: pts d [] t := by rw [pts, if_pos rfl]
theorem pts_other {d c : UInt8} (h : c ≠ d) (cur t : List UInt8) : pts d cur (c :: t) = pts d (cur ++ [c]) t := by rw [pts, if_neg h]
theorem pts_app (d : UInt8) : ∀ (a cur t : List UInt8), d ∉ a → pts d cur (a ++ d :: t) = (cur ++ a) :: pts d [] t
  | [], cur, t, _ => by simp [pts_hit]
  | c :: a, cur, t, h => by
    rw [List.mem_cons, not_or] at h
    rw [List.cons_append, pts_other (fun e => h.1 e.symm), pts_app d a _ _ h.2]
    simp
theorem pts_no (d : UInt8) : ∀ (a cur : List UInt8), d ∉ a → pts d cur a = [cur ++ a]
  | [], cur, _ => by simp [pts]
  | c :: a, cur, h => by
    rw [List.mem_cons, not_or] at h
    rw [pts_other (fun e => h.1 e.symm), pts_no d a _ h.2]
    simp
theorem pts_len (d : UInt8) : ∀ (l cur : List UInt8), (pts d cur l).length = l.count d + 1
  | [], _ => rfl
  | c :: t, cur => by
    by_cases h : c = d
    · subst h; rw [pts_hit, List.length_cons, pts_len, List.count_cons_self]
    · rw [pts_other h, pts_len d t, List.count_cons_of_ne h]
/-- the first place of a byte -/
theorem index_split (d : UInt8) (l : List UInt8) : (Lib.index l [d] = -1 ∧ d ∉ l) ∨ (∃ o : Nat, Lib.index l [d] = o ∧ l = l.take o ++ d :: l.drop (o + 1) ∧ d ∉ l.take o ∧ o < l.length) := by
  have hix := Lib.index_one l d
  have hge := Lib.indexByte_ge l d
  by_cases hm : Lib.indexByte l d = -1
  · refine .inl ⟨hix.trans hm, ?_⟩
    have hno := Lib.indexByte_none hm
    intro hmem
    obtain ⟨k, hk⟩ := List.mem_iff_getElem?.1 hmem
    exact hno k hk
  · obtain ⟨o, ho⟩ : ∃ o : Nat, Lib.indexByte l d = o := ⟨(Lib.indexByte l d).toNat, by omega⟩
    obtain ⟨h1, h2⟩ := Lib.indexByte_some ho
    have hlt : o < l.length := by
      rcases Nat.lt_or_ge o l.length with h' | h'
      · exact h'
      · rw [List.getElem?_eq_none h'] at h1; exact absurd h1 (by simp)
    refine .inr ⟨o, hix.trans ho, ?_, ?_, hlt⟩
    · have e := List.drop_eq_getElem_cons hlt
      have e2 : l[o] = d := by rw [List.getElem?_eq_getElem hlt] at h1; exact Option.some.inj h1
      rw [e2] at e
      rw [← e, List.take_append_drop]
    · intro hmem
      obtain ⟨k, hk⟩ := List.mem_iff_getElem?.1 hmem
      have hko : k < o := by
        rcases Nat.lt_or_ge k o with h' | h'
        · exact h'
        · rw [List.getElem?_eq_none (by simp <;> omega)] at hk; exact absurd hk (by simp)
      rw [List.getElem?_take_of_lt hko] at hk
      exact h2 k hko hk
theorem splitK_pts (d : UInt8) : ∀ (n : Nat) (l : List UInt8), l.count d = n → Lib.splitK [d] 0 n l = pts d [] l := by
  intro n
  induction n with
  | zero =>
    intro l h
    rw [pts_no d l [] (List.count_eq_zero.1 h)]
    rfl
  | succ n ih =>
    intro l h
    rcases index_split d l with ⟨_, hno⟩ | ⟨o, ho, hsp, hno, hlt⟩
    · rw [List.count_eq_zero.2 hno] at h; omega
    · have hc : (l.drop (o + 1)).count d = n := by
        have e := congrArg (List.count d) hsp
        rw [List.count_append, List.count_cons_self, List.count_eq_zero.2 hno, h] at e
        omega
      rw [Lib.splitK, ho, if_neg (by simp <;> omega)]
      have e1 : (o : Int).toNat = o := by simp
      rw [e1]
      show l.take (o + 0) :: Lib.splitK [d] 0 n (l.drop (o + 1)) = _
      rw [ih _ hc]
      conv => rhs; rw [hsp]
      rw [pts_app d _ _ _ hno]
      simp
theorem count_byte (d : UInt8) (l : List UInt8) : Lib.count l [d] = l.count d := by
  induction hn : l.length using Nat.strongRecOn generalizing l with
  | _ n ih =>
    rcases index_split d l with ⟨hm, hno⟩ | ⟨o, ho, hsp, hno, hlt⟩
    · rw [Lib.count_miss hm, List.count_eq_zero.2 hno]
    · rw [Lib.count_hit (by simp) ho]
      show 1 + Lib.count (l.drop (o + 1)) [d] = _
      rw [ih (l.drop (o + 1)).length (by rw [List.length_drop]; omega) _ rfl]
      have e := congrArg (List.count d) hsp
      rw [List.count_append, List.count_cons_self, List.count_eq_zero.2 hno] at e
      omega
def ptsB (d : UInt8) (s : ByteArray) : List ByteArray := (pts d [] s.data.toList).map mkB
theorem mkB_dat (l : List UInt8) : (mkB l).data.toList = l := by simp [mkB]
theorem mkB_back (s : ByteArray) : mkB s.data.toList = s := by
  apply ByteArray.ext
  simp [mkB]
/-- what strings.Split returns -/
theorem splitB_pts (d : UInt8) (s : ByteArray) :
    Lib.splitB ⟨#[d]⟩ 0 (Lib.countB s ⟨#[d]⟩) s = ptsB d s ∧ Lib.countB s ⟨#[d]⟩ + 1 = (ptsB d s).length := by
  have hc : Lib.countB s ⟨#[d]⟩ = s.data.toList.count d := by
    show Lib.count _ [d] = _
    rw [count_byte]
  have hs := Lib.splitB_data ⟨#[d]⟩ 0 (Lib.countB s ⟨#[d]⟩) s
  rw [hc] at hs
  have hs2 : (Lib.splitB ⟨#[d]⟩ 0 (s.data.toList.count d) s).map (·.data.toList) = pts d [] s.data.toList := by
    rw [hs]
    exact splitK_pts d _ _ rfl
  rw [hc]
  constructor
  · unfold ptsB
    rw [← hs2, List.map_map]
    conv => lhs; rw [← List.map_id (Lib.splitB ⟨#[d]⟩ 0 (s.data.toList.count d) s)]
    apply List.map_congr_left
    intro a _
    exact (mkB_back a).symm
  · unfold ptsB
    rw [List.length_map, pts_len]
/-- the pieces while a string is walked -/
def PtRel (d : UInt8) (s : ByteArray) (a i : Nat) (out : List ByteArray) : Prop := ptsB d s = out ++ (pts d ((s.data.toList.drop a).take (i - a)) (s.data.toList.drop i)).map mkB
theorem PtRel.start (d : UInt8) (s : ByteArray) : PtRel d s 0 0 [] := rfl
theorem PtRel.hit {d : UInt8} {s : ByteArray} {a i : Nat} {out : List ByteArray} (h : PtRel d s a i out) (hi : i < s.size) (hc : s[i] = d) : PtRel d s (i + 1) (i + 1) (out ++ [s.extract a i]) := by
  unfold PtRel at h ⊢
  rw [h, dropByte hi, hc, pts_hit, List.map_cons, Nat.sub_self, List.take_zero, List.append_assoc]
  congr 2
  rw [← extList, mkB_back]
theorem PtRel.other {d : UInt8} {s : ByteArray} {a i : Nat} {out : List ByteArray} (h : PtRel d s a i out) (hi : i < s.size) (ha : a ≤ i) (hc : s[i] ≠ d) : PtRel d s a (i + 1) out := by
  unfold PtRel at h ⊢
  have hl : s.data.toList.length = s.size := by simp
  rw [h, dropByte hi, pts_other hc]
  congr 3
  have e : i + 1 - a = (i - a) + 1 := by omega
  rw [e, List.take_add_one, List.getElem?_drop, show a + (i - a) = i by omega, List.getElem?_eq_getElem (by omega)]
  rfl
theorem PtRel.done {d : UInt8} {s : ByteArray} {a : Nat} {out : List ByteArray} (h : PtRel d s a s.size out) : ptsB d s = out ++ [s.extract a s.size] := by
  unfold PtRel at h
  have hl : s.data.toList.length = s.size := by simp
  rw [h, ← hl, List.drop_length]
  show out ++ [mkB _] = _
  congr 2
  rw [← extList, mkB_back]
/-- cut at a byte -/
theorem cut_no {d : UInt8} {l : List UInt8} (h : d ∉ l) : Lib.cut l [d] = (l, [], false) := by
  rcases index_split d l with ⟨hm, _⟩ | ⟨o, ho, hsp, hno, hlt⟩
  · unfold Lib.cut; rw [hm, if_neg (by omega)]
  · exact absurd (by rw [hsp]; simp) h
theorem cut_yes {d : UInt8} {a t : List UInt8} (h : d ∉ a) : Lib.cut (a ++ d :: t) [d] = (a, t, true) := by
  rcases index_split d (a ++ d :: t) with ⟨hm, hn⟩ | ⟨o, ho, hsp, hno, hlt⟩
  · exact absurd (by simp) hn
  · have hol : o = a.length := by
      rcases Nat.lt_trichotomy o a.length with h1 | h1 | h1
      · exfalso
        have hto : ((a ++ d :: t).take o).length = o := by rw [List.length_take]; omega
        have h3 : ((a ++ d :: t).take o ++ d :: (a ++ d :: t).drop (o + 1))[o]? = some d := by
          rw [List.getElem?_append_right (by omega), hto]; simp
        have h2 : (a ++ d :: t)[o]? = some d := by rw [← hsp] at h3; exact h3
        rw [List.getElem?_append_left h1] at h2
        exact h (List.mem_of_getElem? h2)
      · exact h1
      · exfalso
        refine hno ?_
        have h2 : ((a ++ d :: t).take o)[a.length]? = some d := by
          rw [List.getElem?_take_of_lt h1, List.getElem?_append_right (Nat.le_refl _)]
          simp
        exact List.mem_of_getElem? h2
    unfold Lib.cut
    rw [ho, if_pos (by omega)]
    have e1 : (o : Int).toNat = a.length := by omega
    rw [e1]
    simp
/-- either the byte is not there, or the string is cut at its first place -/
theorem cut_cases (d : UInt8) (l : List UInt8) : (d ∉ l ∧ Lib.cut l [d] = (l, [], false)) ∨ ∃ a t, l = a ++ d :: t ∧ d ∉ a ∧ Lib.cut l [d] = (a, t, true) := by
  rcases index_split d l with ⟨hm, hn⟩ | ⟨o, ho, hsp, hno, hlt⟩
  · exact .inl ⟨hn, cut_no hn⟩
  · refine .inr ⟨l.take o, l.drop (o + 1), hsp, hno, ?_⟩
    conv => lhs; rw [hsp]
    exact cut_yes hno
end Go.Proofs.YtcopnpllaoahaaaGreatDoor
