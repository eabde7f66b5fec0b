/- Reports' texts: Parse of the program. No condition. -/
import Derived.Test.YtaainkjgnljihaaGreatDoorV2
namespace Go.Proofs.YtaainkjgnljihaaGreatDoor
open Go.RowKit
abbrev atO (p : Nat) : Obj := .cells #[.int .i64 (p : Int)] 3 (0, 0)
abbrev lsO (A : Option Addr) (n c : Nat) : Obj := .cells #[.slice A n c] 56 (0, 0)
abbrev rpO (x y z : Value) : Obj := .cells #[x, y, z] 24 (0, 0)
def nxO (L : List ByteArray) (p : Nat) (word : List UInt8) (many : Nat) : Option (List Int) := match L[p]? with
  | none => none
  | some x => lineN word many x.data.toList
theorem nxO_over {L : List ByteArray} {p : Nat} (word : List UInt8) (many : Nat) (h : L.length ≤ p) : nxO L p word many = none := by unfold nxO; rw [List.getElem?_eq_none h]
theorem nxO_at {L : List ByteArray} {p : Nat} {x : ByteArray} (word : List UInt8) (many : Nat) (h : L[p]? = some x) : nxO L p word many = lineN word many x.data.toList := by unfold nxO; rw [h]
theorem nxO_len {L : List ByteArray} {p : Nat} {word : List UInt8} {many : Nat} {ns : List Int} (h : nxO L p word many = some ns) : ns.length = many ∧ p < L.length ∧ ∀ n ∈ ns, 0 ≤ n ∧ n ≤ 1000000000 := by
  unfold nxO at h
  split at h
  · cases h
  rename_i x hx
  obtain ⟨_, h2, h3⟩ := lineN_some h
  exact ⟨h3, (List.getElem?_eq_some_iff.1 hx).1, h2⟩
theorem strAt2 {w : World} {B k : Nat} {A : Option Addr} {l : List ByteArray} (h : Reads w B 1 A l.length (Ss l)) (hk : k < l.length) :
    ∃ b off, A = some ⟨b, off, none⟩ ∧ b < B ∧ w.cell? ⟨b, off + k, none⟩ = some (.string l[k]) := by
  obtain ⟨b, off, e, hb, hc⟩ := h.2 (by omega)
  exact ⟨b, off, e, hb, hc k _ (by simp [hk])⟩
set_option maxRecDepth 100000 in
set_option maxHeartbeats 2000000 in
theorem next_ (w0 w : World) (bA bL p c : Nat) (A : Option Addr) (L : List ByteArray) (word : ByteArray) (many : Nat) (hm1 : 1 ≤ many) (hm : many ≤ 10) (hb : Below w0.heap.size w0 w) (hbA : w0.heap.size ≤ bA) (hA : w.heap[bA]? = some (atO p)) (hL : w.heap[bL]? = some (lsO A L.length c)) (hne : bA ≠ bL)
    (hr : Reads w bA 1 A L.length (Ss L)) (hp : p ≤ 1000000) (hl : L.length ≤ 1000000) (hE : Esc w0) (hM : ML w0) (hR : ER w0) :
    Calls Tryz.prog 23 #[.string word, .int .i64 (many : Int), .pointer (some ⟨bA, 0, none⟩), .pointer (some ⟨bL, 0, none⟩)] w (RetNs (w.setCell ⟨bA, 0, none⟩ (.int .i64 ((p : Int) + 1))) (nxO L p word.data.toList many)) := by
  obtain ⟨c0, f0⟩ : _ ∧ _ := ⟨Lib.cell_of_heap hA 0, Lib.frozen_of_heap hA 0⟩
  have hw1 : Below w0.heap.size w0 (w.setCell ⟨bA, 0, none⟩ (.int .i64 ((p : Int) + 1))) := bs hb hbA
  have hA1 : (w.setCell ⟨bA, 0, none⟩ (.int .i64 ((p : Int) + 1))).heap[bA]? = some (.cells #[.int .i64 ((p : Int) + 1)] 3 (0, 0)) := by rw [set_same (i := 0) hA]; simp
  have hL1 : (w.setCell ⟨bA, 0, none⟩ (.int .i64 ((p : Int) + 1))).heap[bL]? = some (lsO A L.length c) := set_blk hL ⟨bA, 0, none⟩ _ hne
  have hr1 := hr.setCell (p := ⟨bA, 0, none⟩) (Nat.le_refl _) (.int .i64 ((p : Int) + 1))
  have k0 := Lib.cell_of_heap hA1 0
  have k1 := Lib.cell_of_heap hL1 0
  have c1 := Lib.cell_of_heap hL 0
  by_cases hlt : p < L.length
  · have i1 : ¬ ((L.length : Int) < (p : Int) + 1) := by omega
    have i2 : (p : Int) < (L.length : Int) := by omega
    have i0 : (0 : Int) ≤ (p : Int) := by omega
    obtain ⟨b, off, rfl, hbb, d⟩ := strAt2 hr1 hlt
    have Hx := Lib.hid (nxO_at word.data.toList many (List.getElem?_eq_getElem hlt))
    generalize L[p] = x at *
    have hn := numbers_ x word many hm1 hm (w.setCell ⟨bA, 0, none⟩ (.int .i64 ((p : Int) + 1))) (hE.below hw1) (hM.below hw1) (hR.below hw1)
    rw [← Hx.out] at hn
    have Hn := Lib.hid hn
    clear hn hA1 hL1 hr1 hr hA hL hw1 hb
    go_enter Tryz.func23, Tryz.ntmps23
    go_wp2_with fail
    (with_reducible refine (Hn.out).mono ?_); rintro e w2 ⟨v, rfl, hb2, ho2⟩
    go_wp2
    go_ret2
    exact ⟨v, rfl, hb2, ho2⟩
  · have i1 : (L.length : Int) < (p : Int) + 1 := by omega
    have Hx := Lib.hid (nxO_over word.data.toList many (by omega : L.length ≤ p))
    clear hA1 hL1 hr1 hr hA hL hw1 hb
    go_enter Tryz.func23, Tryz.ntmps23
    go_wp2
    go_ret2
    exact .no (Below.refl _ _) Hx.out
/-- what a row of the call's own holds -/
theorem own_cells {w : World} {base n : Nat} {v : Value} {x : Value} {xs : List Value} (h : w.ownsRow base 3 1 v n (x :: xs)) : ∃ g cap cur, v = .slice (some ⟨g, 0, none⟩) n cap ∧ base ≤ g ∧ w.heap[g]? = some (.cells cur 3 (0, 0)) ∧ cur.toList.take (n * 1) = x :: xs := by
  obtain ⟨h1, ⟨_, h2⟩ | ⟨g, cap, cur, h2, h3, h4, _, _, _, h5⟩⟩ := h
  · subst h2; simp at h1
  · exact ⟨g, cap, cur, h2, h3, h4, h5⟩
theorem cell_take {w : World} {g : Nat} {cur : Array Value} {t : TypeId} {l : List Value} {n j : Nat} {u : Value} (h : w.heap[g]? = some (.cells cur t (0, 0))) (hl : cur.toList.take n = l) (hj : l[j]? = some u) : w.cell? ⟨g, j, none⟩ = some u := by
  rw [Lib.cell_of_heap h]
  rw [← hl, List.getElem?_take] at hj
  split at hj
  · simpa using hj
  · cases hj
def RetPar (w : World) (q : PR) (e : Ending) (w' : World) : Prop :=
  ∃ A c, e = .returned (.tuple #[repV A q.l.length c (decide (0 < q.d)) q.d, .int .i64 q.p, .int .i64 q.e]) ∧ Below w.heap.size w w' ∧ Reads w' w'.heap.size 2 A q.l.length (hits q.l) ∧ q.l.length ≤ c ∧ c ≤ 9223372036854775807
theorem RetPar.no {w w' : World} {q : PR} {p er : Int} (hq : q = ⟨[], 0, p, er⟩) (hb : Below w.heap.size w w') : RetPar w q (.returned (.tuple #[repV none 0 0 false 0, .int .i64 p, .int .i64 er])) w' := by
  subst hq
  exact ⟨none, 0, rfl, hb, Reads.none_, Nat.le_refl _, by omega⟩
theorem psR_cap {s : ByteArray} {k : Int} (h : capK k = false) : psR s k = ⟨[], 0, -1, 7⟩ := by unfold psR; rw [if_pos h]
theorem psR_lines {s : ByteArray} {k : Int} {L : List ByteArray} {er : Int} (h : capK k = true) (hl : linesL s = (L, er)) (he : er ≠ 0) : psR s k = ⟨[], 0, 0, er⟩ := by
  unfold psR; rw [if_neg (by simp [h]), hl, if_pos he]
theorem psR_form {s : ByteArray} {k : Int} {L : List ByteArray} {p : Nat} (h : capK k = true) (hl : linesL s = (L, 0)) (hp : psL L = (p, [], 0)) (h0 : p ≠ 0) : psR s k = ⟨[], 0, p, 6⟩ := by
  unfold psR; rw [if_neg (by simp [h]), hl, if_neg (by simp)]; simp only; rw [hp, if_pos h0]
theorem psR_chk {s : ByteArray} {k : Int} {L : List ByteArray} {l : List Hit} {d : Int} (h : capK k = true) (hl : linesL s = (L, 0)) (hp : psL L = (0, l, d)) (hc : (chkR l (decide (0 < d)) d k).2 ≠ 0) : psR s k = ⟨[], 0, 0, (chkR l (decide (0 < d)) d k).2⟩ := by
  unfold psR; rw [if_neg (by simp [h]), hl, if_neg (by simp)]; simp only; rw [hp, if_neg (by simp)]; simp only; rw [if_pos hc]
theorem psR_ok {s : ByteArray} {k : Int} {L : List ByteArray} {l : List Hit} {d : Int} (h : capK k = true) (hl : linesL s = (L, 0)) (hp : psL L = (0, l, d)) (hc : (chkR l (decide (0 < d)) d k).2 = 0) : psR s k = ⟨l, d, 0, 0⟩ := by
  unfold psR; rw [if_neg (by simp [h]), hl, if_neg (by simp)]; simp only; rw [hp, if_neg (by simp)]; simp only; rw [if_neg (by simp [hc])]
/-- how Parse goes on -/
def finP (d : Int) (h : Nat × List Hit) : Nat × List Hit × Int := if h.1 = 0 then (0, h.2, d) else (h.1, [], 0)
def PaRel (L : List ByteArray) (n : Nat) (d : Int) (acc : List Hit) : Prop := psL L = finP d (hitsA (L.drop (acc.length + 2)) acc (acc.length + 2) (n - acc.length)) ∧ acc.length ≤ n ∧ acc.length + 2 ≤ L.length
theorem one_of {word x : List UInt8} {n : Int} (h : lineN word 1 x = some [n]) : oneF word x = some n := by unfold oneF; rw [h]
theorem one_no {word x : List UInt8} (h : lineN word 1 x = none) : oneF word x = none := by unfold oneF; rw [h]
theorem psL_1 {L : List ByteArray} (h : nxO L 0 wHits 1 = none) : psL L = (1, [], 0) := by
  unfold nxO at h
  rcases L with _ | ⟨x, r⟩
  · rfl
  · simp only [List.getElem?_cons_zero] at h
    unfold psL; simp only; rw [one_no h]
theorem psL_2 {L : List ByteArray} {n : Int} (h : nxO L 0 wHits 1 = some [n]) (h2 : nxO L 1 wDropped 1 = none) : psL L = (2, [], 0) := by
  unfold nxO at h h2
  rcases L with _ | ⟨x, r⟩
  · cases h
  · simp only [List.getElem?_cons_zero] at h
    unfold psL; simp only; rw [one_of h]
    simp only
    rcases r with _ | ⟨y, t⟩
    · rfl
    · simp only [List.getElem?_cons_succ, List.getElem?_cons_zero] at h2
      simp only
      rw [one_no h2]
theorem PaRel.start {L : List ByteArray} {n d : Int} (h : nxO L 0 wHits 1 = some [n]) (h2 : nxO L 1 wDropped 1 = some [d]) : PaRel L n.toNat d [] := by
  have hl := (nxO_len h2).2.1
  refine ⟨?_, Nat.zero_le _, by simp; omega⟩
  unfold nxO at h h2
  rcases L with _ | ⟨x, r⟩
  · cases h
  · simp only [List.getElem?_cons_zero] at h
    unfold psL; simp only; rw [one_of h]
    simp only
    rcases r with _ | ⟨y, t⟩
    · cases h2
    · simp only [List.getElem?_cons_succ, List.getElem?_cons_zero] at h2
      simp only
      rw [one_of h2]
      rfl
theorem hit_of {x : List UInt8} {a b : Int} (h : lineN wHit 2 x = some [a, b]) : hitF x = some (a, b) := by unfold hitF; rw [h]
theorem hit_no {x : List UInt8} (h : lineN wHit 2 x = none) : hitF x = none := by unfold hitF; rw [h]
theorem nxO_cons {L : List ByteArray} {p : Nat} {word : List UInt8} {many : Nat} (h : p < L.length) : ∃ x, L.drop p = x :: L.drop (p + 1) ∧ nxO L p word many = lineN word many x.data.toList :=
  ⟨L[p], List.drop_eq_getElem_cons h, nxO_at word many (List.getElem?_eq_getElem h)⟩
theorem PaRel.step {L : List ByteArray} {n : Nat} {d : Int} {acc : List Hit} {a b : Int} (h : PaRel L n d acc) (hn : acc.length < n) (hx : nxO L (acc.length + 2) wHit 2 = some [a, b]) : PaRel L n d (acc ++ [(a, b)]) := by
  obtain ⟨h1, h2, h3⟩ := h
  have hl := (nxO_len hx).2.1
  obtain ⟨x, e1, e2⟩ := nxO_cons (word := wHit) (many := 2) hl
  refine ⟨?_, by simp; omega, by simp; omega⟩
  rw [h1, e1]
  obtain ⟨m, hm⟩ : ∃ m, n - acc.length = m + 1 := ⟨n - acc.length - 1, by omega⟩
  rw [hm, hitsA, hit_of (e2 ▸ hx)]
  simp only [List.length_append, List.length_cons, List.length_nil]
  rw [show acc.length + (0 + 1) + 2 = acc.length + 2 + 1 by omega, show n - (acc.length + (0 + 1)) = m by omega]
theorem PaRel.stop {L : List ByteArray} {n : Nat} {d : Int} {acc : List Hit} (h : PaRel L n d acc) (hn : acc.length < n) (hx : nxO L (acc.length + 2) wHit 2 = none) : psL L = (acc.length + 3, [], 0) := by
  obtain ⟨h1, h2, h3⟩ := h
  obtain ⟨m, hm⟩ : ∃ m, n - acc.length = m + 1 := ⟨n - acc.length - 1, by omega⟩
  rw [h1, hm]
  by_cases hl : acc.length + 2 < L.length
  · obtain ⟨x, e1, e2⟩ := nxO_cons (word := wHit) (many := 2) hl
    rw [e1, hitsA, hit_no (e2 ▸ hx)]
    rfl
  · rw [List.drop_eq_nil_of_le (by omega)]
    rfl
theorem PaRel.more {L : List ByteArray} {d : Int} {acc : List Hit} (h : PaRel L acc.length d acc) (hl : acc.length + 2 < L.length) : psL L = (acc.length + 3, [], 0) := by
  obtain ⟨h1, h2, h3⟩ := h
  obtain ⟨x, e1, _⟩ := nxO_cons (word := wHit) (many := 2) hl
  rw [h1, Nat.sub_self, e1]
  rfl
theorem PaRel.done {L : List ByteArray} {d : Int} {acc : List Hit} (h : PaRel L acc.length d acc) (hl : ¬ acc.length + 2 < L.length) : psL L = (0, acc, d) := by
  obtain ⟨h1, h2, h3⟩ := h
  rw [h1, Nat.sub_self, List.drop_eq_nil_of_le (by omega)]
  rfl
structure PaNo (w : World) (L : List ByteArray) (A0 : Option Addr) (c0 bA bL : Nat) (x y z : Value) (p : Nat) (wr : World) : Prop where
  fr : Fr w [(bA, atO p), (bL, lsO A0 L.length c0), (w.heap.size, rpO x y z)] wr
  ps : psL L = (p, [], 0)
  p0 : p ≠ 0
  p1 : p ≤ 1000001
abbrev stO (L : List ByteArray) : Obj := .cells (Ss L).toArray 9 (0, 0)
theorem rd_st {w : World} {B bs : Nat} {L : List ByteArray} (h : w.heap[bs]? = some (stO L)) (hB : bs < B) : Reads w B 1 (some ⟨bs, 0, none⟩) L.length (Ss L) :=
  ⟨by simp, fun _ => ⟨bs, 0, rfl, hB, fun j u hu => by rw [Lib.cell_of_heap h]; simpa using hu⟩⟩
def RetL2 (w : World) (L : List ByteArray) (e : Ending) (w' : World) : Prop := ∃ A c, e = .returned (.tuple #[.slice A L.length c, .int .i64 0]) ∧ Below w.heap.size w w' ∧ L.length ≤ c ∧ (L = [] ∨ ∃ b, A = some ⟨b, 0, none⟩ ∧ w.heap.size ≤ b ∧ w'.heap[b]? = some (stO L))
/-- the lines of a text: where they lie -/
theorem lines2_ (s : ByteArray) (w : World) (hM : ML w) (hsz : s.size ≤ 1000000000) {L : List ByteArray} (hq : linesL s = (L, 0)) :
    Calls Tryz.prog 22 #[.string s] w (RetL2 w L) := by
  have h8 : ¬ 1048576 < s.size := by intro h; rw [linesL_long h] at hq; cases hq
  have i1 : ¬ ((1048576 : Int) < (s.size : Int)) := by omega
  by_cases hz : s.size = 0
  · have hz2 : s.toList.isEmpty = true := List.isEmpty_iff.2 ((toList_nil s).2 hz)
    rw [linesL_nil h8 hz] at hq
    obtain rfl : L = [] := by injection hq with h1; exact h1.symm
    clear h8 hq
    go_enter Tryz.func22, Tryz.ntmps22
    go_wp2
    go_ret2
    exact ⟨none, 0, rfl, Below.refl _ _, Nat.le_refl _, .inl rfl⟩
  have hz2 : s.toList.isEmpty = false := by rw [List.isEmpty_eq_false_iff]; exact fun e => hz ((toList_nil s).1 e)
  have hl : s.data.toList.getLast? = some 10 := by
    refine Decidable.byContradiction fun h => ?_
    rw [linesL_form h8 hz h] at hq; cases hq
  have hn : ¬ 5000 < (lnsB s).length := by intro h; rw [linesL_many h8 hz hl h] at hq; cases hq
  have hsuf : Calls Tryz.prog 38 #[.string s, .string ⟨#[10]⟩] w fun e w' => e = .returned (.bool (decide (s.data.toList.getLast? = some 10))) ∧ w' = w := by
    have := Tryz.strings_HasSuffix s ⟨#[10]⟩ w (by omega)
    rw [show (⟨#[10]⟩ : ByteArray).data.toList = [10] from rfl, suffix_ten] at this
    exact this
  rw [decide_eq_true hl] at hsuf
  have Hsuf := Lib.hid hsuf
  have Hl := Lib.hid hl
  have hs0 : (s.size : Int) - 1 = ((s.size - 1 : Nat) : Int) := by omega
  have hs1 : s.size ≠ 0 := hz
  have hL : Hid (lnsB s = L) := Lib.hid (by rw [linesL_ok h8 hz hl hn] at hq; injection hq)
  rw [hL.out] at hn
  have i2 : ¬ ((5000 : Int) < (L.length : Int)) := by omega
  clear hl hsuf h8 hn hq
  go_enter Tryz.func22, Tryz.ntmps22
  go_wp2_with fail
  (with_reducible refine Hsuf.out.mono ?_); rintro e w ⟨rfl, hw⟩; subst hw
  go_wp2_with fail
  (with_reducible refine (splitL_ s _ hM hsz Hl hL).mono ?_); rintro e w1 ⟨rfl, hw1⟩
  have hb1 := Lib.hid (show Below w.heap.size w w1 by rw [hw1]; exact ba (Below.refl _ _) _)
  have hr1 := Lib.hid (show w1.heap[w.heap.size]? = some (stO L) by rw [hw1]; exact alloc1_new _ _)
  clear hw1
  go_wp2
  go_ret2
  exact ⟨_, _, rfl, hb1.out, Nat.le_refl _, .inr ⟨_, rfl, Nat.le_refl _, hr1.out⟩⟩
structure PaYes (w : World) (L : List ByteArray) (bs c0 bA bL g : Nat) (cur : Array Value) (n d : Int) (acc : List Hit) (A : Option Addr) (c : Nat) (wr : World) : Prop where
  fr : Fr w [(w.heap.size, repO A acc.length c (decide (0 < d)) d), (bA, atO (acc.length + 2)), (bL, lsO (some ⟨bs, 0, none⟩) L.length c0), (g, .cells cur 3 (0, 0)), (bs, stO L)] wr
  own : wr.ownsRow w.heap.size 34 2 (.slice A acc.length c) acc.length (hits acc)
  rel : PaRel L n.toNat d acc
def PaI (w : World) (L : List ByteArray) (bs c0 bA bL g : Nat) (cur : Array Value) (n d : Int) (b : Bool) (wr : World) : Prop :=
  (b = false ∧ ∃ x y z p, PaNo w L (some ⟨bs, 0, none⟩) c0 bA bL x y z p wr) ∨ (b = true ∧ ∃ acc A c, PaYes w L bs c0 bA bL g cur n d acc A c wr)
def atOf (w : World) (b : Nat) : Nat := match w.cell? ⟨b, 0, none⟩ with
  | some (.int _ n) => n.toNat
  | _ => 0
theorem atOf_fr {w wr : World} {bA p : Nat} {Ls : List (Nat × Obj)} (h : Fr w Ls wr) (hm : (bA, atO p) ∈ Ls) : atOf wr bA = p := by
  unfold atOf
  rw [Lib.cell_of_heap (h.at hm) 0]
  simp
def isB (v : Value) : Nat := match v with
  | .bool true => 1
  | _ => 0
end Go.Proofs.YtaainkjgnljihaaGreatDoor
