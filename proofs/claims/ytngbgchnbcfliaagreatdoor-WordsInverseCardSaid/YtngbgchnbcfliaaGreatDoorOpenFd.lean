/- Fields that come in as arguments. -/
import Derived.Test.YtngbgchnbcfliaaGreatDoorLaw
import Derived.Test.YtngbgchnbcfliaaGreatDoorN3
import Derived.Lib.SmallJoins
namespace Go.Proofs.YtngbgchnbcfliaaGreatDoor
open Go.ChangeShapes Go.WideShapes Go.ChangeAt Go.RowKit Go.Deep Go.Joins
theorem spot_of_cell {w : World} {a : Addr} {v : Value} (h : w.cell? a = some v) : a.spot = none := by
  unfold World.cell? at h
  split at h
  · rename_i hh
    rcases hs : a.spot with _ | s
    · rfl
    · simp [hs] at h
  · cases h
theorem list_of {α : Type} {n : Nat} {Q : Nat → α → Prop} (h : ∀ i, i < n → ∃ x, Q i x) : ∃ l : List α, l.length = n ∧ ∀ i x, l[i]? = some x → Q i x := by
  induction n with
  | zero => exact ⟨[], rfl, fun i x hx => by simp at hx⟩
  | succ n ih =>
    obtain ⟨l, hl, hq⟩ := ih fun i hi => h i (by omega)
    obtain ⟨x, hx⟩ := h n (by omega)
    refine ⟨l ++ [x], by simp [hl], fun i y hy => ?_⟩
    rcases Nat.lt_or_ge i n with hi | hi
    · rw [List.getElem?_append_left (by omega)] at hy
      exact hq i y hy
    · rw [List.getElem?_append_right (by omega)] at hy
      have : i = n := by
        rcases Nat.lt_or_ge (i - l.length) 1 with h1 | h1
        · omega
        · rw [List.getElem?_eq_none (by simpa using h1)] at hy; cases hy
      subst this
      simp [hl] at hy
      subst hy
      exact hx
section
variable {H : Type} {enc : TypeId × Value → H} {P : Program} {w : World} {base : Nat} {spare : Nat → Bool} {held : Bool}
theorem open_slice_fields {t e : TypeId} {fs : Array Field} {fuel : Nat} {cs : List Value} {x : DataW H × List MemPlace} (ht : P.underlying t = some (.slice e)) (he : P.underlying e = some (.struct fs))
    (hone : oneCellFields P fs = true) (hC : P.cellsOf e = fs.size) (h : DataW.trod enc P w base spare held fuel t cs = some x) :
    (cs = [.slice none 0 0] ∧ x = (.nil, [])) ∨
    ∃ (a : Addr) (len cap m : Nat) (D : Nat → DataW H) (Pl : Nat → List MemPlace), cs = [.slice (some a) len cap] ∧ base ≤ a.block ∧ len ≤ cap ∧ cap ≤ maxLen ∧ m = (if spare a.block then cap else len) ∧
      x = (.slice ((List.range len).map D) ((List.range (m - len)).map fun j => D (len + j)), MemPlace.row a (m * fs.size) ++ (List.range m).flatMap Pl) ∧
      ∀ i, i < m → ∃ (ys : List (DataW H × List MemPlace)) (n : Nat), D i = .agg (ys.map (·.1)) ∧ Pl i = ys.flatMap (·.2) ∧ ys.length = fs.size ∧
        ∀ (j : Nat) (f : Field), fs[j]? = some f → ∃ (v : Value) (y : DataW H × List MemPlace), w.cell? (a.add (i * fs.size + j)) = some v ∧ ys[j]? = some y ∧ DataW.trod enc P w base spare held n f.type [v] = some y := by
  rcases open_slice ht h with h0 | ⟨a, len, cap, m, n, D, Pl, hcs, hb, hl, hm, hmm, hx, hi⟩
  · exact .inl h0
  · refine .inr ⟨a, len, cap, m, D, Pl, hcs, hb, hl, hm, hmm, by rw [hC] at hx; exact hx, fun i him => ?_⟩
    obtain ⟨cs', hc, ht'⟩ := hi i him
    rw [hC] at hc
    obtain ⟨ys, n', hn', hy, hlen, hyl, hf⟩ := DataW.trod_struct he ht'
    obtain ⟨_, hcl, hat⟩ := World.cells?_some hc
    simp only [Prod.mk.injEq] at hy
    refine ⟨ys, n', hy.1, hy.2, hyl, fun j f hj => ?_⟩
    obtain ⟨ho, hk⟩ := hone_of hone j f hj
    have hjl : j < fs.size := (Array.getElem?_eq_some_iff.1 hj).1
    have hcell := hat j hjl
    have hv : cs'[j]? = some (cs'[j]'(by omega)) := List.getElem?_eq_getElem (by omega)
    have h1 := hf j f hj
    rw [ho, hk] at h1
    have hone' : (cs'.drop j).take 1 = [cs'[j]'(by omega)] := by
      rw [List.drop_eq_getElem_cons (by omega)]
      rfl
    rw [hone'] at h1
    have hys : ys[j]? = some (ys[j]'(by omega)) := List.getElem?_eq_getElem (by omega)
    refine ⟨_, _, ?_, hys, h1.trans hys⟩
    rw [← Go.Deep.add_add, hcell, hv]
end
theorem block_lt {w : World} {b o : Nat} {v : Value} (h1 : w.cell? ⟨b, o, none⟩ = some v) : b < w.heap.size := by
  unfold World.cell? at h1
  rcases Nat.lt_or_ge b w.heap.size with hh | hh
  · exact hh
  · simp [Array.getElem?_eq_none hh] at h1
set_option maxRecDepth 100000 in
theorem fds_of_trod {H : Type} {enc : TypeId × Value → H} {w : World} {base fuel : Nat} {sp : Nat → Bool} {held : Bool} {cs : List Value} {x : DataW H × List MemPlace} (hf : DataW.trod enc Tryz.prog w base sp held fuel 34 cs = some x) :
    ∃ (A : Option Addr) (l : List Fd) (c : Nat), cs = [.slice A l.length c] ∧ Reads w w.heap.size 2 A l.length (fds l) ∧ l.length ≤ c ∧ c ≤ 9223372036854775807 := by
  rcases open_slice_fields Tryz.underlying34 Tryz.underlying47 (by kernel_rfl) (by kernel_rfl) hf with ⟨hcs, _⟩ | ⟨a, len, cap, m, D, Pl, hcs, hb, hlc, hcm, hm, hx, hi⟩
  · exact ⟨none, [], 0, hcs, Reads.none_, by simp, by omega⟩
  · have hmn : len ≤ m := by rw [hm]; split <;> omega
    have key : ∀ i, i < len → ∃ x : Fd, w.cell? (a.add (i * 2)) = some (fS x) ∧ w.cell? (a.add (i * 2 + 1)) = some (fQ x) := by
      intro i hin
      obtain ⟨ys, n, hD, _, hyl, hfl⟩ := hi i (by omega)
      obtain ⟨v0, y0, hc0, hy0, ht0⟩ := hfl 0 _ rfl
      obtain ⟨v1, y1, hc1, hy1, ht1⟩ := hfl 1 _ rfl
      obtain ⟨K, e0, e0', _⟩ := DataW.trod_string Tryz.underlying9 ht0
      obtain ⟨s, e1, e1'⟩ := DataW.trod_bool Tryz.underlying4 ht1
      simp at e0 e1
      subst e0 e1
      exact ⟨(K.data.toList, s), by simp only [fS, arr_eta]; exact hc0, hc1⟩
    obtain ⟨l, hl, hq⟩ := list_of key
    subst hl
    refine ⟨some a, l, cap, hcs, ⟨flat2_length l, fun hn => ?_⟩, hlc, by unfold maxLen at hcm; omega⟩
    · have hsp : a.spot = none := by
        obtain ⟨x, h1, _⟩ := key 0 hn
        rw [Nat.zero_mul, show a.add 0 = a from by unfold Addr.add; simp] at h1
        exact spot_of_cell h1
      obtain ⟨b, off, sp⟩ := a
      simp only at hsp
      subst hsp
      have hlt : b < w.heap.size := by
        obtain ⟨x, h1, _⟩ := key 0 hn
        rw [add_lit] at h1
        exact block_lt h1
      refine ⟨b, off, rfl, hlt, fun j u hu => ?_⟩
      have hj : j < l.length * 2 := by
        rw [← flat2_length (f := fS) (g := fQ) l]
        rcases Nat.lt_or_ge j (flat2 fS fQ l).length with hh | hh
        · exact hh
        · rw [List.getElem?_eq_none hh] at hu; cases hu
      obtain ⟨q, hq2, hj2⟩ : ∃ q, q < l.length ∧ (j = q * 2 ∨ j = q * 2 + 1) := ⟨j / 2, by omega, by omega⟩
      obtain ⟨k1, k2⟩ := hq q (l[q]'hq2) (List.getElem?_eq_getElem _)
      obtain ⟨f1, f2⟩ := flat2_at (f := fS) (g := fQ) l q hq2
      rw [add_lit] at k1 k2
      rcases hj2 with rfl | rfl
      · rw [k1, ← f1, hu]
      · rw [k2, ← f2, hu]
section
variable {H : Type} {enc : TypeId × Value → H} {w : World} {base : Nat} {sp : Nat → Bool} {held : Bool} {r : Reach} {b0 : Nat} {v : Value} {d : DataW H} {ps : List MemPlace}
set_option maxRecDepth 100000 in
theorem op_fds (hval : Value.okWide Tryz.prog w r b0 34 v) (h : DataW.Trod enc Tryz.prog w base sp held 34 v d ps) :
    ∃ (A : Option Addr) (l : List Fd) (c : Nat), v = .slice A l.length c ∧ Reads w w.heap.size 2 A l.length (fds l) ∧ l.length ≤ c ∧ c ≤ 9223372036854775807 := by
  obtain ⟨a0, n0, c0, rfl⟩ := okWide_slice Tryz.underlying34 hval
  obtain ⟨fuel, hf⟩ := h
  obtain ⟨A, l, c, hcs, h1, h2, h3⟩ := fds_of_trod hf
  simp [Value.cells] at hcs
  obtain ⟨rfl, rfl, rfl⟩ := hcs
  exact ⟨_, l, _, rfl, h1, h2, h3⟩
end
end Go.Proofs.YtngbgchnbcfliaaGreatDoor
