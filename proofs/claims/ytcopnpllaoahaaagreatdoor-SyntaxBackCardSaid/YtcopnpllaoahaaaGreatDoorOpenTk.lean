/- Tokens that come in as an argument. Rules that come in as an argument. -/
import Derived.Test.YtcopnpllaoahaaaGreatDoorJ8
import Derived.Test.YtcopnpllaoahaaaGreatDoorJ4
import Derived.Lib.SmallJoins
import Derived.Test.YtcopnpllaoahaaaGreatDoorY1
namespace Go.Proofs.YtcopnpllaoahaaaGreatDoor
open Go.ChangeShapes Go.WideShapes Go.ChangeAt Go.RowKit Go.Deep Go.Joins
theorem spot_of_cell {w : World} {a : Addr} {v : Value} (h : w.cell? a = some v) : a.spot = none := by
  unfold World.cell? at h
  split at h
  · rename_i hh
    rcases hs : a.spot with _ | s
    · rfl
    · simp [hs] at h
  · cases h
theorem list_of {α : Type} {n : Nat} {Q : Nat → α → Prop} (h : ∀ i, i < n → ∃ x, Q i x) : ∃ l : List α, l.length = n ∧ ∀ i x, l[i]? = some x → Q i x := by
  induction n with
  | zero => exact ⟨[], rfl, fun i x hx => by simp at hx⟩
  | succ n ih =>
    obtain ⟨l, hl, hq⟩ := ih fun i hi => h i (by omega)
    obtain ⟨x, hx⟩ := h n (by omega)
    refine ⟨l ++ [x], by simp [hl], fun i y hy => ?_⟩
    rcases Nat.lt_or_ge i n with hi | hi
    · rw [List.getElem?_append_left (by omega)] at hy
      exact hq i y hy
    · rw [List.getElem?_append_right (by omega)] at hy
      have : i = n := by
        rcases Nat.lt_or_ge (i - l.length) 1 with h1 | h1
        · omega
        · rw [List.getElem?_eq_none (by simpa using h1)] at hy; cases hy
      subst this
      simp [hl] at hy
      subst hy
      exact hx
theorem weightsAll_mem {H : Type} {P : Program} {e : TypeId} {d : DataW H} {n : Nat} : ∀ {l : List (DataW H)}, d ∈ l → n ∈ d.weights P e → n ∈ DataW.weightsAll P e l
  | [], h, _ => by cases h
  | x :: r, h, hn => by
    rw [DataW.weightsAll]
    rcases List.mem_cons.1 h with rfl | h
    · exact List.mem_append_left _ hn
    · exact List.mem_append_right _ (weightsAll_mem h hn)
theorem block_lt {w : World} {b o : Nat} {v : Value} (h1 : w.cell? ⟨b, o, none⟩ = some v) : b < w.heap.size := by
  unfold World.cell? at h1
  rcases Nat.lt_or_ge b w.heap.size with hh | hh
  · exact hh
  · simp [Array.getElem?_eq_none hh] at h1
theorem wfi {n : Int} (h : (Lit.int .i64 n).wf = true) : -9223372036854775808 ≤ n ∧ n ≤ 9223372036854775807 := by
  simpa [Lit.wf, IntKind.min, IntKind.max, IntKind.signed, IntKind.bits] using h
theorem wfu {n : Int} (h : (Lit.int .u64 n).wf = true) : 0 ≤ n ∧ n ≤ 18446744073709551615 := by
  simpa [Lit.wf, IntKind.min, IntKind.max, IntKind.signed, IntKind.bits] using h
theorem cells_tk : Tryz.prog.cellsOf 58 = 9 := by kernel_rfl
theorem cells_set : Tryz.prog.cellsOf 36 = 4 := by kernel_rfl
theorem cells_in : Tryz.prog.cellsOf 3 = 1 := by kernel_rfl
theorem cells_st : Tryz.prog.cellsOf 9 = 1 := by kernel_rfl
theorem cells_u6 : Tryz.prog.cellsOf 34 = 1 := by kernel_rfl
set_option maxRecDepth 100000 in
theorem set_of_trod {H : Type} {enc : TypeId × Value → H} {w : World} {base m : Nat} {sp : Nat → Bool} {held : Bool} {cs : List Value} {x : DataW H × List MemPlace} (h : DataW.trod enc Tryz.prog w base sp held m 36 cs = some x) (hl : cs.length = 4) :
    ∃ f : Nat → Bool, cs = stC f := by
  obtain ⟨xs, n, _, _, _, hxl, hel⟩ := DataW.trod_array Tryz.underlying36 h
  match cs, hl, xs, hxl with
  | [c0, c1, c2, c3], _, [x0, x1, x2, x3], _ =>
    have g0 := hel 0 (by decide)
    have g1 := hel 1 (by decide)
    have g2 := hel 2 (by decide)
    have g3 := hel 3 (by decide)
    rw [cells_u6] at g0 g1 g2 g3
    obtain ⟨a, e0, _, w0⟩ := DataW.trod_int Tryz.underlying34 g0
    obtain ⟨b, e1, _, w1⟩ := DataW.trod_int Tryz.underlying34 g1
    obtain ⟨c, e2, _, w2⟩ := DataW.trod_int Tryz.underlying34 g2
    obtain ⟨d, e3, _, w3⟩ := DataW.trod_int Tryz.underlying34 g3
    simp at e0 e1 e2 e3
    subst e0 e1 e2 e3
    have a1 := wfu w0
    have b1 := wfu w1
    have c1 := wfu w2
    have d1 := wfu w3
    obtain ⟨a, rfl⟩ : ∃ n : Nat, a = (n : Int) := ⟨a.toNat, by omega⟩
    obtain ⟨b, rfl⟩ : ∃ n : Nat, b = (n : Int) := ⟨b.toNat, by omega⟩
    obtain ⟨c, rfl⟩ : ∃ n : Nat, c = (n : Int) := ⟨c.toNat, by omega⟩
    obtain ⟨d, rfl⟩ : ∃ n : Nat, d = (n : Int) := ⟨d.toNat, by omega⟩
    refine ⟨rbit [a, b, c, d], ?_⟩
    have := stV_of (a := a) (b := b) (c := c) (d := d) (by omega) (by omega) (by omega) (by omega)
    unfold stV at this
    injection this with this
    have h2 := congrArg Array.toList this
    exact h2.symm
set_option maxRecDepth 100000 in
theorem tok_of_trod {H : Type} {enc : TypeId × Value → H} {w : World} {base m : Nat} {sp : Nat → Bool} {held : Bool} {cs : List Value} {d : DataW H} {ps : List MemPlace} (h : DataW.trod enc Tryz.prog w base sp held m 58 cs = some (d, ps)) (hl : cs.length = 9)
    (hw : ∀ n ∈ d.weights Tryz.prog 58, n ≤ reachBytes) : ∃ t : T9, cs = t9C t ∧ t.2.2.2.2.1.size ≤ 140737488351232 := by
  obtain ⟨xs, n, _, hx, _, hxl, hf⟩ := DataW.trod_struct Tryz.underlying58 h
  match cs, hl, xs, hxl with
  | [c0, c1, c2, c3, c4, c5, c6, c7, c8], _, [x0, x1, x2, x3, x4, x5], _ =>
    have h0 : DataW.trod enc Tryz.prog w base sp held n 3 (([c0, c1, c2, c3, c4, c5, c6, c7, c8].drop 0).take (Tryz.prog.cellsOf 3)) = [x0, x1, x2, x3, x4, x5][0]? := hf 0 _ rfl
    have h1 : DataW.trod enc Tryz.prog w base sp held n 3 (([c0, c1, c2, c3, c4, c5, c6, c7, c8].drop 1).take (Tryz.prog.cellsOf 3)) = [x0, x1, x2, x3, x4, x5][1]? := hf 1 _ rfl
    have h2 : DataW.trod enc Tryz.prog w base sp held n 3 (([c0, c1, c2, c3, c4, c5, c6, c7, c8].drop 2).take (Tryz.prog.cellsOf 3)) = [x0, x1, x2, x3, x4, x5][2]? := hf 2 _ rfl
    have h3 : DataW.trod enc Tryz.prog w base sp held n 3 (([c0, c1, c2, c3, c4, c5, c6, c7, c8].drop 3).take (Tryz.prog.cellsOf 3)) = [x0, x1, x2, x3, x4, x5][3]? := hf 3 _ rfl
    have h4 : DataW.trod enc Tryz.prog w base sp held n 9 (([c0, c1, c2, c3, c4, c5, c6, c7, c8].drop 4).take (Tryz.prog.cellsOf 9)) = [x0, x1, x2, x3, x4, x5][4]? := hf 4 _ rfl
    have h5 : DataW.trod enc Tryz.prog w base sp held n 36 (([c0, c1, c2, c3, c4, c5, c6, c7, c8].drop 5).take (Tryz.prog.cellsOf 36)) = [x0, x1, x2, x3, x4, x5][5]? := hf 5 _ rfl
    rw [cells_in] at h0 h1 h2 h3
    rw [cells_st] at h4
    rw [cells_set] at h5
    obtain ⟨K, e0, y0, _⟩ := DataW.trod_int Tryz.underlying3 h0
    obtain ⟨F, e1, y1, _⟩ := DataW.trod_int Tryz.underlying3 h1
    obtain ⟨T, e2, y2, _⟩ := DataW.trod_int Tryz.underlying3 h2
    obtain ⟨N, e3, y3, _⟩ := DataW.trod_int Tryz.underlying3 h3
    obtain ⟨S, e4, y4, _⟩ := DataW.trod_string Tryz.underlying9 h4
    obtain ⟨f, e5⟩ := set_of_trod h5 (by simp)
    simp at e0 e1 e2 e3 e4 e5
    obtain ⟨rfl, rfl, rfl, rfl⟩ := e5
    subst e0 e1 e2 e3 e4
    refine ⟨(K, F, T, N, S, f), rfl, ?_⟩
    subst y0 y1 y2 y3 y4
    simp only [List.map_cons, List.map_nil, Prod.mk.injEq] at hx
    have hm : S.size ∈ d.weights Tryz.prog 58 := by
      rw [hx.1, DataW.weights, Tryz.underlying58]
      show S.size ∈ DataW.weightsEach Tryz.prog [3, 3, 3, 3, 9, 36] _
      simp [DataW.weightsEach, DataW.weights]
    have := hw _ hm
    unfold reachBytes at this
    exact this
set_option maxRecDepth 100000 in
/-- tokens that come in -/
theorem op_toks {H : Type} {enc : TypeId × Value → H} {w : World} {base : Nat} {sp : Nat → Bool} {held : Bool} {r : Reach} {b0 : Nat} {v : Value} {d : DataW H} {ps : List MemPlace} (hval : Value.okWide Tryz.prog w r b0 46 v)
    (h : DataW.Trod enc Tryz.prog w base sp held 46 v d ps) (hw : ∀ n ∈ d.weights Tryz.prog 46, n ≤ reachBytes) :
    ∃ (A : Option Addr) (l : List T9) (c : Nat), v = .slice A l.length c ∧ Reads w w.heap.size 9 A l.length (tks l) ∧ (∀ t ∈ l, t.2.2.2.2.1.size ≤ 140737488351232) ∧ l.length ≤ c ∧ c ≤ 9223372036854775807 := by
  obtain ⟨a0, n0, c0, rfl⟩ := okWide_slice Tryz.underlying46 hval
  obtain ⟨fuel, hf⟩ := h
  rcases open_slice Tryz.underlying46 hf with ⟨hcs, _⟩ | ⟨a, len, cap, m, n, D, Pl, hcs, hb, hlc, hcm, hm, hx, hi⟩
  · simp [Value.cells] at hcs
    obtain ⟨rfl, rfl, rfl⟩ := hcs
    exact ⟨none, [], 0, rfl, Reads.none_, fun t ht => absurd ht List.not_mem_nil, by simp, by omega⟩
  · simp [Value.cells] at hcs
    obtain ⟨rfl, rfl, rfl⟩ := hcs
    have hmn : n0 ≤ m := by rw [hm]; split <;> omega
    have key : ∀ i, i < n0 → ∃ t : T9, (∀ j, j < 9 → w.cell? (a.add (i * 9 + j)) = (t9C t)[j]?) ∧ t.2.2.2.2.1.size ≤ 140737488351232 := by
      intro i hin
      obtain ⟨cs', hc, ht'⟩ := hi i (by omega)
      rw [cells_tk] at hc
      obtain ⟨_, hcl, hat⟩ := World.cells?_some hc
      obtain ⟨t, ht, hs⟩ := tok_of_trod ht' (by omega) (fun k hk => hw k (by
        rw [(Prod.mk.inj hx).1, DataW.weights, Tryz.underlying46]
        exact List.mem_cons_of_mem _ (List.mem_append_left _ (weightsAll_mem (d := D i) (List.mem_map.2 ⟨i, List.mem_range.2 hin, rfl⟩) hk))))
      refine ⟨t, fun j hj => ?_, hs⟩
      have := hat j hj
      rw [← Go.Deep.add_add, this, ht]
    obtain ⟨l, hl, hq⟩ := list_of key
    subst hl
    refine ⟨some a, l, c0, rfl, ⟨tks_len l, fun hn => ?_⟩, fun t ht => ?_, hlc, by unfold maxLen at hcm; omega⟩
    · have hsp : a.spot = none := by
        obtain ⟨x, h1, _⟩ := key 0 hn
        have h2 := h1 0 (by decide)
        rw [Nat.zero_mul, show a.add (0 + 0) = a from by unfold Addr.add; simp] at h2
        exact spot_of_cell (h2.trans rfl)
      obtain ⟨b, off, sp⟩ := a
      simp only at hsp
      subst hsp
      have hlt : b < w.heap.size := by
        obtain ⟨x, h1, _⟩ := key 0 hn
        have h2 := h1 0 (by decide)
        rw [add_lit] at h2
        exact block_lt (h2.trans rfl)
      refine ⟨b, off, rfl, hlt, fun j u hu => ?_⟩
      have hj : j < l.length * 9 := by
        rw [← tks_len l]
        rcases Nat.lt_or_ge j (tks l).length with hh | hh
        · exact hh
        · rw [List.getElem?_eq_none hh] at hu; cases hu
      obtain ⟨q, y, hq2, hy, rfl⟩ : ∃ q y, q < l.length ∧ y < 9 ∧ j = q * 9 + y := ⟨j / 9, j % 9, by omega, by omega, by omega⟩
      obtain ⟨k1, _⟩ := hq q (l[q]'hq2) (List.getElem?_eq_getElem _)
      have h3 := k1 y hy
      rw [add_lit] at h3
      rw [tks_at l q y hq2 hy] at hu
      rw [h3, hu]
    · obtain ⟨i, hi2, rfl⟩ := List.getElem_of_mem ht
      exact (hq i _ (List.getElem?_eq_getElem hi2)).2
end Go.Proofs.YtcopnpllaoahaaaGreatDoor
namespace Go.Proofs.YtcopnpllaoahaaaGreatDoor
open Go.ChangeShapes Go.WideShapes Go.ChangeAt Go.RowKit Go.Deep Go.Joins
/-- a row out of its elements -/
theorem rows_of {α : Type} {f : α → List Value} {m : Nat} (hm : ∀ x, (f x).length = m) (hm0 : 0 < m) {w : World} {a : Addr} {n : Nat} {Q : α → Prop} (key : ∀ i, i < n → ∃ t : α, (∀ j, j < m → w.cell? (a.add (i * m + j)) = (f t)[j]?) ∧ Q t) :
    ∃ l : List α, l.length = n ∧ Reads w w.heap.size m (some a) n (l.flatMap f) ∧ ∀ t ∈ l, Q t := by
  obtain ⟨l, hl, hq⟩ := list_of key
  refine ⟨l, hl, ⟨by rw [fm_len hm, hl], fun hn => ?_⟩, fun t ht => ?_⟩
  · have hsp : a.spot = none := by
      obtain ⟨x, h1, _⟩ := key 0 hn
      have h2 := h1 0 hm0
      rw [Nat.zero_mul, show a.add (0 + 0) = a from by unfold Addr.add; simp, List.getElem?_eq_getElem (by rw [hm]; exact hm0)] at h2
      exact spot_of_cell h2
    obtain ⟨b, off, sp⟩ := a
    simp only at hsp
    subst hsp
    have hlt : b < w.heap.size := by
      obtain ⟨x, h1, _⟩ := key 0 hn
      have h2 := h1 0 hm0
      rw [add_lit, List.getElem?_eq_getElem (by rw [hm]; exact hm0)] at h2
      exact block_lt h2
    refine ⟨b, off, rfl, hlt, fun j u hu => ?_⟩
    have hj : j < l.length * m := by
      rw [← fm_len hm l]
      rcases Nat.lt_or_ge j (l.flatMap f).length with hh | hh
      · exact hh
      · rw [List.getElem?_eq_none hh] at hu; cases hu
    obtain ⟨q, y, hq2, hy, rfl⟩ : ∃ q y, q < l.length ∧ y < m ∧ j = q * m + y := ⟨j / m, j % m, (Nat.div_lt_iff_lt_mul hm0).2 hj, Nat.mod_lt _ hm0, by rw [Nat.mul_comm]; exact (Nat.div_add_mod j m).symm⟩
    obtain ⟨k1, _⟩ := hq q (l[q]'hq2) (List.getElem?_eq_getElem _)
    have h3 := k1 y hy
    rw [add_lit] at h3
    rw [fm_at hm l q y hq2 hy] at hu
    rw [h3, hu]
  · obtain ⟨i, hi2, rfl⟩ := List.getElem_of_mem ht
    exact (hq i _ (List.getElem?_eq_getElem hi2)).2
theorem cells_el : Tryz.prog.cellsOf 38 = 8 := by kernel_rfl
theorem cells_ru : Tryz.prog.cellsOf 42 = 2 := by kernel_rfl
theorem cells_els : Tryz.prog.cellsOf 40 = 1 := by kernel_rfl
abbrev ElOk (x : El) : Prop := x.2.1.size ≤ 140737488351232
set_option maxRecDepth 100000 in
theorem el_of_trod {H : Type} {enc : TypeId × Value → H} {w : World} {base m : Nat} {sp : Nat → Bool} {held : Bool} {cs : List Value} {d : DataW H} {ps : List MemPlace} (h : DataW.trod enc Tryz.prog w base sp held m 38 cs = some (d, ps)) (hl : cs.length = 8)
    (hw : ∀ n ∈ d.weights Tryz.prog 38, n ≤ reachBytes) : ∃ t : El, cs = elC t ∧ ElOk t := by
  obtain ⟨xs, n, _, hx, _, hxl, hf⟩ := DataW.trod_struct Tryz.underlying38 h
  match cs, hl, xs, hxl with
  | [c0, c1, c2, c3, c4, c5, c6, c7], _, [x0, x1, x2, x3, x4], _ =>
    have h0 : DataW.trod enc Tryz.prog w base sp held n 3 (([c0, c1, c2, c3, c4, c5, c6, c7].drop 0).take (Tryz.prog.cellsOf 3)) = [x0, x1, x2, x3, x4][0]? := hf 0 _ rfl
    have h1 : DataW.trod enc Tryz.prog w base sp held n 9 (([c0, c1, c2, c3, c4, c5, c6, c7].drop 1).take (Tryz.prog.cellsOf 9)) = [x0, x1, x2, x3, x4][1]? := hf 1 _ rfl
    have h2 : DataW.trod enc Tryz.prog w base sp held n 36 (([c0, c1, c2, c3, c4, c5, c6, c7].drop 2).take (Tryz.prog.cellsOf 36)) = [x0, x1, x2, x3, x4][2]? := hf 2 _ rfl
    have h3 : DataW.trod enc Tryz.prog w base sp held n 3 (([c0, c1, c2, c3, c4, c5, c6, c7].drop 6).take (Tryz.prog.cellsOf 3)) = [x0, x1, x2, x3, x4][3]? := hf 3 _ rfl
    have h4 : DataW.trod enc Tryz.prog w base sp held n 3 (([c0, c1, c2, c3, c4, c5, c6, c7].drop 7).take (Tryz.prog.cellsOf 3)) = [x0, x1, x2, x3, x4][4]? := hf 4 _ rfl
    rw [cells_in] at h0 h3 h4
    rw [cells_st] at h1
    rw [cells_set] at h2
    obtain ⟨K, e0, y0, _⟩ := DataW.trod_int Tryz.underlying3 h0
    obtain ⟨S, e1, y1, _⟩ := DataW.trod_string Tryz.underlying9 h1
    obtain ⟨f, e2⟩ := set_of_trod h2 (by simp)
    obtain ⟨lo, e3, y3, _⟩ := DataW.trod_int Tryz.underlying3 h3
    obtain ⟨hi, e4, y4, _⟩ := DataW.trod_int Tryz.underlying3 h4
    simp at e0 e1 e2 e3 e4
    obtain ⟨rfl, rfl, rfl, rfl⟩ := e2
    subst e0 e1 e3 e4
    refine ⟨(K, S, f, lo, hi), rfl, ?_⟩
    subst y0 y1 y3 y4
    simp only [List.map_cons, List.map_nil, Prod.mk.injEq] at hx
    have hm : S.size ∈ d.weights Tryz.prog 38 := by
      rw [hx.1, DataW.weights, Tryz.underlying38]
      show S.size ∈ DataW.weightsEach Tryz.prog [3, 9, 36, 3, 3] _
      simp [DataW.weightsEach, DataW.weights]
    have := hw _ hm
    unfold reachBytes at this
    exact this
set_option maxRecDepth 100000 in
theorem els_of_trod {H : Type} {enc : TypeId × Value → H} {w : World} {base fuel : Nat} {sp : Nat → Bool} {held : Bool} {cs : List Value} {d : DataW H} {ps : List MemPlace} (hf : DataW.trod enc Tryz.prog w base sp held fuel 40 cs = some (d, ps))
    (hw : ∀ n ∈ d.weights Tryz.prog 40, n ≤ reachBytes) :
    ∃ (A : Option Addr) (l : List El) (c : Nat), cs = [.slice A l.length c] ∧ Reads w w.heap.size 8 A l.length (els l) ∧ (∀ x ∈ l, ElOk x) ∧ l.length ≤ c ∧ c ≤ 9223372036854775807 := by
  rcases open_slice Tryz.underlying40 hf with ⟨hcs, _⟩ | ⟨a, len, cap, m, n, D, Pl, hcs, hb, hlc, hcm, hm, hx, hi⟩
  · exact ⟨none, [], 0, hcs, Reads.none_, fun x hx => absurd hx List.not_mem_nil, Nat.le_refl _, by omega⟩
  · have hmn : len ≤ m := by rw [hm]; split <;> omega
    have key : ∀ i, i < len → ∃ t : El, (∀ j, j < 8 → w.cell? (a.add (i * 8 + j)) = (elC t)[j]?) ∧ ElOk t := by
      intro i hin
      obtain ⟨cs', hc, ht'⟩ := hi i (by omega)
      rw [cells_el] at hc
      obtain ⟨_, hcl, hat⟩ := World.cells?_some hc
      obtain ⟨t, ht, hs⟩ := el_of_trod ht' (by omega) (fun k hk => hw k (by
        rw [(Prod.mk.inj hx).1, DataW.weights, Tryz.underlying40]
        exact List.mem_cons_of_mem _ (List.mem_append_left _ (weightsAll_mem (d := D i) (List.mem_map.2 ⟨i, List.mem_range.2 hin, rfl⟩) hk))))
      refine ⟨t, fun j hj => ?_, hs⟩
      have := hat j hj
      rw [← Go.Deep.add_add, this, ht]
    obtain ⟨l, hl, hR, hQ⟩ := rows_of (f := elC) (m := 8) (fun _ => rfl) (by decide) key
    subst hl
    exact ⟨some a, l, cap, hcs, hR, hQ, hlc, by unfold maxLen at hcm; omega⟩
set_option maxRecDepth 100000 in
theorem rule_of_trod {H : Type} {enc : TypeId × Value → H} {w : World} {base m : Nat} {sp : Nat → Bool} {held : Bool} {cs : List Value} {d : DataW H} {ps : List MemPlace} (h : DataW.trod enc Tryz.prog w base sp held m 42 cs = some (d, ps)) (hl : cs.length = 2)
    (hw : ∀ n ∈ d.weights Tryz.prog 42, n ≤ reachBytes) : ∃ r : Rm, cs = rmC r ∧ IsRu w r ∧ ∀ x ∈ r.2.2.2, ElOk x := by
  obtain ⟨xs, n, _, hx, _, hxl, hf⟩ := DataW.trod_struct Tryz.underlying42 h
  match cs, hl, xs, hxl with
  | [c0, c1], _, [x0, x1], _ =>
    have h0 : DataW.trod enc Tryz.prog w base sp held n 3 (([c0, c1].drop 0).take (Tryz.prog.cellsOf 3)) = [x0, x1][0]? := hf 0 _ rfl
    have h1 : DataW.trod enc Tryz.prog w base sp held n 40 (([c0, c1].drop 1).take (Tryz.prog.cellsOf 40)) = [x0, x1][1]? := hf 1 _ rfl
    rw [cells_in] at h0
    rw [cells_els] at h1
    obtain ⟨id, e0, y0, _⟩ := DataW.trod_int Tryz.underlying3 h0
    simp only [List.map_cons, List.map_nil, Prod.mk.injEq] at hx
    have h1' : DataW.trod enc Tryz.prog w base sp held n 40 [c1] = some (x1.1, x1.2) := h1
    obtain ⟨A, l, c, e1, hR, hQ, hc, hm⟩ := els_of_trod h1' (fun k hk => hw k (by
      rw [hx.1, DataW.weights, Tryz.underlying42]
      show k ∈ DataW.weightsEach Tryz.prog [3, 40] [x0.1, x1.1]
      simp only [DataW.weightsEach, List.mem_append]
      exact .inr (.inl hk)))
    simp at e0 e1
    subst e0 e1
    exact ⟨(id, A, c, l), rfl, ⟨hR, hc, hm⟩, hQ⟩
set_option maxRecDepth 100000 in
/-- rules that come in -/
theorem op_rules {H : Type} {enc : TypeId × Value → H} {w : World} {base : Nat} {sp : Nat → Bool} {held : Bool} {r : Reach} {b0 : Nat} {v : Value} {d : DataW H} {ps : List MemPlace} (hval : Value.okWide Tryz.prog w r b0 23 v)
    (h : DataW.Trod enc Tryz.prog w base sp held 23 v d ps) (hw : ∀ n ∈ d.weights Tryz.prog 23, n ≤ reachBytes) :
    ∃ (A : Option Addr) (L : List Rm) (c : Nat), v = .slice A L.length c ∧ IsRus w A L ∧ (∀ r ∈ L, ∀ x ∈ r.2.2.2, x.2.1.size ≤ 140737488351232) ∧ L.length ≤ c ∧ c ≤ 9223372036854775807 := by
  obtain ⟨a0, n0, c0, rfl⟩ := okWide_slice Tryz.underlying23 hval
  obtain ⟨fuel, hf⟩ := h
  rcases open_slice Tryz.underlying23 hf with ⟨hcs, _⟩ | ⟨a, len, cap, m, n, D, Pl, hcs, hb, hlc, hcm, hm, hx, hi⟩
  · simp [Value.cells] at hcs
    obtain ⟨rfl, rfl, rfl⟩ := hcs
    exact ⟨none, [], 0, rfl, ⟨Reads.none_, fun t ht => absurd ht List.not_mem_nil⟩, fun t ht => absurd ht List.not_mem_nil, by simp, by omega⟩
  · simp [Value.cells] at hcs
    obtain ⟨rfl, rfl, rfl⟩ := hcs
    have hmn : n0 ≤ m := by rw [hm]; split <;> omega
    have key : ∀ i, i < n0 → ∃ t : Rm, (∀ j, j < 2 → w.cell? (a.add (i * 2 + j)) = (rmC t)[j]?) ∧ (IsRu w t ∧ ∀ x ∈ t.2.2.2, ElOk x) := by
      intro i hin
      obtain ⟨cs', hc, ht'⟩ := hi i (by omega)
      rw [cells_ru] at hc
      obtain ⟨_, hcl, hat⟩ := World.cells?_some hc
      obtain ⟨t, ht, hs⟩ := rule_of_trod ht' (by omega) (fun k hk => hw k (by
        rw [(Prod.mk.inj hx).1, DataW.weights, Tryz.underlying23]
        exact List.mem_cons_of_mem _ (List.mem_append_left _ (weightsAll_mem (d := D i) (List.mem_map.2 ⟨i, List.mem_range.2 hin, rfl⟩) hk))))
      refine ⟨t, fun j hj => ?_, hs⟩
      have := hat j hj
      rw [← Go.Deep.add_add, this, ht]
    obtain ⟨L, hl, hR, hQ⟩ := rows_of (f := rmC) (m := 2) (fun _ => rfl) (by decide) key
    subst hl
    exact ⟨some a, L, c0, rfl, ⟨hR, fun r hr => (hQ r hr).1⟩, fun r hr => (hQ r hr).2, hlc, by unfold maxLen at hcm; omega⟩
end Go.Proofs.YtcopnpllaoahaaaGreatDoor
