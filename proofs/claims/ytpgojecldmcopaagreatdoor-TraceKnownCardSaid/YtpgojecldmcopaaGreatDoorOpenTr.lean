/- Traces, regions and threes that come in as arguments; the table of powers. The error ErrRange of strconv that lies laid when the call begins. -/
import Derived.Test.YtpgojecldmcopaaGreatDoorLaw
import Derived.Test.YtpgojecldmcopaaGreatDoorDig
import Derived.Test.YtpgojecldmcopaaGreatDoorT6
import Derived.Lib.SmallJoins
import Derived.Test.YtpgojecldmcopaaGreatDoorN9
import Derived.Stop.LaidErr
import Derived.PinnedBridge
namespace Go.Proofs.YtpgojecldmcopaaGreatDoor
open Go.ChangeShapes Go.WideShapes Go.ChangeAt Go.RowKit Go.Deep Go.Joins
theorem wf64 {n : Int} (h : (Lit.int .i64 n).wf = true) : -9223372036854775808 ≤ n ∧ n ≤ 9223372036854775807 := by
  simpa [Lit.wf, IntKind.min, IntKind.max, IntKind.signed, IntKind.bits] using h
theorem wf32 {n : Int} (h : (Lit.int .i32 n).wf = true) : In32 n := by
  unfold In32
  simpa [Lit.wf, IntKind.min, IntKind.max, IntKind.signed, IntKind.bits] using h
theorem powType : (Tryz.prog.globals[1]?).map (·.type) = some 128 := by kernel_rfl
set_option maxRecDepth 100000 in
theorem pow_of {l : List (String × DataW Unit)} {W : World} (h : laidMet Tryz.prog l W) (hm : ("internal/strconv.uint64pow10", Rows.laid_internal_strconv_uint64pow10) ∈ l) : Pow W := by
  obtain ⟨ps, hv, _, _⟩ := h
  obtain ⟨g, t, cs, fuel, p, hg, ht, hvar, htr⟩ := laidVars_mem hv hm
  obtain rfl := Option.some.inj (pow_global.symm.trans hg)
  obtain rfl := Option.some.inj (powType.symm.trans ht)
  have := Lib.cells_of_tab (zs := Lib.pow10Tab) (k := .u64) Tryz.underlying128 Tryz.underlying35 (by kernel_rfl) (by kernel_rfl) htr
  unfold Pow Lib.TabIs
  rw [hvar, ← this]
theorem spot_of_cell {w : World} {a : Addr} {v : Value} (h : w.cell? a = some v) : a.spot = none := by
  unfold World.cell? at h
  split at h
  · rename_i hh
    rcases hs : a.spot with _ | s
    · rfl
    · simp [hs] at h
  · cases h
theorem list_of {α : Type} {n : Nat} {Q : Nat → α → Prop} (h : ∀ i, i < n → ∃ x, Q i x) : ∃ l : List α, l.length = n ∧ ∀ i x, l[i]? = some x → Q i x := by
  induction n with
  | zero => exact ⟨[], rfl, fun i x hx => by simp at hx⟩
  | succ n ih =>
    obtain ⟨l, hl, hq⟩ := ih fun i hi => h i (by omega)
    obtain ⟨x, hx⟩ := h n (by omega)
    refine ⟨l ++ [x], by simp [hl], fun i y hy => ?_⟩
    rcases Nat.lt_or_ge i n with hi | hi
    · rw [List.getElem?_append_left (by omega)] at hy
      exact hq i y hy
    · rw [List.getElem?_append_right (by omega)] at hy
      have : i = n := by
        rcases Nat.lt_or_ge (i - l.length) 1 with h1 | h1
        · omega
        · rw [List.getElem?_eq_none (by simpa using h1)] at hy; cases hy
      subst this
      simp [hl] at hy
      subst hy
      exact hx
section
variable {H : Type} {enc : TypeId × Value → H} {P : Program} {w : World} {base : Nat} {spare : Nat → Bool} {held : Bool}
theorem open_slice_fields {t e : TypeId} {fs : Array Field} {fuel : Nat} {cs : List Value} {x : DataW H × List MemPlace} (ht : P.underlying t = some (.slice e)) (he : P.underlying e = some (.struct fs))
    (hone : oneCellFields P fs = true) (hC : P.cellsOf e = fs.size) (h : DataW.trod enc P w base spare held fuel t cs = some x) :
    (cs = [.slice none 0 0] ∧ x = (.nil, [])) ∨
    ∃ (a : Addr) (len cap m : Nat) (D : Nat → DataW H) (Pl : Nat → List MemPlace), cs = [.slice (some a) len cap] ∧ base ≤ a.block ∧ len ≤ cap ∧ cap ≤ maxLen ∧ m = (if spare a.block then cap else len) ∧
      x = (.slice ((List.range len).map D) ((List.range (m - len)).map fun j => D (len + j)), MemPlace.row a (m * fs.size) ++ (List.range m).flatMap Pl) ∧
      ∀ i, i < m → ∃ (ys : List (DataW H × List MemPlace)) (n : Nat), D i = .agg (ys.map (·.1)) ∧ Pl i = ys.flatMap (·.2) ∧ ys.length = fs.size ∧
        ∀ (j : Nat) (f : Field), fs[j]? = some f → ∃ (v : Value) (y : DataW H × List MemPlace), w.cell? (a.add (i * fs.size + j)) = some v ∧ ys[j]? = some y ∧ DataW.trod enc P w base spare held n f.type [v] = some y := by
  rcases open_slice ht h with h0 | ⟨a, len, cap, m, n, D, Pl, hcs, hb, hl, hm, hmm, hx, hi⟩
  · exact .inl h0
  · refine .inr ⟨a, len, cap, m, D, Pl, hcs, hb, hl, hm, hmm, by rw [hC] at hx; exact hx, fun i him => ?_⟩
    obtain ⟨cs', hc, ht'⟩ := hi i him
    rw [hC] at hc
    obtain ⟨ys, n', hn', hy, hlen, hyl, hf⟩ := DataW.trod_struct he ht'
    obtain ⟨_, hcl, hat⟩ := World.cells?_some hc
    simp only [Prod.mk.injEq] at hy
    refine ⟨ys, n', hy.1, hy.2, hyl, fun j f hj => ?_⟩
    obtain ⟨ho, hk⟩ := hone_of hone j f hj
    have hjl : j < fs.size := (Array.getElem?_eq_some_iff.1 hj).1
    have hcell := hat j hjl
    have hv : cs'[j]? = some (cs'[j]'(by omega)) := List.getElem?_eq_getElem (by omega)
    have h1 := hf j f hj
    rw [ho, hk] at h1
    have hone' : (cs'.drop j).take 1 = [cs'[j]'(by omega)] := by
      rw [List.drop_eq_getElem_cons (by omega)]
      rfl
    rw [hone'] at h1
    have hys : ys[j]? = some (ys[j]'(by omega)) := List.getElem?_eq_getElem (by omega)
    refine ⟨_, _, ?_, hys, h1.trans hys⟩
    rw [← Go.Deep.add_add, hcell, hv]
end
theorem block_lt {w : World} {b o : Nat} {v : Value} (h1 : w.cell? ⟨b, o, none⟩ = some v) : b < w.heap.size := by
  unfold World.cell? at h1
  rcases Nat.lt_or_ge b w.heap.size with hh | hh
  · exact hh
  · simp [Array.getElem?_eq_none hh] at h1
set_option maxRecDepth 100000 in
theorem evs_of_trod {H : Type} {enc : TypeId × Value → H} {w : World} {base fuel : Nat} {sp : Nat → Bool} {held : Bool} {cs : List Value} {x : DataW H × List MemPlace} (hf : DataW.trod enc Tryz.prog w base sp held fuel 22 cs = some x) :
    ∃ (A : Option Addr) (l : List Ev) (c : Nat), cs = [.slice A l.length c] ∧ Reads w w.heap.size 2 A l.length (evs l) ∧ Ok32 l ∧ l.length ≤ c ∧ c ≤ 9223372036854775807 := by
  rcases open_slice_fields Tryz.underlying22 Tryz.underlying39 (by kernel_rfl) (by kernel_rfl) hf with ⟨hcs, _⟩ | ⟨a, len, cap, m, D, Pl, hcs, hb, hlc, hcm, hm, hx, hi⟩
  · exact ⟨none, [], 0, hcs, Reads.none_, (show Ok32 [] from fun _ hx => absurd hx List.not_mem_nil), by simp, by omega⟩
  · have hmn : len ≤ m := by rw [hm]; split <;> omega
    have key : ∀ i, i < len → ∃ x : Ev, w.cell? (a.add (i * 2)) = some (eK x) ∧ w.cell? (a.add (i * 2 + 1)) = some (eA x) ∧ In32 x.1 ∧ In32 x.2 := by
      intro i hin
      obtain ⟨ys, n, hD, _, hyl, hfl⟩ := hi i (by omega)
      obtain ⟨v0, y0, hc0, hy0, ht0⟩ := hfl 0 _ rfl
      obtain ⟨v1, y1, hc1, hy1, ht1⟩ := hfl 1 _ rfl
      obtain ⟨K, e0, e0', w0⟩ := DataW.trod_int Tryz.underlying21 ht0
      obtain ⟨s, e1, e1', w1⟩ := DataW.trod_int Tryz.underlying21 ht1
      simp at e0 e1
      subst e0 e1
      exact ⟨(K, s), hc0, hc1, wf32 w0, wf32 w1⟩
    obtain ⟨l, hl, hq⟩ := list_of key
    subst hl
    refine ⟨some a, l, cap, hcs, ⟨flat2_length l, fun hn => ?_⟩, fun x hx => ?_, hlc, by unfold maxLen at hcm; omega⟩
    · have hsp : a.spot = none := by
        obtain ⟨x, h1, _⟩ := key 0 hn
        rw [Nat.zero_mul, show a.add 0 = a from by unfold Addr.add; simp] at h1
        exact spot_of_cell h1
      obtain ⟨b, off, sp⟩ := a
      simp only at hsp
      subst hsp
      have hlt : b < w.heap.size := by
        obtain ⟨x, h1, _⟩ := key 0 hn
        rw [add_lit] at h1
        exact block_lt h1
      refine ⟨b, off, rfl, hlt, fun j u hu => ?_⟩
      have hj : j < l.length * 2 := by
        rw [← flat2_length (f := eK) (g := eA) l]
        rcases Nat.lt_or_ge j (flat2 eK eA l).length with hh | hh
        · exact hh
        · rw [List.getElem?_eq_none hh] at hu; cases hu
      obtain ⟨q, hq2, hj2⟩ : ∃ q, q < l.length ∧ (j = q * 2 ∨ j = q * 2 + 1) := ⟨j / 2, by omega, by omega⟩
      obtain ⟨k1, k2, _⟩ := hq q (l[q]'hq2) (List.getElem?_eq_getElem _)
      obtain ⟨f1, f2⟩ := flat2_at (f := eK) (g := eA) l q hq2
      rw [add_lit] at k1 k2
      rcases hj2 with rfl | rfl
      · rw [k1, ← f1, hu]
      · rw [k2, ← f2, hu]
    · obtain ⟨i, hi2, rfl⟩ := List.mem_iff_getElem.1 hx
      exact (hq i _ (List.getElem?_eq_getElem hi2)).2.2
set_option maxRecDepth 100000 in
theorem regs_of_trod {H : Type} {enc : TypeId × Value → H} {w : World} {base fuel : Nat} {sp : Nat → Bool} {held : Bool} {cs : List Value} {x : DataW H × List MemPlace} (hf : DataW.trod enc Tryz.prog w base sp held fuel 46 cs = some x) :
    ∃ (A : Option Addr) (l : List Rg) (c : Nat), cs = [.slice A l.length c] ∧ Reads w w.heap.size 3 A l.length (rgs l) ∧ l.length ≤ c ∧ c ≤ 9223372036854775807 := by
  rcases open_slice_fields Tryz.underlying46 Tryz.underlying45 (by kernel_rfl) (by kernel_rfl) hf with ⟨hcs, _⟩ | ⟨a, len, cap, m, D, Pl, hcs, hb, hlc, hcm, hm, hx, hi⟩
  · exact ⟨none, [], 0, hcs, Reads.none_, by simp, by omega⟩
  · have hmn : len ≤ m := by rw [hm]; split <;> omega
    have key : ∀ i, i < len → ∃ x : Rg, w.cell? (a.add (i * 3)) = some (.string x.1) ∧ w.cell? (a.add (i * 3 + 1)) = some (.int .i64 x.2.1) ∧ w.cell? (a.add (i * 3 + 2)) = some (.int .i64 x.2.2) := by
      intro i hin
      obtain ⟨ys, n, hD, _, hyl, hfl⟩ := hi i (by omega)
      obtain ⟨v0, y0, hc0, hy0, ht0⟩ := hfl 0 _ rfl
      obtain ⟨v1, y1, hc1, hy1, ht1⟩ := hfl 1 _ rfl
      obtain ⟨v2, y2, hc2, hy2, ht2⟩ := hfl 2 _ rfl
      obtain ⟨K, e0, e0', _⟩ := DataW.trod_string Tryz.underlying9 ht0
      obtain ⟨s, e1, e1', _⟩ := DataW.trod_int Tryz.underlying3 ht1
      obtain ⟨t, e2, e2', _⟩ := DataW.trod_int Tryz.underlying3 ht2
      simp at e0 e1 e2
      subst e0 e1 e2
      exact ⟨(K, s, t), hc0, hc1, hc2⟩
    obtain ⟨l, hl, hq⟩ := list_of key
    subst hl
    refine ⟨some a, l, cap, hcs, ⟨flat3_length l, fun hn => ?_⟩, hlc, by unfold maxLen at hcm; omega⟩
    have hsp : a.spot = none := by
      obtain ⟨x, h1, _⟩ := key 0 hn
      rw [Nat.zero_mul, show a.add 0 = a from by unfold Addr.add; simp] at h1
      exact spot_of_cell h1
    obtain ⟨b, off, sp⟩ := a
    simp only at hsp
    subst hsp
    have hlt : b < w.heap.size := by
      obtain ⟨x, h1, _⟩ := key 0 hn
      rw [add_lit] at h1
      exact block_lt h1
    refine ⟨b, off, rfl, hlt, fun j u hu => ?_⟩
    have hj : j < l.length * 3 := by
      rw [← flat3_length (f := fun x : Rg => .string x.1) (g := fun x => .int .i64 x.2.1) (h := fun x => .int .i64 x.2.2) l]
      rcases Nat.lt_or_ge j (rgs l).length with hh | hh
      · exact hh
      · rw [List.getElem?_eq_none hh] at hu; cases hu
    obtain ⟨q, hq2, hj2⟩ : ∃ q, q < l.length ∧ (j = q * 3 ∨ j = q * 3 + 1 ∨ j = q * 3 + 2) := ⟨j / 3, by omega, by omega⟩
    obtain ⟨k1, k2, k3⟩ := hq q (l[q]'hq2) (List.getElem?_eq_getElem _)
    obtain ⟨f1, f2, f3⟩ := flat3_at (f := fun x : Rg => .string x.1) (g := fun x => .int .i64 x.2.1) (h := fun x => .int .i64 x.2.2) l q hq2
    rw [add_lit] at k1 k2 k3
    rcases hj2 with rfl | rfl | rfl
    · rw [k1, ← f1, hu]
    · rw [k2, ← f2, hu]
    · rw [k3, ← f3, hu]
section
variable {H : Type} {enc : TypeId × Value → H} {w : World} {base : Nat} {sp : Nat → Bool} {held : Bool} {r : Reach} {b0 : Nat} {v : Value} {d : DataW H} {ps : List MemPlace}
set_option maxRecDepth 100000 in
theorem op_evs (hval : Value.okWide Tryz.prog w r b0 22 v) (h : DataW.Trod enc Tryz.prog w base sp held 22 v d ps) :
    ∃ (A : Option Addr) (l : List Ev) (c : Nat), v = .slice A l.length c ∧ Reads w w.heap.size 2 A l.length (evs l) ∧ Ok32 l ∧ l.length ≤ c ∧ c ≤ 9223372036854775807 := by
  obtain ⟨a0, n0, c0, rfl⟩ := okWide_slice Tryz.underlying22 hval
  obtain ⟨fuel, hf⟩ := h
  obtain ⟨A, l, c, hcs, h1, h2, h3⟩ := evs_of_trod hf
  simp [Value.cells] at hcs
  obtain ⟨rfl, rfl, rfl⟩ := hcs
  exact ⟨_, l, _, rfl, h1, h2, h3⟩
set_option maxRecDepth 100000 in
theorem op_regs (hval : Value.okWide Tryz.prog w r b0 46 v) (h : DataW.Trod enc Tryz.prog w base sp held 46 v d ps) :
    ∃ (A : Option Addr) (l : List Rg) (c : Nat), v = .slice A l.length c ∧ Reads w w.heap.size 3 A l.length (rgs l) ∧ l.length ≤ c ∧ c ≤ 9223372036854775807 := by
  obtain ⟨a0, n0, c0, rfl⟩ := okWide_slice Tryz.underlying46 hval
  obtain ⟨fuel, hf⟩ := h
  obtain ⟨A, l, c, hcs, h1, h2, h3⟩ := regs_of_trod hf
  simp [Value.cells] at hcs
  obtain ⟨rfl, rfl, rfl⟩ := hcs
  exact ⟨_, l, _, rfl, h1, h2, h3⟩
theorem okWide_array {P : Program} {w : World} {r : Reach} {b0 : Nat} {t e : TypeId} {n : Nat} {v : Value} (ht : P.underlying t = some (.array n e)) (h : Value.okWide P w r b0 t v) : ∃ cs, v = .agg cs ∧ cs.size = P.cellsOf t := by
  unfold Value.okWide at h
  rw [ht] at h
  obtain ⟨cs, h1, h2, _⟩ := h
  exact ⟨cs, h1, h2⟩
end
end Go.Proofs.YtpgojecldmcopaaGreatDoor
namespace Go.Proofs.YtpgojecldmcopaaGreatDoor
open Go.ChangeShapes Go.WideShapes Go.ChangeAt Go.RowKit Go.Deep Go.Joins
theorem star_err : "*" ++ "errors.errorString" = "*errors.errorString" := by decide
theorem row_err (u : TypeId) (h : Tryz.prog.typeName? 3 u = some "*errors.errorString") : u = 162 :=
  typeName_ptr_named (nm := "errors.errorString") (by rw [star_err]; kernel_rfl) (by kernel_rfl) (by decide) u (by rw [star_err]; exact h)
theorem gErrRange : Tryz.prog.globalNamed "strconv.ErrRange" = some 5 := by kernel_rfl
theorem gErrRangeT : (Tryz.prog.globals[5]?).map (·.type) = some 58 := by kernel_rfl
theorem cells_err : Tryz.prog.cellsOf 164 = 1 := by kernel_rfl
theorem cells_str : Tryz.prog.cellsOf 9 = 1 := by kernel_rfl
theorem er_of {l : List (String × DataW Unit)} {W : World} (h4 : laidMet Tryz.prog (("strconv.ErrRange", Rows.laid_strconv_ErrRange) :: l) W) : ER W := by
  obtain ⟨a0, s0, hv0, _⟩ := laid_sentinel h4 gErrRange gErrRangeT Tryz.underlying58 row_err Tryz.underlying162 Tryz.underlying164 rfl rfl Tryz.underlying9 cells_err cells_str
  have hg0 : W.cell? ⟨5, 0, none⟩ = some (.iface 162 (.pointer (some a0))) := by simpa using World.var?_cell gErrRange hv0 0
  exact ⟨_, _, hg0⟩
end Go.Proofs.YtpgojecldmcopaaGreatDoor
