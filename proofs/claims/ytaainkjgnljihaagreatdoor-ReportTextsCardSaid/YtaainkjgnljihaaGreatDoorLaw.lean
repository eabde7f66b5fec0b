/- How a law of this seat is closed: arguments that are read again behind a call that leaves all that stood; the row; the card. No condition. The table of escapes, out of what the row lists. The table of powers that lies laid when the call begins. Hits and reports that come in as arguments. The error ErrRange of strconv that lies laid when the call begins; the table of powers. -/
import Derived.Test.YtaainkjgnljihaaGreatDoorMem
import Derived.Test.YtaainkjgnljihaaGreatDoorCards
import Derived.Test.YtaainkjgnljihaaGreatDoorTie
import Derived.ProofKit
import Derived.OpenShut
import Derived.ReadAgain
import Derived.ChangeMaps5
import Derived.Deep.Slices
import Derived.Deep.Fields
import Derived.Deep.DeepHandedRow
import Derived.Lib.LaidTab
import Derived.Test.YtaainkjgnljihaaGreatDoorW1
import Derived.Test.YtaainkjgnljihaaGreatDoorPow
import Derived.Lib.SmallJoins
import Derived.Test.YtaainkjgnljihaaGreatDoorR4
import Derived.Test.YtaainkjgnljihaaGreatDoorN9
import Derived.Stop.LaidErr
import Derived.PinnedBridge
namespace Go.Proofs.YtaainkjgnljihaaGreatDoor
open Go.ChangeShapes Go.WideShapes Go.ChangeAt Go.RowKit Go.Deep
section
variable {H : Type} {enc : TypeId × Value → H} {P : Program}
theorem same_of_below {W W' : World} (hb : Below W.heap.size W W') {p : MemPlace} (hp : p.block < W.heap.size) : W.sameAt W' p := by
  cases p with
  | cell b off => exact hb.cell (p := ⟨b, off, none⟩) hp
  | map b => exact hb.block b hp
theorem Trod_below {W W' : World} {base : Nat} {sp : Nat → Bool} {held : Bool} (hb : Below W.heap.size W W') {t : TypeId} {v : Value} {d : DataW H} {ps : List MemPlace} (h : DataW.Trod enc P W base sp held t v d ps) (hp : ∀ p ∈ ps, p.block < W.heap.size) :
    DataW.Trod enc P W' base sp held t v d ps := by
  obtain ⟨n, hn⟩ := h
  exact ⟨n, DataW.trod_carry n _ _ _ hn fun p h => same_of_below hb (hp p h)⟩
theorem TrodAll_below {W W' : World} {base : Nat} {sp : Nat → Bool} {held : Bool} (hb : Below W.heap.size W W') : ∀ {ts : List TypeId} {vs : List Value} {ds : List (DataW H)} {ps : List MemPlace},
    DataW.TrodAll enc P W base sp held ts vs ds ps → (∀ p ∈ ps, p.block < W.heap.size) → DataW.TrodAll enc P W' base sp held ts vs ds ps
  | [], [], [], _, h, _ => h
  | _ :: _, _ :: _, _ :: _, _, ⟨p, q, h1, h2, e⟩, hp =>
    ⟨p, q, Trod_below hb h1 (fun x hx => hp x (by rw [e]; exact List.mem_append_left _ hx)), TrodAll_below hb h2 (fun x hx => hp x (by rw [e]; exact List.mem_append_right _ hx)), e⟩
theorem TrodAll_again (hl : laidOutB P = true) (hm : mapsRowed P = true) (hz : ∀ t e, t < P.types.size → P.underlying t = some (.slice e) → 0 < P.cellsOf e) {W W' : World} (hb : Below W.heap.size W W') {ts : List TypeId} {vs : List Value} {ds : List (DataW H)} {ps : List MemPlace}
    (hT : ∀ t ∈ ts, t < P.types.size) (h : DataW.TrodAll enc P W 0 (fun _ => true) true ts vs ds ps) {sp : Nat → Bool} (hs : ∀ p ∈ ps, sp p.block = true) : DataW.TrodAll enc P W' 0 sp true ts vs ds ps :=
  (TrodAll_below hb h h.lt).respare (kids_rows hl hm) hz hT hs

/-- the row's last step: the law returned true, and all that stood stands -/
theorem post_law (hl : laidOutB P = true) (hm : mapsRowed P = true) (hz : ∀ t e, t < P.types.size → P.underlying t = some (.slice e) → 0 < P.cellsOf e) {f : Func} {s : ChangeSpec} {fresh handsOn again : Bool} {W W' : World} {args : Array Value} {ds gs : List (DataW H)} {before : List MemPlace} {tb : TypeId}
    (hW : DataW.Whole enc P f.params.toList s.vars false W args.toList ds gs before) (hv : s.vars = []) (hT : ∀ t ∈ f.params.toList, t < P.types.size) (hr : f.resultTypes = #[tb]) (htb : P.underlying tb = some .bool)
    (hfn : s.fn H (ds ++ gs) = { results := [.lit (.bool true)], args := ds }) (hb : Below W.heap.size W W') :
    s.post enc P f false fresh handsOn again W args (.bool true) W' := by
  have hlt : ∀ p ∈ before, p.block < W.heap.size := fun p hp => hW.lt p hp
  have hold : ∀ p ∈ before, (fun b => decide (b < W.heap.size)) p.block = true := fun p hp => by simpa using hlt p hp
  have hW2 := hW
  obtain ⟨p, q, hA, hV, hps, hzf, hn⟩ := hW
  rw [hv] at hV
  obtain ⟨rfl, rfl⟩ := trodVars_none hV
  rw [List.append_nil] at hps
  subst hps
  have hargs : ∀ sp : Nat → Bool, (∀ p ∈ before, sp p.block = true) → DataW.TrodAll enc P W' 0 sp true f.params.toList args.toList (s.fn H (ds ++ [])).args before := fun sp hs => by
    rw [hfn]
    exact TrodAll_again hl hm hz hb hT hA hs
  have hres : ∀ (b : Nat) (sp : Nat → Bool) (hd : Bool), DataW.TrodAll enc P W' b sp hd f.resultTypes.toList ((Value.bool true).resultList f.resultTypes.size) (s.fn H (ds ++ [])).results [] := fun b sp hd => by
    rw [hfn, hr]
    exact trodAll_mk1 (shut_bool htb true)
  have hvars : ∀ sp : Nat → Bool, DataW.TrodVars enc P W' sp s.vars (s.fn H (ds ++ [])).vars [] := fun sp => by rw [hfn, hv]; rfl
  refine ⟨ds, [], before, [], before, [], hW2, hres _ _ _, hargs _ hold, hvars _, World.keptBut_mono (fun p hp => ⟨hp, ?_⟩) (hb.frame (· ∈ before)), fun _ => ?_⟩
  · exact Or.inr (Or.inl hp)
  · refine ⟨?_, _, _, ([] ++ before) ++ [], ⟨[] ++ before, [], trodAll_append (hargs _ (fun _ _ => rfl)) (hres _ _ _), hvars _, rfl, ?_, ?_⟩, ?_⟩
    · exact ok_one hr rfl (okWide_bool_mk htb _)
    · intro b off hp
      have hin : MemPlace.cell b off ∈ before := by simpa using hp
      rw [hb.frozen (hlt _ hin)]
      exact hzf b off hin
    · intro ha; cases ha
    · intro p hp _
      simpa using hp
end
theorem laidOut : laidOutB Tryz.prog = true := by kernel_rfl
theorem rowed : mapsRowed Tryz.prog = true := by kernel_rfl
theorem slicesFull : ∀ t e, t < Tryz.prog.types.size → Tryz.prog.underlying t = some (.slice e) → 0 < Tryz.prog.cellsOf e := slices_full_of Tryz.prog (by kernel_rfl)
theorem own : ownKnob Tryz.prog.godebug = none := by kernel_rfl

/-- a listed variable stands as it was laid -/
theorem laidVars_mem {P : Program} {w : World} {n : String} {d : DataW Unit} : ∀ {l : List (String × DataW Unit)} {ps : List MemPlace}, DataW.LaidVars P w l ps → (n, d) ∈ l →
    ∃ g t cs fuel p, P.globalNamed n = some g ∧ (P.globals[g]?).map (·.type) = some t ∧ w.var? P n = some cs ∧ DataW.trod (fun _ => ()) P w 0 (fun _ => true) false fuel t cs.toList = some (d, p)
  | [], _, _, hm => by cases hm
  | (n', d') :: r, ps, h, hm => by
    obtain ⟨g, t, cs, fuel, p, q, h1, h2, h3, h4, h5, _⟩ := h
    rcases List.mem_cons.1 hm with e | hm
    · injection e with e1 e2
      subst e1 e2
      exact ⟨g, t, cs, fuel, p, h1, h2, h3, h4⟩
    · exact laidVars_mem h5 hm
end Go.Proofs.YtaainkjgnljihaaGreatDoor
namespace Go.Proofs.YtaainkjgnljihaaGreatDoor
open Go.ChangeShapes Go.WideShapes Go.ChangeAt Go.RowKit Go.Deep
theorem u8Cells : Tryz.prog.cellsOf 5 = 1 := by kernel_rfl
theorem pairCells : Tryz.prog.cellsOf 142 = 2 := by kernel_rfl
theorem pairsCells : Tryz.prog.cellsOf 143 = 10 := by kernel_rfl
theorem escGlobal : Tryz.prog.globalNamed "dragnet/words.escapes" = some 2 := by kernel_rfl
theorem escType : (Tryz.prog.globals[2]?).map (·.type) = some 143 := by kernel_rfl
set_option maxRecDepth 100000 in
theorem pair_of {W : World} {b : Nat} {sp : Nat → Bool} {hd : Bool} {m : Nat} {cs : List Value} {y z : Int} {p : List MemPlace}
    (h : DataW.trod (fun _ => ()) Tryz.prog W b sp hd m 142 cs = some (.agg [.lit (.int .u8 y), .lit (.int .u8 z)], p)) : cs = [.int .u8 y, .int .u8 z] := by
  obtain ⟨xs, n, _, hx, hl, hxl, hf⟩ := DataW.trod_struct Tryz.underlying142 h
  rw [pairCells] at hl
  match cs, hl, xs, hxl with
  | [c0, c1], _, [x0, x1], _ =>
    have h0 : DataW.trod (fun _ => ()) Tryz.prog W b sp hd n 5 (([c0, c1].drop 0).take (Tryz.prog.cellsOf 5)) = [x0, x1][0]? := hf 0 _ rfl
    have h1 : DataW.trod (fun _ => ()) Tryz.prog W b sp hd n 5 (([c0, c1].drop 1).take (Tryz.prog.cellsOf 5)) = [x0, x1][1]? := hf 1 _ rfl
    rw [u8Cells] at h0 h1
    obtain ⟨k0, e0, e0', _⟩ := DataW.trod_int Tryz.underlying5 h0
    obtain ⟨k1, e1, e1', _⟩ := DataW.trod_int Tryz.underlying5 h1
    simp at e0 e1
    subst e0 e1
    subst e0' e1'
    simp at hx
    obtain ⟨⟨rfl, rfl⟩, _⟩ := hx
    rfl
set_option maxRecDepth 100000 in
theorem esc_of {l : List (String × DataW Unit)} {W : World} (h : laidMet Tryz.prog l W) (hm : ("dragnet/words.escapes", Rows.laid_dragnet_words_escapes) ∈ l) : Esc W := by
  obtain ⟨ps, hv, _, _⟩ := h
  obtain ⟨g, t, cs, fuel, p, hg, ht, hvar, htr⟩ := laidVars_mem hv hm
  obtain rfl := Option.some.inj (escGlobal.symm.trans hg)
  obtain rfl := Option.some.inj (escType.symm.trans ht)
  have hcell := World.var?_cell escGlobal hvar
  obtain ⟨xs, m, _, hx, hl, hxl, hel⟩ := DataW.trod_array Tryz.underlying143 htr
  rw [pairsCells] at hl
  obtain ⟨cl⟩ := cs
  match cl, hl, xs, hxl with
  | [c0, c1, c2, c3, c4, c5, c6, c7, c8, c9], _, [x0, x1, x2, x3, x4], _ =>
    simp only [Rows.laid_dragnet_words_escapes, Prod.mk.injEq, DataW.agg.injEq, List.map_cons, List.map_nil, List.cons.injEq, and_true] at hx
    obtain ⟨⟨h0, h1, h2, h3, h4⟩, _⟩ := hx
    have g0 := hel 0 (by decide)
    have g1 := hel 1 (by decide)
    have g2 := hel 2 (by decide)
    have g3 := hel 3 (by decide)
    have g4 := hel 4 (by decide)
    simp only [pairCells] at g0 g1 g2 g3 g4
    obtain ⟨a0, p0⟩ := x0
    obtain ⟨a1, p1⟩ := x1
    obtain ⟨a2, p2⟩ := x2
    obtain ⟨a3, p3⟩ := x3
    obtain ⟨a4, p4⟩ := x4
    simp only at h0 h1 h2 h3 h4
    subst h0 h1 h2 h3 h4
    have r0 := pair_of (cs := [c0, c1]) g0
    have r1 := pair_of (cs := [c2, c3]) g1
    have r2 := pair_of (cs := [c4, c5]) g2
    have r3 := pair_of (cs := [c6, c7]) g3
    have r4 := pair_of (cs := [c8, c9]) g4
    injection r0 with q0 r0; injection r0 with q1 _
    injection r1 with q2 r1; injection r1 with q3 _
    injection r2 with q4 r2; injection r2 with q5 _
    injection r3 with q6 r3; injection r3 with q7 _
    injection r4 with q8 r4; injection r4 with q9 _
    subst q0 q1 q2 q3 q4 q5 q6 q7 q8 q9
    refine ⟨?_, fun i _ => by rw [hcell i]; simp [escCells]⟩
    have c := hcell 0
    rcases Nat.lt_or_ge 2 W.heap.size with hlt | hge
    · exact hlt
    · unfold World.cell? at c
      simp [Array.getElem?_eq_none hge] at c
end Go.Proofs.YtaainkjgnljihaaGreatDoor
namespace Go.Proofs.YtaainkjgnljihaaGreatDoor
open Go.ChangeShapes Go.WideShapes Go.ChangeAt Go.RowKit Go.Deep Go.Joins
theorem wf64 {n : Int} (h : (Lit.int .i64 n).wf = true) : -9223372036854775808 ≤ n ∧ n ≤ 9223372036854775807 := by
  simpa [Lit.wf, IntKind.min, IntKind.max, IntKind.signed, IntKind.bits] using h
theorem powType : (Tryz.prog.globals[0]?).map (·.type) = some 118 := by kernel_rfl
set_option maxRecDepth 100000 in
theorem pow_of {l : List (String × DataW Unit)} {W : World} (h : laidMet Tryz.prog l W) (hm : ("internal/strconv.uint64pow10", Rows.laid_internal_strconv_uint64pow10) ∈ l) : Pow W := by
  obtain ⟨ps, hv, _, _⟩ := h
  obtain ⟨g, t, cs, fuel, p, hg, ht, hvar, htr⟩ := laidVars_mem hv hm
  obtain rfl := Option.some.inj (pow_global.symm.trans hg)
  obtain rfl := Option.some.inj (powType.symm.trans ht)
  have := Lib.cells_of_tab (zs := Lib.pow10Tab) (k := .u64) Tryz.underlying118 Tryz.underlying102 (by kernel_rfl) (by kernel_rfl) htr
  unfold Pow Lib.TabIs
  rw [hvar, ← this]
end Go.Proofs.YtaainkjgnljihaaGreatDoor
namespace Go.Proofs.YtaainkjgnljihaaGreatDoor
open Go.ChangeShapes Go.WideShapes Go.ChangeAt Go.RowKit Go.Deep Go.Joins
theorem spot_of_cell {w : World} {a : Addr} {v : Value} (h : w.cell? a = some v) : a.spot = none := by
  unfold World.cell? at h
  split at h
  · rename_i hh
    rcases hs : a.spot with _ | s
    · rfl
    · simp [hs] at h
  · cases h
theorem list_of {α : Type} {n : Nat} {Q : Nat → α → Prop} (h : ∀ i, i < n → ∃ x, Q i x) : ∃ l : List α, l.length = n ∧ ∀ i x, l[i]? = some x → Q i x := by
  induction n with
  | zero => exact ⟨[], rfl, fun i x hx => by simp at hx⟩
  | succ n ih =>
    obtain ⟨l, hl, hq⟩ := ih fun i hi => h i (by omega)
    obtain ⟨x, hx⟩ := h n (by omega)
    refine ⟨l ++ [x], by simp [hl], fun i y hy => ?_⟩
    rcases Nat.lt_or_ge i n with hi | hi
    · rw [List.getElem?_append_left (by omega)] at hy
      exact hq i y hy
    · rw [List.getElem?_append_right (by omega)] at hy
      have : i = n := by
        rcases Nat.lt_or_ge (i - l.length) 1 with h1 | h1
        · omega
        · rw [List.getElem?_eq_none (by simpa using h1)] at hy; cases hy
      subst this
      simp [hl] at hy
      subst hy
      exact hx
section
variable {H : Type} {enc : TypeId × Value → H} {P : Program} {w : World} {base : Nat} {spare : Nat → Bool} {held : Bool}
theorem open_slice_fields {t e : TypeId} {fs : Array Field} {fuel : Nat} {cs : List Value} {x : DataW H × List MemPlace} (ht : P.underlying t = some (.slice e)) (he : P.underlying e = some (.struct fs))
    (hone : oneCellFields P fs = true) (hC : P.cellsOf e = fs.size) (h : DataW.trod enc P w base spare held fuel t cs = some x) :
    (cs = [.slice none 0 0] ∧ x = (.nil, [])) ∨
    ∃ (a : Addr) (len cap m : Nat) (D : Nat → DataW H) (Pl : Nat → List MemPlace), cs = [.slice (some a) len cap] ∧ base ≤ a.block ∧ len ≤ cap ∧ cap ≤ maxLen ∧ m = (if spare a.block then cap else len) ∧
      x = (.slice ((List.range len).map D) ((List.range (m - len)).map fun j => D (len + j)), MemPlace.row a (m * fs.size) ++ (List.range m).flatMap Pl) ∧
      ∀ i, i < m → ∃ (ys : List (DataW H × List MemPlace)) (n : Nat), D i = .agg (ys.map (·.1)) ∧ Pl i = ys.flatMap (·.2) ∧ ys.length = fs.size ∧
        ∀ (j : Nat) (f : Field), fs[j]? = some f → ∃ (v : Value) (y : DataW H × List MemPlace), w.cell? (a.add (i * fs.size + j)) = some v ∧ ys[j]? = some y ∧ DataW.trod enc P w base spare held n f.type [v] = some y := by
  rcases open_slice ht h with h0 | ⟨a, len, cap, m, n, D, Pl, hcs, hb, hl, hm, hmm, hx, hi⟩
  · exact .inl h0
  · refine .inr ⟨a, len, cap, m, D, Pl, hcs, hb, hl, hm, hmm, by rw [hC] at hx; exact hx, fun i him => ?_⟩
    obtain ⟨cs', hc, ht'⟩ := hi i him
    rw [hC] at hc
    obtain ⟨ys, n', hn', hy, hlen, hyl, hf⟩ := DataW.trod_struct he ht'
    obtain ⟨_, hcl, hat⟩ := World.cells?_some hc
    simp only [Prod.mk.injEq] at hy
    refine ⟨ys, n', hy.1, hy.2, hyl, fun j f hj => ?_⟩
    obtain ⟨ho, hk⟩ := hone_of hone j f hj
    have hjl : j < fs.size := (Array.getElem?_eq_some_iff.1 hj).1
    have hcell := hat j hjl
    have hv : cs'[j]? = some (cs'[j]'(by omega)) := List.getElem?_eq_getElem (by omega)
    have h1 := hf j f hj
    rw [ho, hk] at h1
    have hone' : (cs'.drop j).take 1 = [cs'[j]'(by omega)] := by
      rw [List.drop_eq_getElem_cons (by omega)]
      rfl
    rw [hone'] at h1
    have hys : ys[j]? = some (ys[j]'(by omega)) := List.getElem?_eq_getElem (by omega)
    refine ⟨_, _, ?_, hys, h1.trans hys⟩
    rw [← Go.Deep.add_add, hcell, hv]
end
theorem weightsAll_mem {H : Type} {P : Program} {e : TypeId} {d : DataW H} {n : Nat} : ∀ {l : List (DataW H)}, d ∈ l → n ∈ d.weights P e → n ∈ DataW.weightsAll P e l
  | [], h, _ => by cases h
  | x :: r, h, hn => by
    rw [DataW.weightsAll]
    rcases List.mem_cons.1 h with rfl | h
    · exact List.mem_append_left _ hn
    · exact List.mem_append_right _ (weightsAll_mem h hn)
set_option maxRecDepth 100000 in
theorem hits_of_trod {H : Type} {enc : TypeId × Value → H} {w : World} {base fuel : Nat} {sp : Nat → Bool} {held : Bool} {cs : List Value} {x : DataW H × List MemPlace} (hf : DataW.trod enc Tryz.prog w base sp held fuel 22 cs = some x) :
    ∃ (A : Option Addr) (l : List Hit) (c : Nat), cs = [.slice A l.length c] ∧ Reads w w.heap.size 2 A l.length (hits l) ∧ l.length ≤ c ∧ c ≤ 9223372036854775807 := by
  rcases open_slice_fields Tryz.underlying22 Tryz.underlying34 (by kernel_rfl) (by kernel_rfl) hf with ⟨hcs, _⟩ | ⟨a, len, cap, m, D, Pl, hcs, hb, hlc, hcm, hm, hx, hi⟩
  · exact ⟨none, [], 0, hcs, Reads.none_, by simp, by omega⟩
  · have hmn : len ≤ m := by rw [hm]; split <;> omega
    have key : ∀ i, i < len → ∃ x : Hit, w.cell? (a.add (i * 2)) = some (hE x) ∧ w.cell? (a.add (i * 2 + 1)) = some (hI x) := by
      intro i hin
      obtain ⟨ys, n, hD, _, hyl, hfl⟩ := hi i (by omega)
      obtain ⟨v0, y0, hc0, hy0, ht0⟩ := hfl 0 _ rfl
      obtain ⟨v1, y1, hc1, hy1, ht1⟩ := hfl 1 _ rfl
      obtain ⟨K, e0, e0', _⟩ := DataW.trod_int Tryz.underlying3 ht0
      obtain ⟨s, e1, e1', _⟩ := DataW.trod_int Tryz.underlying3 ht1
      simp at e0 e1
      subst e0 e1
      exact ⟨(K, s), hc0, hc1⟩
    obtain ⟨l, hl, hq⟩ := list_of key
    subst hl
    refine ⟨some a, l, cap, hcs, ⟨flat2_length l, fun hn => ?_⟩, hlc, by unfold maxLen at hcm; omega⟩
    have hsp : a.spot = none := by
      obtain ⟨x, h1, _⟩ := key 0 hn
      rw [Nat.zero_mul, show a.add 0 = a from by unfold Addr.add; simp] at h1
      exact spot_of_cell h1
    obtain ⟨b, off, sp⟩ := a
    simp only at hsp
    subst hsp
    have hlt : b < w.heap.size := by
      obtain ⟨x, h1, _⟩ := key 0 hn
      rw [add_lit] at h1
      unfold World.cell? at h1
      rcases Nat.lt_or_ge b w.heap.size with hh | hh
      · exact hh
      · simp [Array.getElem?_eq_none hh] at h1
    refine ⟨b, off, rfl, hlt, fun j u hu => ?_⟩
    have hj : j < l.length * 2 := by
      rw [← flat2_length (f := hE) (g := hI) l]
      rcases Nat.lt_or_ge j (flat2 hE hI l).length with hh | hh
      · exact hh
      · rw [List.getElem?_eq_none hh] at hu; cases hu
    obtain ⟨q, hq2, hj2⟩ : ∃ q, q < l.length ∧ (j = q * 2 ∨ j = q * 2 + 1) := ⟨j / 2, by omega, by omega⟩
    obtain ⟨k1, k2⟩ := hq q (l[q]'hq2) (List.getElem?_eq_getElem _)
    obtain ⟨f1, f2⟩ := flat2_at (f := hE) (g := hI) l q hq2
    rw [add_lit] at k1 k2
    rcases hj2 with rfl | rfl
    · rw [k1, ← f1, hu]
    · rw [k2, ← f2, hu]
section
variable {H : Type} {enc : TypeId × Value → H} {w : World} {base : Nat} {sp : Nat → Bool} {held : Bool} {r : Reach} {b0 : Nat} {v : Value} {d : DataW H} {ps : List MemPlace}
set_option maxRecDepth 100000 in
theorem op_hits (hval : Value.okWide Tryz.prog w r b0 22 v) (h : DataW.Trod enc Tryz.prog w base sp held 22 v d ps) :
    ∃ (A : Option Addr) (l : List Hit) (c : Nat), v = .slice A l.length c ∧ Reads w w.heap.size 2 A l.length (hits l) ∧ l.length ≤ c ∧ c ≤ 9223372036854775807 := by
  obtain ⟨a0, n0, c0, rfl⟩ := okWide_slice Tryz.underlying22 hval
  obtain ⟨fuel, hf⟩ := h
  obtain ⟨A, l, c, hcs, h1, h2, h3⟩ := hits_of_trod hf
  simp [Value.cells] at hcs
  obtain ⟨rfl, rfl, rfl⟩ := hcs
  exact ⟨_, l, _, rfl, h1, h2, h3⟩
set_option maxRecDepth 100000 in
theorem op_rep (hval : Value.okWide Tryz.prog w r b0 24 v) (h : DataW.Trod enc Tryz.prog w base sp held 24 v d ps) :
    ∃ (A : Option Addr) (l : List Hit) (c : Nat) (o : Bool) (n : Int), v = repV A l.length c o n ∧ Reads w w.heap.size 2 A l.length (hits l) ∧ l.length ≤ c ∧ c ≤ 9223372036854775807 ∧ (-9223372036854775808 ≤ n ∧ n ≤ 9223372036854775807) := by
  obtain ⟨c0, c1, c2, y0, y1, y2, m, rfl, _, _, h0, h1, h2⟩ := open_agg3 Tryz.underlying24 (by kernel_rfl) (by kernel_rfl) hval h
  obtain ⟨A, l, c, hcs, g1, g2, g3⟩ := hits_of_trod h0
  obtain ⟨o, e1, _, _⟩ := DataW.trod_bool Tryz.underlying4 h1
  obtain ⟨n, e2, _, w2⟩ := DataW.trod_int Tryz.underlying3 h2
  simp at hcs e1 e2
  subst hcs e1 e2
  exact ⟨A, l, c, o, n, rfl, g1, g2, g3, wf64 w2⟩
end
end Go.Proofs.YtaainkjgnljihaaGreatDoor
namespace Go.Proofs.YtaainkjgnljihaaGreatDoor
open Go.ChangeShapes Go.WideShapes Go.ChangeAt Go.RowKit Go.Deep Go.Joins
theorem star_err : "*" ++ "errors.errorString" = "*errors.errorString" := by decide
theorem row_err (u : TypeId) (h : Tryz.prog.typeName? 3 u = some "*errors.errorString") : u = 158 :=
  typeName_ptr_named (nm := "errors.errorString") (by rw [star_err]; kernel_rfl) (by kernel_rfl) (by decide) u (by rw [star_err]; exact h)
theorem gErrRange : Tryz.prog.globalNamed "strconv.ErrRange" = some 4 := by kernel_rfl
theorem gErrRangeT : (Tryz.prog.globals[4]?).map (·.type) = some 48 := by kernel_rfl
theorem cells_err : Tryz.prog.cellsOf 160 = 1 := by kernel_rfl
theorem cells_str : Tryz.prog.cellsOf 9 = 1 := by kernel_rfl
theorem er_of {l : List (String × DataW Unit)} {W : World} (h4 : laidMet Tryz.prog (("strconv.ErrRange", Rows.laid_strconv_ErrRange) :: l) W) : ER W := by
  obtain ⟨a0, s0, hv0, _⟩ := laid_sentinel h4 gErrRange gErrRangeT Tryz.underlying48 row_err Tryz.underlying158 Tryz.underlying160 rfl rfl Tryz.underlying9 cells_err cells_str
  have hg0 : W.cell? ⟨4, 0, none⟩ = some (.iface 158 (.pointer (some a0))) := by simpa using World.var?_cell gErrRange hv0 0
  exact ⟨_, _, hg0⟩
end Go.Proofs.YtaainkjgnljihaaGreatDoor
