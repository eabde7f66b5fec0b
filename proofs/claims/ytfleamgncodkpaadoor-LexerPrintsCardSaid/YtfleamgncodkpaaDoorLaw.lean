/- How a law of this seat is closed: arguments that are read again behind a call that leaves all that stood; the row; the card. No condition. The table of escapes, out of what the row lists. What the rows of the lexer lay: the table of escapes, of powers, of trailing zeros. -/
import Derived.Test.YtfleamgncodkpaaDoorOwn
import Derived.Test.YtfleamgncodkpaaDoorCards
import Derived.Test.YtfleamgncodkpaaDoorTie
import Derived.ProofKit
import Derived.OpenShut
import Derived.ReadAgain
import Derived.ChangeMaps5
import Derived.Deep.Slices
import Derived.Deep.Fields
import Derived.Deep.DeepHandedRow
import Derived.Lib.LaidTab
import Derived.Test.YtfleamgncodkpaaDoorW1
import Derived.Test.YtfleamgncodkpaaDoorJ8
import Derived.Lib.TrailingZeros
namespace Go.Proofs.YtfleamgncodkpaaDoor
open Go.ChangeShapes Go.WideShapes Go.ChangeAt Go.RowKit Go.Deep
section
variable {H : Type} {enc : TypeId × Value → H} {P : Program}
theorem same_of_below {W W' : World} (hb : Below W.heap.size W W') {p : MemPlace} (hp : p.block < W.heap.size) : W.sameAt W' p := by
  cases p with
  | cell b off => exact hb.cell (p := ⟨b, off, none⟩) hp
  | map b => exact hb.block b hp
theorem Trod_below {W W' : World} {base : Nat} {sp : Nat → Bool} {held : Bool} (hb : Below W.heap.size W W') {t : TypeId} {v : Value} {d : DataW H} {ps : List MemPlace} (h : DataW.Trod enc P W base sp held t v d ps) (hp : ∀ p ∈ ps, p.block < W.heap.size) :
    DataW.Trod enc P W' base sp held t v d ps := by
  obtain ⟨n, hn⟩ := h
  exact ⟨n, DataW.trod_carry n _ _ _ hn fun p h => same_of_below hb (hp p h)⟩
theorem TrodAll_below {W W' : World} {base : Nat} {sp : Nat → Bool} {held : Bool} (hb : Below W.heap.size W W') : ∀ {ts : List TypeId} {vs : List Value} {ds : List (DataW H)} {ps : List MemPlace},
    DataW.TrodAll enc P W base sp held ts vs ds ps → (∀ p ∈ ps, p.block < W.heap.size) → DataW.TrodAll enc P W' base sp held ts vs ds ps
  | [], [], [], _, h, _ => h
  | _ :: _, _ :: _, _ :: _, _, ⟨p, q, h1, h2, e⟩, hp =>
    ⟨p, q, Trod_below hb h1 (fun x hx => hp x (by rw [e]; exact List.mem_append_left _ hx)), TrodAll_below hb h2 (fun x hx => hp x (by rw [e]; exact List.mem_append_right _ hx)), e⟩
theorem TrodAll_again (hl : laidOutB P = true) (hm : mapsRowed P = true) (hz : ∀ t e, t < P.types.size → P.underlying t = some (.slice e) → 0 < P.cellsOf e) {W W' : World} (hb : Below W.heap.size W W') {ts : List TypeId} {vs : List Value} {ds : List (DataW H)} {ps : List MemPlace}
    (hT : ∀ t ∈ ts, t < P.types.size) (h : DataW.TrodAll enc P W 0 (fun _ => true) true ts vs ds ps) {sp : Nat → Bool} (hs : ∀ p ∈ ps, sp p.block = true) : DataW.TrodAll enc P W' 0 sp true ts vs ds ps :=
  (TrodAll_below hb h h.lt).respare (kids_rows hl hm) hz hT hs

/-- the row's last step: the law returned true, and all that stood stands -/
theorem post_law (hl : laidOutB P = true) (hm : mapsRowed P = true) (hz : ∀ t e, t < P.types.size → P.underlying t = some (.slice e) → 0 < P.cellsOf e) {f : Func} {s : ChangeSpec} {fresh handsOn again : Bool} {W W' : World} {args : Array Value} {ds gs : List (DataW H)} {before : List MemPlace} {tb : TypeId}
    (hW : DataW.Whole enc P f.params.toList s.vars false W args.toList ds gs before) (hv : s.vars = []) (hT : ∀ t ∈ f.params.toList, t < P.types.size) (hr : f.resultTypes = #[tb]) (htb : P.underlying tb = some .bool)
    (hfn : s.fn H (ds ++ gs) = { results := [.lit (.bool true)], args := ds }) (hb : Below W.heap.size W W') :
    s.post enc P f false fresh handsOn again W args (.bool true) W' := by
  have hlt : ∀ p ∈ before, p.block < W.heap.size := fun p hp => hW.lt p hp
  have hold : ∀ p ∈ before, (fun b => decide (b < W.heap.size)) p.block = true := fun p hp => by simpa using hlt p hp
  have hW2 := hW
  obtain ⟨p, q, hA, hV, hps, hzf, hn⟩ := hW
  rw [hv] at hV
  obtain ⟨rfl, rfl⟩ := trodVars_none hV
  rw [List.append_nil] at hps
  subst hps
  have hargs : ∀ sp : Nat → Bool, (∀ p ∈ before, sp p.block = true) → DataW.TrodAll enc P W' 0 sp true f.params.toList args.toList (s.fn H (ds ++ [])).args before := fun sp hs => by
    rw [hfn]
    exact TrodAll_again hl hm hz hb hT hA hs
  have hres : ∀ (b : Nat) (sp : Nat → Bool) (hd : Bool), DataW.TrodAll enc P W' b sp hd f.resultTypes.toList ((Value.bool true).resultList f.resultTypes.size) (s.fn H (ds ++ [])).results [] := fun b sp hd => by
    rw [hfn, hr]
    exact trodAll_mk1 (shut_bool htb true)
  have hvars : ∀ sp : Nat → Bool, DataW.TrodVars enc P W' sp s.vars (s.fn H (ds ++ [])).vars [] := fun sp => by rw [hfn, hv]; rfl
  refine ⟨ds, [], before, [], before, [], hW2, hres _ _ _, hargs _ hold, hvars _, World.keptBut_mono (fun p hp => ⟨hp, ?_⟩) (hb.frame (· ∈ before)), fun _ => ?_⟩
  · exact Or.inr (Or.inl hp)
  · refine ⟨?_, _, _, ([] ++ before) ++ [], ⟨[] ++ before, [], trodAll_append (hargs _ (fun _ _ => rfl)) (hres _ _ _), hvars _, rfl, ?_, ?_⟩, ?_⟩
    · exact ok_one hr rfl (okWide_bool_mk htb _)
    · intro b off hp
      have hin : MemPlace.cell b off ∈ before := by simpa using hp
      rw [hb.frozen (hlt _ hin)]
      exact hzf b off hin
    · intro ha; cases ha
    · intro p hp _
      simpa using hp
end
theorem laidOut : laidOutB Tryd.prog = true := by kernel_rfl
theorem rowed : mapsRowed Tryd.prog = true := by kernel_rfl
theorem slicesFull : ∀ t e, t < Tryd.prog.types.size → Tryd.prog.underlying t = some (.slice e) → 0 < Tryd.prog.cellsOf e := slices_full_of Tryd.prog (by kernel_rfl)
theorem own : ownKnob Tryd.prog.godebug = none := by kernel_rfl

/-- a listed variable stands as it was laid -/
theorem laidVars_mem {P : Program} {w : World} {n : String} {d : DataW Unit} : ∀ {l : List (String × DataW Unit)} {ps : List MemPlace}, DataW.LaidVars P w l ps → (n, d) ∈ l →
    ∃ g t cs fuel p, P.globalNamed n = some g ∧ (P.globals[g]?).map (·.type) = some t ∧ w.var? P n = some cs ∧ DataW.trod (fun _ => ()) P w 0 (fun _ => true) false fuel t cs.toList = some (d, p)
  | [], _, _, hm => by cases hm
  | (n', d') :: r, ps, h, hm => by
    obtain ⟨g, t, cs, fuel, p, q, h1, h2, h3, h4, h5, _⟩ := h
    rcases List.mem_cons.1 hm with e | hm
    · injection e with e1 e2
      subst e1 e2
      exact ⟨g, t, cs, fuel, p, h1, h2, h3, h4⟩
    · exact laidVars_mem h5 hm
end Go.Proofs.YtfleamgncodkpaaDoor
namespace Go.Proofs.YtfleamgncodkpaaDoor
open Go.ChangeShapes Go.WideShapes Go.ChangeAt Go.RowKit Go.Deep
theorem u8Cells : Tryd.prog.cellsOf 5 = 1 := by kernel_rfl
theorem pairCells : Tryd.prog.cellsOf 94 = 2 := by kernel_rfl
theorem pairsCells : Tryd.prog.cellsOf 95 = 10 := by kernel_rfl
theorem escGlobal : Tryd.prog.globalNamed "dragnet/words.escapes" = some 0 := by kernel_rfl
theorem escType : (Tryd.prog.globals[0]?).map (·.type) = some 95 := by kernel_rfl
set_option maxRecDepth 100000 in
theorem pair_of {W : World} {b : Nat} {sp : Nat → Bool} {hd : Bool} {m : Nat} {cs : List Value} {y z : Int} {p : List MemPlace}
    (h : DataW.trod (fun _ => ()) Tryd.prog W b sp hd m 94 cs = some (.agg [.lit (.int .u8 y), .lit (.int .u8 z)], p)) : cs = [.int .u8 y, .int .u8 z] := by
  obtain ⟨xs, n, _, hx, hl, hxl, hf⟩ := DataW.trod_struct Tryd.underlying94 h
  rw [pairCells] at hl
  match cs, hl, xs, hxl with
  | [c0, c1], _, [x0, x1], _ =>
    have h0 : DataW.trod (fun _ => ()) Tryd.prog W b sp hd n 5 (([c0, c1].drop 0).take (Tryd.prog.cellsOf 5)) = [x0, x1][0]? := hf 0 _ rfl
    have h1 : DataW.trod (fun _ => ()) Tryd.prog W b sp hd n 5 (([c0, c1].drop 1).take (Tryd.prog.cellsOf 5)) = [x0, x1][1]? := hf 1 _ rfl
    rw [u8Cells] at h0 h1
    obtain ⟨k0, e0, e0', _⟩ := DataW.trod_int Tryd.underlying5 h0
    obtain ⟨k1, e1, e1', _⟩ := DataW.trod_int Tryd.underlying5 h1
    simp at e0 e1
    subst e0 e1
    subst e0' e1'
    simp at hx
    obtain ⟨⟨rfl, rfl⟩, _⟩ := hx
    rfl
set_option maxRecDepth 100000 in
theorem esc_of {l : List (String × DataW Unit)} {W : World} (h : laidMet Tryd.prog l W) (hm : ("dragnet/words.escapes", Rows.laid_dragnet_words_escapes) ∈ l) : Esc W := by
  obtain ⟨ps, hv, _, _⟩ := h
  obtain ⟨g, t, cs, fuel, p, hg, ht, hvar, htr⟩ := laidVars_mem hv hm
  obtain rfl := Option.some.inj (escGlobal.symm.trans hg)
  obtain rfl := Option.some.inj (escType.symm.trans ht)
  have hcell := World.var?_cell escGlobal hvar
  obtain ⟨xs, m, _, hx, hl, hxl, hel⟩ := DataW.trod_array Tryd.underlying95 htr
  rw [pairsCells] at hl
  obtain ⟨cl⟩ := cs
  match cl, hl, xs, hxl with
  | [c0, c1, c2, c3, c4, c5, c6, c7, c8, c9], _, [x0, x1, x2, x3, x4], _ =>
    simp only [Rows.laid_dragnet_words_escapes, Prod.mk.injEq, DataW.agg.injEq, List.map_cons, List.map_nil, List.cons.injEq, and_true] at hx
    obtain ⟨⟨h0, h1, h2, h3, h4⟩, _⟩ := hx
    have g0 := hel 0 (by decide)
    have g1 := hel 1 (by decide)
    have g2 := hel 2 (by decide)
    have g3 := hel 3 (by decide)
    have g4 := hel 4 (by decide)
    simp only [pairCells] at g0 g1 g2 g3 g4
    obtain ⟨a0, p0⟩ := x0
    obtain ⟨a1, p1⟩ := x1
    obtain ⟨a2, p2⟩ := x2
    obtain ⟨a3, p3⟩ := x3
    obtain ⟨a4, p4⟩ := x4
    simp only at h0 h1 h2 h3 h4
    subst h0 h1 h2 h3 h4
    have r0 := pair_of (cs := [c0, c1]) g0
    have r1 := pair_of (cs := [c2, c3]) g1
    have r2 := pair_of (cs := [c4, c5]) g2
    have r3 := pair_of (cs := [c6, c7]) g3
    have r4 := pair_of (cs := [c8, c9]) g4
    injection r0 with q0 r0; injection r0 with q1 _
    injection r1 with q2 r1; injection r1 with q3 _
    injection r2 with q4 r2; injection r2 with q5 _
    injection r3 with q6 r3; injection r3 with q7 _
    injection r4 with q8 r4; injection r4 with q9 _
    subst q0 q1 q2 q3 q4 q5 q6 q7 q8 q9
    refine ⟨?_, fun i _ => by rw [hcell i]; simp [escCells]⟩
    have c := hcell 0
    rcases Nat.lt_or_ge 0 W.heap.size with hlt | hge
    · exact hlt
    · unfold World.cell? at c
      simp [Array.getElem?_eq_none hge] at c
end Go.Proofs.YtfleamgncodkpaaDoor
namespace Go.Proofs.YtfleamgncodkpaaDoor
open Go.ChangeShapes Go.WideShapes Go.ChangeAt Go.RowKit Go.Deep
theorem powType : (Tryd.prog.globals[2]?).map (·.type) = some 119 := by kernel_rfl
set_option maxRecDepth 100000 in
theorem pow_of {l : List (String × DataW Unit)} {W : World} (h : laidMet Tryd.prog l W) (hm : ("internal/strconv.uint64pow10", Rows.laid_internal_strconv_uint64pow10) ∈ l) : Pow W := by
  obtain ⟨ps, hv, _, _⟩ := h
  obtain ⟨g, t, cs, fuel, p, hg, ht, hvar, htr⟩ := laidVars_mem hv hm
  obtain rfl := Option.some.inj (pow_global.symm.trans hg)
  obtain rfl := Option.some.inj (powType.symm.trans ht)
  have := Lib.cells_of_tab (zs := Lib.pow10Tab) (k := .u64) Tryd.underlying119 Tryd.underlying29 (by kernel_rfl) (by kernel_rfl) htr
  unfold Pow Lib.TabIs
  rw [hvar, ← this]
theorem tztType : (Tryd.prog.globals[3]?).map (·.type) = some 123 := by kernel_rfl
theorem tzt_global : Tryd.prog.globalNamed "math/bits.deBruijn64tab" = some 3 := by kernel_rfl
set_option maxRecDepth 100000 in
theorem tzt_of {l : List (String × DataW Unit)} {W : World} (h : laidMet Tryd.prog l W) (hm : ("math/bits.deBruijn64tab", Rows.laid_math_bits_deBruijn64tab) ∈ l) : Tzt W := by
  obtain ⟨ps, hv, _, _⟩ := h
  obtain ⟨g, t, cs, fuel, p, hg, ht, hvar, htr⟩ := laidVars_mem hv hm
  obtain rfl := Option.some.inj (tzt_global.symm.trans hg)
  obtain rfl := Option.some.inj (tztType.symm.trans ht)
  have hc := Lib.cells_of_tab (zs := Lib.deBruijn64tab.map Int.ofNat) (k := .u8) Tryd.underlying123 Tryd.underlying5 (by kernel_rfl) (by kernel_rfl) htr
  intro j hj
  have hcs : cs = (Lib.deBruijn64tab.map (fun n : Nat => Value.int .u8 (n : Int))).toArray := by
    apply Array.toList_inj.1
    rw [hc, List.map_map]
    rfl
  unfold World.var? at hvar
  simp only [tzt_global, Option.bind_some] at hvar
  unfold World.cell?
  have hlen : j < Lib.deBruijn64tab.length := by rw [show Lib.deBruijn64tab.length = 64 by decide +kernel]; exact hj
  rcases hh : W.heap[3]? with _ | o
  · rw [hh] at hvar; cases hvar
  · rw [hh] at hvar
    cases o with
    | cells a b c =>
      simp only [Option.some.injEq] at hvar
      subst hvar
      rw [hcs]
      simp [hlen]
    | _ => cases hvar
theorem lx_of {l : List (String × DataW Unit)} {W : World} (h : laidMet Tryd.prog l W) (hl : l = [("math/bits.deBruijn32tab", Rows.laid_math_bits_deBruijn32tab), ("math/bits.deBruijn64tab", Rows.laid_math_bits_deBruijn64tab), ("internal/strconv.uint64pow10", Rows.laid_internal_strconv_uint64pow10), ("dragnet/words.escapes", Rows.laid_dragnet_words_escapes)]) : LxW W := by
  subst hl
  exact ⟨esc_of h (by simp), pow_of h (by simp), tzt_of h (by simp)⟩
end Go.Proofs.YtfleamgncodkpaaDoor
