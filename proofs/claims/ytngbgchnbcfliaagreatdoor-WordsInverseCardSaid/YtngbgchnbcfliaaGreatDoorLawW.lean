/- The table of escapes, out of what the row lists. -/
import Derived.Test.YtngbgchnbcfliaaGreatDoorLaw
import Derived.Test.YtngbgchnbcfliaaGreatDoorW1
namespace Go.Proofs.YtngbgchnbcfliaaGreatDoor
open Go.ChangeShapes Go.WideShapes Go.ChangeAt Go.RowKit Go.Deep
theorem u8Cells : Tryz.prog.cellsOf 5 = 1 := by kernel_rfl
theorem pairCells : Tryz.prog.cellsOf 99 = 2 := by kernel_rfl
theorem pairsCells : Tryz.prog.cellsOf 100 = 10 := by kernel_rfl
theorem escGlobal : Tryz.prog.globalNamed "dragnet/words.escapes" = some 0 := by kernel_rfl
theorem escType : (Tryz.prog.globals[0]?).map (·.type) = some 100 := by kernel_rfl
set_option maxRecDepth 100000 in
theorem pair_of {W : World} {b : Nat} {sp : Nat → Bool} {hd : Bool} {m : Nat} {cs : List Value} {y z : Int} {p : List MemPlace}
    (h : DataW.trod (fun _ => ()) Tryz.prog W b sp hd m 99 cs = some (.agg [.lit (.int .u8 y), .lit (.int .u8 z)], p)) : cs = [.int .u8 y, .int .u8 z] := by
  obtain ⟨xs, n, _, hx, hl, hxl, hf⟩ := DataW.trod_struct Tryz.underlying99 h
  rw [pairCells] at hl
  match cs, hl, xs, hxl with
  | [c0, c1], _, [x0, x1], _ =>
    have h0 : DataW.trod (fun _ => ()) Tryz.prog W b sp hd n 5 (([c0, c1].drop 0).take (Tryz.prog.cellsOf 5)) = [x0, x1][0]? := hf 0 _ rfl
    have h1 : DataW.trod (fun _ => ()) Tryz.prog W b sp hd n 5 (([c0, c1].drop 1).take (Tryz.prog.cellsOf 5)) = [x0, x1][1]? := hf 1 _ rfl
    rw [u8Cells] at h0 h1
    obtain ⟨k0, e0, e0', _⟩ := DataW.trod_int Tryz.underlying5 h0
    obtain ⟨k1, e1, e1', _⟩ := DataW.trod_int Tryz.underlying5 h1
    simp at e0 e1
    subst e0 e1
    subst e0' e1'
    simp at hx
    obtain ⟨⟨rfl, rfl⟩, _⟩ := hx
    rfl
set_option maxRecDepth 100000 in
theorem esc_of {l : List (String × DataW Unit)} {W : World} (h : laidMet Tryz.prog l W) (hm : ("dragnet/words.escapes", Rows.laid_dragnet_words_escapes) ∈ l) : Esc W := by
  obtain ⟨ps, hv, _, _⟩ := h
  obtain ⟨g, t, cs, fuel, p, hg, ht, hvar, htr⟩ := laidVars_mem hv hm
  obtain rfl := Option.some.inj (escGlobal.symm.trans hg)
  obtain rfl := Option.some.inj (escType.symm.trans ht)
  have hcell := World.var?_cell escGlobal hvar
  obtain ⟨xs, m, _, hx, hl, hxl, hel⟩ := DataW.trod_array Tryz.underlying100 htr
  rw [pairsCells] at hl
  obtain ⟨cl⟩ := cs
  match cl, hl, xs, hxl with
  | [c0, c1, c2, c3, c4, c5, c6, c7, c8, c9], _, [x0, x1, x2, x3, x4], _ =>
    simp only [Rows.laid_dragnet_words_escapes, Prod.mk.injEq, DataW.agg.injEq, List.map_cons, List.map_nil, List.cons.injEq, and_true] at hx
    obtain ⟨⟨h0, h1, h2, h3, h4⟩, _⟩ := hx
    have g0 := hel 0 (by decide)
    have g1 := hel 1 (by decide)
    have g2 := hel 2 (by decide)
    have g3 := hel 3 (by decide)
    have g4 := hel 4 (by decide)
    simp only [pairCells] at g0 g1 g2 g3 g4
    obtain ⟨a0, p0⟩ := x0
    obtain ⟨a1, p1⟩ := x1
    obtain ⟨a2, p2⟩ := x2
    obtain ⟨a3, p3⟩ := x3
    obtain ⟨a4, p4⟩ := x4
    simp only at h0 h1 h2 h3 h4
    subst h0 h1 h2 h3 h4
    have r0 := pair_of (cs := [c0, c1]) g0
    have r1 := pair_of (cs := [c2, c3]) g1
    have r2 := pair_of (cs := [c4, c5]) g2
    have r3 := pair_of (cs := [c6, c7]) g3
    have r4 := pair_of (cs := [c8, c9]) g4
    injection r0 with q0 r0; injection r0 with q1 _
    injection r1 with q2 r1; injection r1 with q3 _
    injection r2 with q4 r2; injection r2 with q5 _
    injection r3 with q6 r3; injection r3 with q7 _
    injection r4 with q8 r4; injection r4 with q9 _
    subst q0 q1 q2 q3 q4 q5 q6 q7 q8 q9
    refine ⟨?_, fun i _ => by rw [hcell i]; simp [escCells]⟩
    have c := hcell 0
    rcases Nat.lt_or_ge 0 W.heap.size with hlt | hge
    · exact hlt
    · unfold World.cell? at c
      simp [Array.getElem?_eq_none hge] at c
end Go.Proofs.YtngbgchnbcfliaaGreatDoor
