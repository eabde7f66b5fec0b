/- Reports: Decode of the program. -/
import Derived.Test.YtokcbdaoofjbgaaDoorR18
import Derived.Test.YtokcbdaoofjbgaaDoorR16
import Derived.Test.YtokcbdaoofjbgaaDoorStep
import Derived.Laws.CopyOwn
import Derived.ChangeKeysEq
namespace Go.Proofs.YtokcbdaoofjbgaaDoor
open Go.RowKit
set_option maxRecDepth 100000 in
theorem bad_ (a : Int) (w : World) : Calls Tryd.prog 35 #[.int .i64 a] w fun e w' => e = .returned (.tuple #[repV none 0 0 false 0, .int .i64 a, .int .i64 6]) ∧ Below w.heap.size w w' := by
  go_enter Tryd.func35, Tryd.ntmps35
  go_wp2
  refine bodyPost_ret (v := .tuple #[repV none 0 0 false 0, .int .i64 a, .int .i64 6]) (by simp [results, go_sem]) rfl ⟨rfl, ?_⟩
  exact ba (Below.refl _ _) _
set_option maxRecDepth 100000 in
set_option maxHeartbeats 2000000 in
theorem decode_1 (w : World) (A : Option Addr) (c : Nat) (B : List Int) (k : Int) (h : capK k = false ∨ (capK k = true ∧ (B.length : Int) ≠ 5 + 6 * k)) :
    Calls Tryd.prog 22 #[.slice A B.length c, .int .i64 k] w (RetDec w (decR B k)) := by
  rcases h with h | ⟨h, h2⟩
  · have hq := Lib.hid (show decR B k = noDec (-1) 7 from if_pos h)
    have Hcp := Lib.hid h.symm
    clear h
    go_enter Tryd.func22, Tryd.ntmps22
    go_wp2_with fail
    (with_reducible refine (fits_ k false Hcp _).mono ?_); rintro e w' ⟨rfl, rfl⟩
    go_wp2
    refine bodyPost_ret (v := .tuple #[repV none 0 0 false 0, .int .i64 (-1), .int .i64 7]) (by simp [results, go_sem]) rfl (RetDec.no hq.out ?_)
    exact ba (Below.refl _ _) _
  · have hq := Lib.hid (show decR B k = noDec (-1) 3 by unfold decR; rw [h, if_neg (by decide), if_pos h2])
    have Hcp := Lib.hid h.symm
    have hk := capK_iff.1 h
    have e1 : ((B.length : Int) != 5 + 6 * k) = true := by simpa using h2
    clear h h2
    go_enter Tryd.func22, Tryd.ntmps22
    go_wp2_with fail
    (with_reducible refine (fits_ k true Hcp _).mono ?_); rintro e w' ⟨rfl, rfl⟩
    go_wp2
    refine bodyPost_ret (v := .tuple #[repV none 0 0 false 0, .int .i64 (-1), .int .i64 3]) (by simp [results, go_sem]) rfl (RetDec.no hq.out ?_)
    exact ba (Below.refl _ _) _
theorem eqA6 (a b c d e f : Int) (w : World) : (Op.equalIn 10000 57 (.agg #[.int .u8 a, .int .u8 b, .int .u8 c, .int .u8 d, .int .u8 e, .int .u8 f]) (.agg #[.int .u8 0, .int .u8 0, .int .u8 0, .int .u8 0, .int .u8 0, .int .u8 0])).run Tryd.prog w = .ok (decide ([a, b, c, d, e, f] = [0, 0, 0, 0, 0, 0])) w := by
  have u5 := Tryd.underlying5
  obtain ⟨i, hi, _, _, _⟩ := info_parts u8El.hi
  have hC : Tryd.prog.cellsOf 5 = 1 := by kernel_rfl
  rw [show (10000 : Nat) = 9999 + 1 from rfl, run_equalIn_array (e := 5) (n := 6) (i := i) w 9999 _ _ (by kernel_rfl) hi, hC]
  simp only [List.range, List.range.loop, Op.eqItems]
  go_simp
  repeat' split
  all_goals simp_all
@[go_sem] theorem eqgA6 : Tryd.prog.eqGuardType Tryd.prog.depth 57 = false := by kernel_rfl
/-- six bytes of an entry -/
def sixB (B : List Int) (j : Nat) : List Int := (B.drop (5 + 6 * j)).take 6
theorem sixB_len {B : List Int} {K j : Nat} (hN : B.length = 5 + 6 * K) (hj : j < K) : (sixB B j).length = 6 := by unfold sixB; simp; omega
theorem sixB_hit (B : List Int) (j : Nat) : hitB B j = (rdNum (sixB B j) 0 4, rdNum (sixB B j) 4 2) := by
  unfold hitB sixB rdNum
  have e1 : ((((B.drop (5 + 6 * j)).take 6).drop 0).take 4) = (B.drop (5 + 6 * j)).take 4 := by rw [List.drop_zero, List.take_take]; rfl
  have e2 : ((((B.drop (5 + 6 * j)).take 6).drop 4).take 2) = (B.drop (5 + 6 * j + 4)).take 2 := by rw [List.drop_take, List.take_take, List.drop_drop]; rfl
  rw [e1, e2]
theorem sixB_zero {y0 y1 y2 y3 y4 y5 : Int} (h : Bytes [y0, y1, y2, y3, y4, y5]) : (rdNum [y0, y1, y2, y3, y4, y5] 0 4, rdNum [y0, y1, y2, y3, y4, y5] 4 2) = ((0 : Int), (0 : Int)) ↔ [y0, y1, y2, y3, y4, y5] = [0, 0, 0, 0, 0, 0] := by
  obtain ⟨a0, a1, a2, a3, a4, a5⟩ : 0 ≤ y0 ∧ 0 ≤ y1 ∧ 0 ≤ y2 ∧ 0 ≤ y3 ∧ 0 ≤ y4 ∧ 0 ≤ y5 := ⟨(h y0 (by simp)).1, (h y1 (by simp)).1, (h y2 (by simp)).1, (h y3 (by simp)).1, (h y4 (by simp)).1, (h y5 (by simp)).1⟩
  simp [rdNum, numV, numF]
  omega
theorem cf_read (vs : Array Value) (W : World) : (callFunc 36 vs).run Tryd.prog W = .ok (.enter 36 vs) W := cf_of Tryd.func36 (by kernel_rfl) (by kernel_rfl) vs W
theorem read_04 (w : World) (g c : Nat) (y0 y1 y2 y3 y4 y5 : Int) (h : Reads w w.heap.size 1 (some ⟨g, 0, none⟩) 6 (u8s [y0, y1, y2, y3, y4, y5])) (hx : Bytes [y0, y1, y2, y3, y4, y5]) :
    Calls Tryd.prog 36 #[.slice (some ⟨g, 0, none⟩) 4 c] w fun e w' => e = .returned (.int .i64 (rdNum [y0, y1, y2, y3, y4, y5] 0 4)) ∧ w = w' := read_at w g 0 0 4 c 0 [y0, y1, y2, y3, y4, y5] h hx (by simp) (by omega) rfl
theorem read_42 (w : World) (g c : Nat) (y0 y1 y2 y3 y4 y5 : Int) (h : Reads w w.heap.size 1 (some ⟨g, 0, none⟩) 6 (u8s [y0, y1, y2, y3, y4, y5])) (hx : Bytes [y0, y1, y2, y3, y4, y5]) :
    Calls Tryd.prog 36 #[.slice (some ⟨g, 4, none⟩) 2 c] w fun e w' => e = .returned (.int .i64 (rdNum [y0, y1, y2, y3, y4, y5] 4 2)) ∧ w = w' := read_at w g 0 4 2 c 4 [y0, y1, y2, y3, y4, y5] h hx (by simp) (by omega) rfl
/-- the loop of the program's Decode -/
structure DecP (w : World) (B : List Int) (m : Int) (K j : Nat) (l : List Hit) (A : Option Addr) (c : Nat) (o : Bool) (d : Int) (w' : World) : Prop where
  fr : Fr w [(w.heap.size, repO A l.length c o d)] w'
  own : w'.ownsRow w.heap.size 48 2 (.slice A l.length c) l.length (hits l)
  rel : DecRel B m K j l
/-- behind an append: the report holds one hit more -/
def DecN (w : World) (l : List Hit) (E I : Int) (g4 cap4 : Nat) (o : Bool) (d : Int) (w' : World) : Prop :=
  Fr w [(w.heap.size, repO (some ⟨g4, 0, none⟩) (l.length + 1) cap4 o d)] w' ∧ w'.ownsRow w.heap.size 48 2 (.slice (some ⟨g4, 0, none⟩) (l.length + 1) cap4) (l.length + 1) (hits (l ++ [(E, I)]))
theorem DecN.fr {w w8 w4 : World} {A : Option Addr} {n c gx : Nat} {o : Bool} {d : Int} {six x : Obj} {v : Value} (h : Fr w [(gx, six), (w.heap.size, repO A n c o d)] w8) (hb : Below w.heap.size w w4) (hg : (w8.drew.alloc x).grownBy w4 v.ownBlock) (h0 : v.ownBlock ≠ some gx) (h1 : v.ownBlock ≠ some w.heap.size) : Fr w [(gx, six), (w.heap.size, repO A n c o d)] w4 :=
  Fr.grown (h.drew.al x) hb hg (fun p hp => by
    rcases List.mem_cons.1 hp with rfl | hp
    · exact h0
    · rw [List.mem_singleton.1 hp]; exact h1)
theorem DecN.cell {w w8 w4 : World} {A : Option Addr} {n c gx : Nat} {o : Bool} {d : Int} {six x : Obj} {v : Value} (h : Fr w [(gx, six), (w.heap.size, repO A n c o d)] w8) (hb : Below w.heap.size w w4) (hg : (w8.drew.alloc x).grownBy w4 v.ownBlock) (h0 : v.ownBlock ≠ some gx) (h1 : v.ownBlock ≠ some w.heap.size) : w4.cell? ⟨w.heap.size, 0, none⟩ = some (.slice A n c) :=
  Lib.cell_of_heap ((DecN.fr h hb hg h0 h1).at (g := w.heap.size) (List.mem_cons_of_mem _ List.mem_cons_self)) 0
theorem DecN.frozen {w w8 w4 : World} {A : Option Addr} {n c gx : Nat} {o : Bool} {d : Int} {six x : Obj} {v : Value} (h : Fr w [(gx, six), (w.heap.size, repO A n c o d)] w8) (hb : Below w.heap.size w w4) (hg : (w8.drew.alloc x).grownBy w4 v.ownBlock) (h0 : v.ownBlock ≠ some gx) (h1 : v.ownBlock ≠ some w.heap.size) : w4.frozen? ⟨w.heap.size, 0, none⟩ = false :=
  Lib.frozen_of_heap ((DecN.fr h hb hg h0 h1).at (g := w.heap.size) (List.mem_cons_of_mem _ List.mem_cons_self)) 0
theorem DecN.mk {w w8 w4 : World} {A : Option Addr} {c gx g4 cap4 : Nat} {l : List Hit} {E I : Int} {o : Bool} {d : Int} {six x : Obj} {v : Value} (h : Fr w [(gx, six), (w.heap.size, repO A l.length c o d)] w8)
    (hO : w4.ownsRow w.heap.size 48 2 (.slice (some ⟨g4, 0, none⟩) (l.length + 1) cap4) (l.length + 1) (hits l ++ [.int .i64 E, .int .i64 I])) (hb : Below w.heap.size w w4) (hg : (w8.drew.alloc x).grownBy w4 v.ownBlock) (h0 : v.ownBlock ≠ some gx) (h1 : v.ownBlock ≠ some w.heap.size) :
    DecN w l E I g4 cap4 o d (w4.setCell ⟨w.heap.size, 0, none⟩ (.slice (some ⟨g4, 0, none⟩) (l.length + 1) cap4)) := by
  have hF := (DecN.fr h hb hg h0 h1).sub (M := [(w.heap.size, repO A l.length c o d)]) (by simp)
  have hO5 : w4.ownsRow w.heap.size 48 2 (.slice (some ⟨g4, 0, none⟩) (l.length + 1) cap4) (l.length + 1) (hits (l ++ [(E, I)])) := by
    rw [hits_app]; exact hO
  exact ⟨hF.set (Nat.le_refl _) (by simp) 0 (.slice (some ⟨g4, 0, none⟩) (l.length + 1) cap4), own_set hO5 _ _ (own_blk_ne hO5 (hF.at (g := w.heap.size) List.mem_cons_self) (by decide))⟩
abbrev six0 : Obj := .cells #[.int .u8 0, .int .u8 0, .int .u8 0, .int .u8 0, .int .u8 0, .int .u8 0] 57 (0, 0)
abbrev sixO (l : List Int) : Obj := .cells (u8s l).toArray 57 (0, 0)
/-- the bytes, and the third of them -/
abbrev RdX (g off : Nat) (B : List Int) (x : Int) (w : World) : Prop := (Reads w w.heap.size 1 (some ⟨g, off, none⟩) B.length (u8s B)) ∧ w.cell? ⟨g, off + 2, none⟩ = some (.int .u8 x)
theorem RdX.of {g off : Nat} {B : List Int} {x : Int} {w : World} (h : Reads w w.heap.size 1 (some ⟨g, off, none⟩) B.length (u8s B)) (hc : w.cell? ⟨g, off + 2, none⟩ = some (.int .u8 x)) : RdX g off B x w := ⟨h, hc⟩
theorem RdX.rd {g off : Nat} {B : List Int} {x : Int} {w : World} (h : RdX g off B x w) : Reads w w.heap.size 1 (some ⟨g, off, none⟩) B.length (u8s B) := h.1
theorem RdX.drew {g off : Nat} {B : List Int} {x : Int} {w : World} (h : RdX g off B x w) : RdX g off B x w.drew := h
set_option maxRecDepth 100000 in
set_option maxHeartbeats 4000000 in
theorem decode_2 (w : World) (g off c : Nat) (B : List Int) (h : Reads w w.heap.size 1 (some ⟨g, off, none⟩) B.length (u8s B)) (hx : Bytes B) (hc : B.length ≤ c ∧ c ≤ 9223372036854775807) (K : Nat) (hcp : capK K = true) (hN : B.length = 5 + 6 * K) :
    Calls Tryd.prog 22 #[.slice (some ⟨g, off, none⟩) B.length c, .int .i64 K] w (RetDec w (decR B K)) := by
  have hk := capK_iff.1 hcp
  have Hcp := Lib.hid hcp.symm
  have e1 : ((B.length : Int) != 5 + 6 * (K : Int)) = false := by simp; omega
  obtain ⟨cx, hg⟩ := u8at h (k := 2) (by omega)
  obtain ⟨m0, m1⟩ := rd2 hx 0 (by omega)
  obtain ⟨d0, d1⟩ := rd2 hx 3 (by omega)
  have x01 : 0 ≤ B.getD 2 0 ∧ B.getD 2 0 ≤ 255 := by
    have hl : 2 < B.length := by omega
    have := hx B[2] (List.getElem_mem hl)
    simpa [hl] using this
  obtain ⟨x0, x1⟩ := x01
  have hs1 : ∀ W : World, (Instr.sliceAt 41 (.slice (some ⟨g, off, none⟩) B.length c) none (some (.int .i64 2)) none).run Tryd.prog W = .ok (.slice (some ⟨g, off, none⟩) 2 c) W := fun W => sl_h g off _ c 2 2 (by omega) (by omega) rfl (by omega) W
  have hs2 : ∀ W : World, (Instr.sliceAt 41 (.slice (some ⟨g, off, none⟩) B.length c) (some (.int .i64 3)) (some (.int .i64 5)) none).run Tryd.prog W = .ok (.slice (some ⟨g, off + 3, none⟩) 2 (c - 3)) W := fun W => sl_lh g off _ c 3 5 2 (c - 3) (by omega) (by omega) (by omega) rfl (by omega) (by omega) W
  have hq : decR B K = if (K : Int) < rdNum B 0 2 then noDec 0 6 else if 1 < B.getD 2 0 then noDec 2 6 else if flgB (overB B) (rdNum B 3 2) (rdNum B 0 2) K = false then noDec 3 6 else decQ B (decF B (rdNum B 0 2) K 0 []) := by
    unfold decR
    rw [hcp, if_neg (by decide), if_neg (by omega), Int.toNat_natCast]
  have hov : overB B = (B.getD 2 0 == 1) := rfl
  rw [hov] at hq
  have HQ := Lib.hid hq
  have Hov := Lib.hid hov
  have HR := Lib.hid h
  have HX := Lib.hid hx
  have HN := Lib.hid hN
  generalize hm : rdNum B 0 2 = m at *
  generalize hd : rdNum B 3 2 = d at *
  generalize hxx : B.getD 2 0 = x at *
  have hF0 := (Fr.start w).newN rfl rep0
  have Hcx := Lib.hid (And.intro hg cx)
  have i2 : (2 : Int) < (B.length : Int) := by omega
  clear hq h hx hN hcp hov
  have Hn := Lib.hid hm
  have Hd := Lib.hid hd
  have Hxx := Lib.hid hxx
  clear hm hd hxx
  go_enter Tryd.func22, Tryd.ntmps22
  go_wp2_with fail
  (with_reducible refine (fits_ K true Hcp _).mono ?_); rintro e w' ⟨rfl, rfl⟩
  go_wp2_with fail
  (with_reducible refine (read_at _ g off 0 2 c off B (by exact HR.out.al _) HX.out (by have := HN.out; omega) (by omega) rfl).mono ?_); rintro e w' ⟨rfl, rfl⟩
  rw [Hn.out]
  have hRA : ∀ o, RdX g off B x (w.alloc o) := fun o => RdX.of (HR.out.al o) (by have := (Below.refl w.heap.size w).alloc (Nat.le_refl _) o; exact (this.cell (p := ⟨g, off + 2, none⟩) hg).trans cx)
  have HF0 := Lib.hid hF0
  clear hF0
  go_upto_region 7 with fail
  go_cut [] (fun wx => Fr w [(w.heap.size, repO none 0 0 (x == 1) d)] wx)
  case first =>
    go_region_held3 (fun w' => RdX g off B x w')
      (with_reducible (first | exact RdX.drew (hRA _) | exact RdX.set (by assumption) _ _ hg))
      ((go_at_call 36; (with_reducible refine (read_at _ g off 3 2 (c - 3) _ B (RdX.rd (by assumption)) HX.out (by have := HN.out; omega) (by omega) rfl).mono ?_); rintro e w' ⟨rfl, rfl⟩))
    all_goals
      rw [Hd.out]
      go_wp2_with fail
      go_meet
      exact ((Fr.start w).newN rfl _).drew
  case rest =>
    generalize wc = w2 at *
    have hF := hcut
    have cx2 : w2.cell? ⟨g, off + 2, none⟩ = some (.int .u8 x) := (hF.bel.cell (p := ⟨g, off + 2, none⟩) hg).trans cx
    have hg2 : g < w2.heap.size := Nat.lt_of_lt_of_le hg hF.bel.size
    clear hcut hRA HF0 hs1 hs2 cx e1
    by_cases q1 : (K : Int) < m
    · have Hq := HQ.out
      rw [if_pos q1] at Hq
      have HQ2 := Lib.hid Hq
      clear Hq HQ
      go_wp2_with fail
      (with_reducible refine (bad_ 0 _).mono ?_); rintro e w5 ⟨rfl, hb5⟩
      have hF5 := hF.go hb5
      have o0 := Lib.cell_of_heap (hF5.at (g := w.heap.size) List.mem_cons_self) 0
      have o1 := Lib.cell_of_heap (hF5.at (g := w.heap.size) List.mem_cons_self) 1
      have o2 := Lib.cell_of_heap (hF5.at (g := w.heap.size) List.mem_cons_self) 2
      obtain ⟨f0, f1, f2⟩ : _ ∧ _ ∧ _ := ⟨Lib.frozen_of_heap (hF5.at (g := w.heap.size) List.mem_cons_self) 0, Lib.frozen_of_heap (hF5.at (g := w.heap.size) List.mem_cons_self) 1, Lib.frozen_of_heap (hF5.at (g := w.heap.size) List.mem_cons_self) 2⟩
      have hB := hF5.bel
      have hlt := hF5.lt (g := w.heap.size) List.mem_cons_self
      clear hF5 hF hb5 cx2 hg2
      go_wp2
      refine bodyPost_ret (v := .tuple #[repV none 0 0 false 0, .int .i64 0, .int .i64 6]) (by simp [results, go_sem, o0, o1, o2]) rfl (RetDec.no HQ2.out ?_)
      repeat' (first | with_reducible exact hB | with_reducible refine bs ?_ ?_ | (simp only; omega))
    by_cases q2 : 1 < x
    · have Hq := HQ.out
      rw [if_neg q1, if_pos q2] at Hq
      have HQ2 := Lib.hid Hq
      clear Hq HQ
      go_wp2_with fail
      (with_reducible refine (bad_ 2 _).mono ?_); rintro e w5 ⟨rfl, hb5⟩
      have hF5 := hF.go hb5
      have o0 := Lib.cell_of_heap (hF5.at (g := w.heap.size) List.mem_cons_self) 0
      have o1 := Lib.cell_of_heap (hF5.at (g := w.heap.size) List.mem_cons_self) 1
      have o2 := Lib.cell_of_heap (hF5.at (g := w.heap.size) List.mem_cons_self) 2
      obtain ⟨f0, f1, f2⟩ : _ ∧ _ ∧ _ := ⟨Lib.frozen_of_heap (hF5.at (g := w.heap.size) List.mem_cons_self) 0, Lib.frozen_of_heap (hF5.at (g := w.heap.size) List.mem_cons_self) 1, Lib.frozen_of_heap (hF5.at (g := w.heap.size) List.mem_cons_self) 2⟩
      have hB := hF5.bel
      have hlt := hF5.lt (g := w.heap.size) List.mem_cons_self
      clear hF5 hF hb5 cx2 hg2
      go_wp2
      refine bodyPost_ret (v := .tuple #[repV none 0 0 false 0, .int .i64 2, .int .i64 6]) (by simp [results, go_sem, o0, o1, o2]) rfl (RetDec.no HQ2.out ?_)
      repeat' (first | with_reducible exact hB | with_reducible refine bs ?_ ?_ | (simp only; omega))
    have Hq := HQ.out
    rw [if_neg q1, if_neg q2] at Hq
    have HQ2 := Lib.hid Hq
    generalize (x == 1) = ov at *
    generalize hfl : flgB ov d m K = fl at *
    have Hfl := Lib.hid hfl.symm
    clear Hq HQ hfl
    have k1 := Lib.cell_of_heap (hF.at (g := w.heap.size) List.mem_cons_self) 1
    have k2 := Lib.cell_of_heap (hF.at (g := w.heap.size) List.mem_cons_self) 2
    go_wp2_with fail
    (with_reducible refine (flagged_ ov d m K fl Hfl _).mono ?_); rintro e w5 ⟨rfl, rfl⟩
    clear cx2 k1 k2
    cases fl
    case false =>
      have Hq := HQ2.out
      rw [if_pos rfl] at Hq
      have HQ3 := Lib.hid Hq
      clear Hq HQ2
      go_wp2_with fail
      (with_reducible refine (bad_ 3 _).mono ?_); rintro e w5 ⟨rfl, hb5⟩
      have hF5 := hF.go hb5
      have o0 := Lib.cell_of_heap (hF5.at (g := w.heap.size) List.mem_cons_self) 0
      have o1 := Lib.cell_of_heap (hF5.at (g := w.heap.size) List.mem_cons_self) 1
      have o2 := Lib.cell_of_heap (hF5.at (g := w.heap.size) List.mem_cons_self) 2
      obtain ⟨f0, f1, f2⟩ : _ ∧ _ ∧ _ := ⟨Lib.frozen_of_heap (hF5.at (g := w.heap.size) List.mem_cons_self) 0, Lib.frozen_of_heap (hF5.at (g := w.heap.size) List.mem_cons_self) 1, Lib.frozen_of_heap (hF5.at (g := w.heap.size) List.mem_cons_self) 2⟩
      have hB := hF5.bel
      have hlt := hF5.lt (g := w.heap.size) List.mem_cons_self
      clear hF5 hF hb5 hg2
      go_wp2
      refine bodyPost_ret (v := .tuple #[repV none 0 0 false 0, .int .i64 3, .int .i64 6]) (by simp [results, go_sem, o0, o1, o2]) rfl (RetDec.no HQ3.out ?_)
      repeat' (first | with_reducible exact hB | with_reducible refine bs ?_ ?_ | (simp only; omega))
    case true =>
      have Hq := HQ2.out
      rw [if_neg (by decide)] at Hq
      have HQ3 := Lib.hid Hq
      have hD0 := DecRel.start B m K m0
      clear Hq HQ2
      have hown0 := World.ownsRow_nil w2 w.heap.size 48 2
      go_wp2_with fail
      go_loopw [73] (fun i wr => ∃ (j : Nat) (l : List Hit) (A' : Option Addr) (c' : Nat), j ≤ K ∧ i = .int .i64 j ∧ DecP w B m K j l A' c' ov d wr) (fun i _ => K - (intOf i).toNat)
      case atStart => exact ⟨0, [], none, 0, Nat.zero_le _, rfl, ⟨hF, hown0, hD0⟩⟩
      case round =>
        obtain ⟨j, l, A', c', hj, rfl, hS⟩ := hrel
        clear hF hown0 hD0
        by_cases hjK : j < K
        · have hN2 := HN.out
          have h6 := sixB_len HN.out hjK
          have hX6 : Bytes (sixB B j) := HX.out.part _ _
          have hitb := sixB_hit B j
          have hgw : g < wr.heap.size := Nat.lt_of_lt_of_le hg hS.fr.bel.size
          have hrd6 := rd_mid (HR.out.go hS.fr.bel) (lo := 5 + 6 * j) (n := 6) (by omega)
          have hFa := ((hS.fr.newN rfl six0)).drew
          have hOa := (hS.own.alloc six0)
          have sa := sa_all wr.heap.size
          have hw0 : IntKind.i64.wrap (5 + 6 * (j : Int) + 6) = 5 + 6 * (j : Int) + 6 := IntWalk.i64_in _ (by omega)
          have hs3 : ∀ W : World, (Instr.sliceAt 41 (.slice (some ⟨g, off, none⟩) B.length c) (some (.int .i64 (5 + 6 * (j : Int)))) (some (.int .i64 (5 + 6 * (j : Int) + 6))) (some (.int .i64 (5 + 6 * (j : Int) + 6)))).run Tryd.prog W = .ok (.slice (some ⟨g, off + (5 + 6 * j), none⟩) 6 6) W := fun W => by
            have := sl_lhm g off B.length c (5 + 6 * (j : Int)) (5 + 6 * (j : Int) + 6) (5 + 6 * (j : Int) + 6) 6 6 (by omega) (by omega) (by omega) (by omega) (by omega) (by omega) (by omega) W
            rw [show (5 + 6 * (j : Int)).toNat = 5 + 6 * j by omega] at this
            exact this
          obtain ⟨w8, hcp, hF8, hO8⟩ : ∃ w8, (Builtin.copy_ #[41, 41] 3 #[.slice (some ⟨wr.heap.size, 0, none⟩) 6 6, .slice (some ⟨g, off + (5 + 6 * j), none⟩) 6 6]).run Tryd.prog (wr.alloc six0).drew = .ok (.int .i64 6) w8 ∧
              Fr w [(wr.heap.size, sixO (sixB B j)), (w.heap.size, repO A' l.length c' ov d)] w8 ∧ w8.ownsRow w.heap.size 48 2 (.slice A' l.length c') l.length (hits l) := by
            have hlen : (u8s (sixB B j)).length = 6 := by rw [List.length_map, h6]
            have hcl : ∀ q v, (u8s (sixB B j))[q]? = some v → (wr.alloc six0).drew.cell? ((⟨g, off + (5 + 6 * j), none⟩ : Addr).add q) = some v := by
              intro q v hq
              rw [add_lit]
              obtain ⟨b, o, e, _, hc⟩ := ((hrd6.al six0)).2 (by have := h6; unfold sixB at this; omega)
              injection e with e
              injection e with e1 e2
              subst e1 e2
              exact hc q v hq
            have hg6 : (wr.alloc six0).drew.heap[wr.heap.size]? = some six0 := alloc1_new wr six0
            have hr := run_copy_row (P := Tryd.prog) (wr.alloc six0).drew 41 41 3 5 wr.heap.size 0 6 6 ⟨g, off + (5 + 6 * j), none⟩ 6 6 _ 57 (u8s (sixB B j)) Tryd.underlying41 (by kernel_rfl) hg6 (by rw [hlen]; rfl) hcl (by rw [hlen]; simp) (u8s_one _)
            refine ⟨(wr.alloc six0).drew.setRow wr.heap.size (u8s (sixB B j)).toArray, ?_, hFa.row hS.fr.bel.size (fun p hp => by rw [List.mem_singleton.1 hp]; have := hS.fr.lt (g := w.heap.size) List.mem_cons_self; simp only; omega), ?_⟩
            · rw [hr, hlen]
              simp
              rfl
            · have hne := own_blk_ne hOa (alloc1_new wr six0) (by decide)
              refine ⟨hOa.1, ?_⟩
              rcases hOa.2 with hn | ⟨g', cap, cur, he, hbg, hgg, rest⟩
              · exact .inl hn
              · refine .inr ⟨g', cap, cur, he, hbg, ?_, rest⟩
                rw [setRow_heap_other _ _ _ _ (fun e => hne (by rw [he, ← e]; rfl))]
                exact hgg
          obtain ⟨y0, y1, y2, y3, y4, y5, hy⟩ : ∃ y0 y1 y2 y3 y4 y5, sixB B j = [y0, y1, y2, y3, y4, y5] := by
            match sixB B j, h6 with
            | [y0, y1, y2, y3, y4, y5], _ => exact ⟨y0, y1, y2, y3, y4, y5, rfl⟩
          rw [hy] at hF8 hX6 hitb
          have hz6 := sixB_zero hX6
          rw [← hitb] at hz6
          have HF8 := Lib.hid hF8
          have HO8 := Lib.hid hO8
          have Hrel := Lib.hid hS.rel
          have HitB := Lib.hid hitb
          clear hitb
          have hgs : w.heap.size < wr.heap.size := hS.fr.lt (g := w.heap.size) List.mem_cons_self
          clear hN2 h6 hrd6 hFa hOa hF8 hO8 hS hy
          obtain ⟨b0, b1, b2, b3, b4, b5⟩ : w8.cell? ⟨wr.heap.size, 0, none⟩ = some (.int .u8 y0) ∧ w8.cell? ⟨wr.heap.size, 1, none⟩ = some (.int .u8 y1) ∧ w8.cell? ⟨wr.heap.size, 2, none⟩ = some (.int .u8 y2) ∧ w8.cell? ⟨wr.heap.size, 3, none⟩ = some (.int .u8 y3) ∧ w8.cell? ⟨wr.heap.size, 4, none⟩ = some (.int .u8 y4) ∧ w8.cell? ⟨wr.heap.size, 5, none⟩ = some (.int .u8 y5) := by
            have h := HF8.out.at (g := wr.heap.size) List.mem_cons_self
            exact ⟨Lib.cell_of_heap h 0, Lib.cell_of_heap h 1, Lib.cell_of_heap h 2, Lib.cell_of_heap h 3, Lib.cell_of_heap h 4, Lib.cell_of_heap h 5⟩
          by_cases hm : m ≤ (j : Int)
          · obtain ⟨bb, hbb⟩ : ∃ bb, decide ([y0, y1, y2, y3, y4, y5] = [0, 0, 0, 0, 0, 0]) = bb := ⟨_, rfl⟩
            have heq := eqA6 y0 y1 y2 y3 y4 y5
            rw [hbb] at heq
            cases bb
            case true =>
              have hz : hitB B j = (0, 0) := hz6.2 (of_decide_eq_true hbb)
              have hr2 := Lib.hid (Hrel.out.zero hjK hm hz)
              clear hz hbb hz6 Hrel
              go_wp2_with fail
              go_region
              go_wp2
              go_roundw
              case rel => exact ⟨j + 1, l, A', c', by omega, by go_num, ⟨HF8.out.sub (by simp), HO8.out, hr2.out⟩⟩
              case measure => simp [intOf]; omega
            case false =>
              have hz : hitB B j ≠ (0, 0) := fun h => of_decide_eq_false hbb (hz6.1 h)
              have hFx := Hrel.out.zero_no hjK hm hz
              have hE2 := Lib.hid (show decR B K = noDec (5 + 6 * (j : Int)) 6 by rw [HQ3.out, hFx]; rfl)
              clear hz hbb hz6 Hrel hFx
              go_wp2_with fail
              go_region
              go_wp2_with fail
              (with_reducible refine (bad_ (5 + 6 * (j : Int)) _).mono ?_); rintro e w5 ⟨rfl, hb5⟩
              have hF5 := HF8.out.go hb5
              clear b0 b1 b2 b3 b4 b5 heq sa hs3 hcp
              have o0 := Lib.cell_of_heap (hF5.at (g := w.heap.size) (List.mem_cons_of_mem _ List.mem_cons_self)) 0
              have o1 := Lib.cell_of_heap (hF5.at (g := w.heap.size) (List.mem_cons_of_mem _ List.mem_cons_self)) 1
              have o2 := Lib.cell_of_heap (hF5.at (g := w.heap.size) (List.mem_cons_of_mem _ List.mem_cons_self)) 2
              obtain ⟨f0, f1, f2⟩ : _ ∧ _ ∧ _ := ⟨Lib.frozen_of_heap (hF5.at (g := w.heap.size) (List.mem_cons_of_mem _ List.mem_cons_self)) 0, Lib.frozen_of_heap (hF5.at (g := w.heap.size) (List.mem_cons_of_mem _ List.mem_cons_self)) 1, Lib.frozen_of_heap (hF5.at (g := w.heap.size) (List.mem_cons_of_mem _ List.mem_cons_self)) 2⟩
              have hB := hF5.bel
              have hlt := hF5.lt (g := w.heap.size) (List.mem_cons_of_mem _ List.mem_cons_self)
              clear hF5 hb5
              go_wp2
              refine bodyPost_ret (v := .tuple #[repV none 0 0 false 0, .int .i64 (5 + 6 * (j : Int)), .int .i64 6]) (by simp [results, go_sem, o0, o1, o2]) rfl (RetDec.no hE2.out ?_)
              repeat' (first | with_reducible exact hB | with_reducible refine bs ?_ ?_ | (simp only; omega))
          · obtain rfl : j = l.length := by have := Hrel.out.len; omega
            have sh := sa_h wr.heap.size
            have sl := sa_l wr.heap.size
            go_wp2_with fail
            go_region
            clear b0 b1 b2 b3 b4 b5 hcp hs3 hw0 sa hz6
            generalize hE : rdNum [y0, y1, y2, y3, y4, y5] 0 4 = E at *
            generalize hI : rdNum [y0, y1, y2, y3, y4, y5] 4 2 = I at *
            have HE := Lib.hid hE
            have HI := Lib.hid hI
            have HX6 := Lib.hid hX6
            clear hE hI hX6
            have rd8 := reads_blkN (n := 6) (size := 1) (HF8.out.at (g := wr.heap.size) List.mem_cons_self) rfl
            have Rd8 : Hid (Reads w8.drew w8.drew.heap.size 1 (some ⟨wr.heap.size, 0, none⟩) 6 (u8s [y0, y1, y2, y3, y4, y5])) := Lib.hid rd8
            have k0 : w8.cell? ⟨w.heap.size, 0, none⟩ = some (.slice A' l.length c') := Lib.cell_of_heap (HF8.out.at (g := w.heap.size) (List.mem_cons_of_mem _ List.mem_cons_self)) 0
            have k0d : w8.drew.cell? ⟨w.heap.size, 0, none⟩ = some (.slice A' l.length c') := k0
            have hne1 := own_blk_ne HO8.out (HF8.out.at (g := w.heap.size) (List.mem_cons_of_mem _ List.mem_cons_self)) (by decide)
            have hne0 := own_blk_ne HO8.out (HF8.out.at (g := wr.heap.size) List.mem_cons_self) (by decide)
            have Hne := Lib.hid (And.intro hne0 hne1)
            clear rd8 hne1 hne0
            have hlt8 : w.heap.size < w8.heap.size := HF8.out.lt (g := w.heap.size) (List.mem_cons_of_mem _ List.mem_cons_self)
            have k0a : ∀ o, (w8.drew.alloc o).cell? ⟨w.heap.size, 0, none⟩ = some (.slice A' l.length c') := fun o => (World.cell?_alloc_lt w8.drew o ⟨w.heap.size, 0, none⟩ hlt8).trans k0
            have hc1 := read_04 w8.drew wr.heap.size 6 y0 y1 y2 y3 y4 y5 Rd8.out HX6.out
            have hc2 := read_42 w8.drew wr.heap.size 2 y0 y1 y2 y3 y4 y5 Rd8.out HX6.out
            rw [HE.out] at hc1
            rw [HI.out] at hc2
            have Hc1 := Lib.hid hc1
            have Hc2 := Lib.hid hc2
            clear hc1 hc2
            go_upto_region 23 with fail
            go_cut [] (fun wx => ∃ g4 cap4, DecN w l E I g4 cap4 ov d wx)
            case first =>
              go_region_law ((first
                | (refine step_fn1 36 (.slice (some ⟨wr.heap.size, 0, none⟩) 4 6) cf_read Hc1.out ?_; intro e w' hh; obtain ⟨rfl, rfl⟩ := hh; refine ⟨_, rfl, ?_⟩)
                | (refine step_fn1 36 (.slice (some ⟨wr.heap.size, 4, none⟩) 2 2) cf_read Hc2.out ?_; intro e w' hh; obtain ⟨rfl, rfl⟩ := hh; refine ⟨_, rfl, ?_⟩)
                | (refine step_ap htEl (w0 := w) (by exact HO8.out.alloc _) (by exact (ba HF8.out.bel _).drew) [.int .i64 E, .int .i64 I] (by exact alloc1_new _ _) ?_; intro g4 cap4 w4 hO4 hb4 hg4; have q0 := DecN.cell HF8.out hb4 hg4 Hne.out.1 Hne.out.2; have q1 := DecN.frozen HF8.out hb4 hg4 Hne.out.1 Hne.out.2)))
              all_goals
                have hD := DecN.mk HF8.out hO4 hb4 hg4 Hne.out.1 Hne.out.2
                clear hO4 hb4 hg4 q0 q1
                go_wp2_with fail
                go_meet
                exact ⟨g4, cap4, hD⟩
            case rest =>
              obtain ⟨g4, cap4, hF6, hO6⟩ := hcut
              clear k0 k0a k0d
              have q0 : wc.cell? ⟨w.heap.size, 0, none⟩ = some (.slice (some ⟨g4, 0, none⟩) (l.length + 1) cap4) := Lib.cell_of_heap (hF6.at List.mem_cons_self) 0
              obtain ⟨A9, c9, hA9, hrd, hc1', hc2'⟩ := own_sl hO6
              injection hA9 with hA1 hA2 hA3
              clear hA2
              subst hA1 hA3
              have hlen1 : (l ++ [(E, I)]).length = l.length + 1 := by simp
              have hwr := wrong_ wc (some ⟨g4, 0, none⟩) cap4 (l ++ [(E, I)]) (by rw [hlen1]; exact hrd) (by omega)
              rw [hlen1, wrg_snoc Hrel.out.ok] at hwr
              have HF6 := Lib.hid hF6
              have HO6 := Lib.hid hO6
              clear hF6 hO6 hrd hc1' hc2' Rd8 HX6 hlt8 sh sl Hc1 Hc2
              by_cases hz : hitErr (lastP none l) (E, I) = 0
              · rw [if_pos hz] at hwr
                have hr2 := Hrel.out.hit hjK (by omega) (by rw [HitB.out]; exact hz)
                rw [HitB.out] at hr2
                have Hwr := Lib.hid hwr
                clear hz hwr Hrel hm
                go_wp2_with fail
                (with_reducible refine (Hwr.out).mono ?_); rintro e w6 ⟨rfl, hb6⟩
                have hS2 : DecP w B m K (l.length + 1) (l ++ [(E, I)]) (some ⟨g4, 0, none⟩) cap4 ov d w6 := ⟨by rw [hlen1]; exact HF6.out.go hb6, by rw [hlen1]; exact own_below HO6.out hb6, hr2⟩
                clear hb6 HF6 HO6 Hwr q0 hlen1 hr2 hgw
                go_wp2
                go_roundw
                case rel => exact ⟨l.length + 1, _, _, _, by omega, by go_num, hS2⟩
                case measure => simp [intOf]; omega
              · rw [if_neg hz] at hwr
                have hFx := Hrel.out.hit_no hjK (by omega) (by rw [HitB.out]; exact hz)
                have hE2 := Lib.hid (show decR B K = noDec (5 + 6 * (l.length : Int)) 6 by rw [HQ3.out, hFx]; rfl)
                generalize hitErr (lastP none l) (E, I) = X at *
                have Hwr := Lib.hid hwr
                clear hz hwr Hrel hm hFx
                go_wp2_with fail
                (with_reducible refine (Hwr.out).mono ?_); rintro e w6 ⟨rfl, hb6⟩
                have HF7 := Lib.hid (HF6.out.go hb6)
                clear hb6 HF6 HO6 Hwr q0 hlen1
                go_wp2_with fail
                (with_reducible refine (bad_ (5 + 6 * (l.length : Int)) _).mono ?_); rintro e w7 ⟨rfl, hb7⟩
                have hF8 := HF7.out.go hb7
                have o0 := Lib.cell_of_heap (hF8.at (g := w.heap.size) List.mem_cons_self) 0
                have o1 := Lib.cell_of_heap (hF8.at (g := w.heap.size) List.mem_cons_self) 1
                have o2 := Lib.cell_of_heap (hF8.at (g := w.heap.size) List.mem_cons_self) 2
                obtain ⟨f0, f1, f2⟩ : _ ∧ _ ∧ _ := ⟨Lib.frozen_of_heap (hF8.at (g := w.heap.size) List.mem_cons_self) 0, Lib.frozen_of_heap (hF8.at (g := w.heap.size) List.mem_cons_self) 1, Lib.frozen_of_heap (hF8.at (g := w.heap.size) List.mem_cons_self) 2⟩
                have hB := hF8.bel
                have hlt := hF8.lt (g := w.heap.size) List.mem_cons_self
                clear hF8 hb7 HF7
                go_wp2
                refine bodyPost_ret (v := .tuple #[repV none 0 0 false 0, .int .i64 (5 + 6 * (l.length : Int)), .int .i64 6]) (by simp [results, go_sem, o0, o1, o2]) rfl (RetDec.no hE2.out ?_)
                repeat' (first | with_reducible exact hB | with_reducible refine bs ?_ ?_ | (simp only; omega))
        · obtain rfl : j = K := by omega
          have hD := Lib.hid (show decR B j = ⟨l, ov, d, 0, 0⟩ by rw [HQ3.out, hS.rel.done]; unfold decQ; rw [if_pos rfl, Hov.out, Hd.out])
          have hfr := hS.fr
          have hown := hS.own
          obtain ⟨A9, c9, hA9, hrd, hc1, hc2⟩ := own_sl hown
          injection hA9 with hA1 hA2 hA3
          clear hA2
          subst hA1 hA3
          have n0 := own_blk_ne hown (hfr.at (g := w.heap.size) List.mem_cons_self) (by decide)
          have hO5 := own_set (own_set (own_set hown ⟨w.heap.size, 0, none⟩ (.slice A' l.length c') n0) ⟨w.heap.size, 1, none⟩ (.bool ov) n0) ⟨w.heap.size, 2, none⟩ (.int .i64 d) n0
          have hB5 := bs (bs (bs hfr.bel (p := ⟨w.heap.size, 0, none⟩) (u := .slice A' l.length c') (Nat.le_refl _)) (p := ⟨w.heap.size, 1, none⟩) (u := .bool ov) (Nat.le_refl _)) (p := ⟨w.heap.size, 2, none⟩) (u := .int .i64 d) (Nat.le_refl _)
          have o0 := Lib.cell_of_heap (hfr.at (g := w.heap.size) List.mem_cons_self) 0
          have o1 := Lib.cell_of_heap (hfr.at (g := w.heap.size) List.mem_cons_self) 1
          have o2 := Lib.cell_of_heap (hfr.at (g := w.heap.size) List.mem_cons_self) 2
          obtain ⟨f0, f1, f2⟩ : _ ∧ _ ∧ _ := ⟨Lib.frozen_of_heap (hfr.at (g := w.heap.size) List.mem_cons_self) 0, Lib.frozen_of_heap (hfr.at (g := w.heap.size) List.mem_cons_self) 1, Lib.frozen_of_heap (hfr.at (g := w.heap.size) List.mem_cons_self) 2⟩
          have hlt := hfr.lt (g := w.heap.size) List.mem_cons_self
          have HO5 := Lib.hid hO5
          have HB5 := Lib.hid hB5
          clear hO5 hB5 hown hfr hS hrd n0
          go_wp2
          refine bodyPost_ret (v := .tuple #[repV A' l.length c' ov d, .int .i64 0, .int .i64 0]) (by simp [results, go_sem, o0, o1, o2]) rfl ?_
          rw [hD.out]
          exact ⟨A', c', rfl, HB5.out, Reads.of_own HO5.out, hc1, hc2⟩
theorem decode_any (w : World) (A : Option Addr) (c : Nat) (B : List Int) (h : Reads w w.heap.size 1 A B.length (u8s B)) (hx : Bytes B) (hc : B.length ≤ c ∧ c ≤ 9223372036854775807) (k : Int) :
    Calls Tryd.prog 22 #[.slice A B.length c, .int .i64 k] w (RetDec w (decR B k)) := by
  by_cases h1 : capK k = false
  · exact decode_1 w A c B k (.inl h1)
  have h1 : capK k = true := by simpa using h1
  by_cases h2 : (B.length : Int) = 5 + 6 * k
  · have := capK_iff.1 h1
    obtain ⟨b, off, rfl, _⟩ := h.2 (by omega)
    obtain ⟨K, rfl⟩ : ∃ K : Nat, k = K := ⟨k.toNat, by omega⟩
    exact decode_2 w b off c B h hx hc K h1 (by omega)
  · exact decode_1 w A c B k (.inr ⟨h1, h2⟩)
end Go.Proofs.YtokcbdaoofjbgaaDoor
