/- Reports: Decode of the reference. -/
import Derived.Test.YtokcbdaoofjbgaaDoorR19
import Derived.Deep.DeepCutAuto
namespace Go.Proofs.YtokcbdaoofjbgaaDoor
open Go.RowKit
theorem u8at {w : World} {Bk g off : Nat} {l : List Int} (h : Reads w Bk 1 (some ⟨g, off, none⟩) l.length (u8s l)) {k : Nat} (hk : k < l.length) : w.cell? ⟨g, off + k, none⟩ = some (.int .u8 (l.getD k 0)) ∧ g < Bk := by
  obtain ⟨b, o, e, hb, hc⟩ := h.2 (by omega)
  injection e with e
  injection e with e1 e2
  subst e1 e2
  exact ⟨hc k _ (by rw [List.getElem?_map, List.getElem?_eq_getElem hk]; simp [hk]), hb⟩
abbrev rep0 : Obj := repO none 0 0 false 0
abbrev DcT (w : World) (L : List (Nat × Obj)) (g o : Nat) (v : Value) (w1 : World) : Prop := (Fr w L w1 ∧ Hid (g < w.heap.size ∧ w.cell? ⟨g, o, none⟩ = some v)) ∧ w1.cell? ⟨g, o, none⟩ = some v
section
variable {w w1 w2 : World} {L : List (Nat × Obj)} {g o : Nat} {v : Value}
theorem DcT.of (h : Fr w L w1) (hg : Hid (g < w.heap.size ∧ w.cell? ⟨g, o, none⟩ = some v)) : DcT w L g o v w1 := ⟨⟨h, hg⟩, (h.bel.cell (p := ⟨g, o, none⟩) hg.out.1).trans hg.out.2⟩
theorem DcT.drew (h : DcT w L g o v w1) : DcT w L g o v w1.drew := .of h.1.1.drew h.1.2
theorem DcT.rd (h : DcT w L g o v w1) {A : Option Addr} {B : List Int} (hr : Reads w w.heap.size 1 A B.length (u8s B)) : Reads w1 w1.heap.size 1 A B.length (u8s B) := hr.go h.1.1.bel
theorem DcT.al (h : DcT w L g o v w1) (x : Obj) : DcT w L g o v (w1.alloc x) := .of (h.1.1.al x) h.1.2
end
set_option maxRecDepth 100000 in
set_option maxHeartbeats 2000000 in
theorem rdecode_1 (w : World) (A : Option Addr) (c : Nat) (B : List Int) (k : Int) (h : capK k = false ∨ (capK k = true ∧ (B.length : Int) ≠ 5 + 6 * k)) :
    Calls Tryd.prog 23 #[.slice A B.length c, .int .i64 k] w (RetDec w (decR B k)) := by
  rcases h with h | ⟨h, h2⟩
  · have hq := Lib.hid (show decR B k = noDec (-1) 7 from if_pos h)
    have Hcp := Lib.hid h.symm
    clear h
    go_enter Tryd.func23, Tryd.ntmps23
    go_wp2_with fail
    (with_reducible refine (capacity_ k false Hcp _).mono ?_); rintro e w' ⟨rfl, rfl⟩
    go_wp2
    refine bodyPost_ret (v := .tuple #[repV none 0 0 false 0, .int .i64 (-1), .int .i64 7]) (by simp [results, go_sem]) rfl (RetDec.no hq.out ?_)
    exact ba (Below.refl _ _) _
  · have hq := Lib.hid (show decR B k = noDec (-1) 3 by unfold decR; rw [h, if_neg (by decide), if_pos h2])
    have Hcp := Lib.hid h.symm
    have hk := capK_iff.1 h
    have e1 : ((B.length : Int) != 5 + 6 * k) = true := by simpa using h2
    clear h h2
    go_enter Tryd.func23, Tryd.ntmps23
    go_wp2_with fail
    (with_reducible refine (capacity_ k true Hcp _).mono ?_); rintro e w' ⟨rfl, rfl⟩
    go_wp2
    refine bodyPost_ret (v := .tuple #[repV none 0 0 false 0, .int .i64 (-1), .int .i64 3]) (by simp [results, go_sem]) rfl (RetDec.no hq.out ?_)
    exact ba (Below.refl _ _) _
abbrev RdS (g off : Nat) (B : List Int) (w : World) : Prop := Reads w w.heap.size 1 (some ⟨g, off, none⟩) B.length (u8s B)
theorem RdS.drew {g off : Nat} {B : List Int} {w : World} (h : RdS g off B w) : RdS g off B w.drew := h
theorem RdS.al {g off : Nat} {B : List Int} {w : World} (h : RdS g off B w) (o : Obj) : RdS g off B (w.alloc o) := Reads.al h o
/-- the loop of the reference's Decode: the report lies in the block behind the result's -/
structure DecS (w : World) (B : List Int) (m : Int) (K j : Nat) (l : List Hit) (A : Option Addr) (c : Nat) (o : Bool) (d : Int) (w' : World) : Prop where
  fr : Fr w [(w.heap.size + 1, repO A l.length c o d), (w.heap.size, rep0)] w'
  own : w'.ownsRow w.heap.size 48 2 (.slice A l.length c) l.length (hits l)
  rel : DecRel B m K j l
theorem DecS.drew {w w1 : World} {B : List Int} {m : Int} {K j c : Nat} {l : List Hit} {A : Option Addr} {o : Bool} {d : Int} (h : DecS w B m K j l A c o d w1) : DecS w B m K j l A c o d w1.drew := ⟨h.fr.drew, h.own, h.rel⟩
theorem DecS.al {w w1 : World} {B : List Int} {m : Int} {K j c : Nat} {l : List Hit} {A : Option Addr} {o : Bool} {d : Int} (h : DecS w B m K j l A c o d w1) (x : Obj) : DecS w B m K j l A c o d (w1.alloc x) := ⟨h.fr.al x, h.own.alloc x, h.rel⟩
set_option maxRecDepth 100000 in
set_option maxHeartbeats 4000000 in
theorem rdecode_2 (w : World) (g off c : Nat) (B : List Int) (h : Reads w w.heap.size 1 (some ⟨g, off, none⟩) B.length (u8s B)) (hx : Bytes B) (hc : B.length ≤ c ∧ c ≤ 9223372036854775807) (K : Nat) (hcp : capK K = true) (hN : B.length = 5 + 6 * K) :
    Calls Tryd.prog 23 #[.slice (some ⟨g, off, none⟩) B.length c, .int .i64 K] w (RetDec w (decR B K)) := by
  have hk := capK_iff.1 hcp
  have Hcp := Lib.hid hcp.symm
  have e1 : ((B.length : Int) != 5 + 6 * (K : Int)) = false := by simp; omega
  obtain ⟨cx, hg⟩ := u8at h (k := 2) (by omega)
  obtain ⟨m0, m1⟩ := rd2 hx 0 (by omega)
  obtain ⟨d0, d1⟩ := rd2 hx 3 (by omega)
  have x01 : 0 ≤ B.getD 2 0 ∧ B.getD 2 0 ≤ 255 := by
    have hl : 2 < B.length := by omega
    have := hx B[2] (List.getElem_mem hl)
    simpa [hl] using this
  obtain ⟨x0, x1⟩ := x01
  have hs1 : ∀ W : World, (Instr.sliceAt 41 (.slice (some ⟨g, off, none⟩) B.length c) none (some (.int .i64 2)) none).run Tryd.prog W = .ok (.slice (some ⟨g, off, none⟩) 2 c) W := fun W => sl_h g off _ c 2 2 (by omega) (by omega) rfl (by omega) W
  have hs2 : ∀ W : World, (Instr.sliceAt 41 (.slice (some ⟨g, off, none⟩) B.length c) (some (.int .i64 3)) (some (.int .i64 5)) none).run Tryd.prog W = .ok (.slice (some ⟨g, off + 3, none⟩) 2 (c - 3)) W := fun W => sl_lh g off _ c 3 5 2 (c - 3) (by omega) (by omega) (by omega) rfl (by omega) (by omega) W
  have hq : decR B K = if (K : Int) < rdNum B 0 2 then noDec 0 6 else if 1 < B.getD 2 0 then noDec 2 6 else if flgB (overB B) (rdNum B 3 2) (rdNum B 0 2) K = false then noDec 3 6 else decQ B (decF B (rdNum B 0 2) K 0 []) := by
    unfold decR
    rw [hcp, if_neg (by decide), if_neg (by omega), Int.toNat_natCast]
  have hov : overB B = (B.getD 2 0 == 1) := rfl
  rw [hov] at hq
  have HQ := Lib.hid hq
  have Hov := Lib.hid hov
  have HR := Lib.hid h
  have HX := Lib.hid hx
  have HN := Lib.hid hN
  generalize hm : rdNum B 0 2 = m at *
  generalize hd : rdNum B 3 2 = d at *
  generalize hxx : B.getD 2 0 = x at *
  have hF0 := (Fr.start w).newN rfl rep0
  have Hcx := Lib.hid (And.intro hg cx)
  have i2 : (2 : Int) < (B.length : Int) := by omega
  clear hq h hx hN hcp hov
  have Hn := Lib.hid hm
  have Hd := Lib.hid hd
  have Hxx := Lib.hid hxx
  clear hm hd hxx
  go_enter Tryd.func23, Tryd.ntmps23
  go_wp2_with fail
  (with_reducible refine (capacity_ K true Hcp _).mono ?_); rintro e w' ⟨rfl, rfl⟩
  go_wp2_with fail
  (with_reducible refine (rnumber_at _ g off 0 2 c off B (by exact HR.out.al _) HX.out (by have := HN.out; omega) (by omega) rfl).mono ?_); rintro e w' ⟨rfl, rfl⟩
  rw [Hn.out]
  by_cases q1 : (K : Int) < m
  · have Hq := HQ.out
    rw [if_pos q1] at Hq
    have HQ2 := Lib.hid Hq
    clear Hq HQ
    go_wp2
    refine bodyPost_ret (v := .tuple #[repV none 0 0 false 0, .int .i64 0, .int .i64 6]) (by simp [results, go_sem]) rfl (RetDec.no HQ2.out ?_)
    exact ba (Below.refl _ _) _
  by_cases q2 : 1 < x
  · have Hq := HQ.out
    rw [if_neg q1, if_pos q2] at Hq
    have HQ2 := Lib.hid Hq
    clear Hq HQ
    go_wp2
    refine bodyPost_ret (v := .tuple #[repV none 0 0 false 0, .int .i64 2, .int .i64 6]) (by simp [results, go_sem]) rfl (RetDec.no HQ2.out ?_)
    exact ba (Below.refl _ _) _
  have Hq := HQ.out
  rw [if_neg q1, if_neg q2] at Hq
  have HQ2 := Lib.hid Hq
  clear Hq HQ
  go_wp2_with fail
  have hT := DcT.of hF0 Hcx
  go_upto_region 10 with fail
  go_cut [8] (fun s8 wx => s8 = .pointer (some ⟨w.heap.size + 1, 0, none⟩) ∧ Fr w [(w.heap.size + 1, repO none 0 0 (x == 1) d), (w.heap.size, rep0)] wx)
  case first =>
    go_region_held3 (fun w' => DcT w [(w.heap.size, rep0)] g (off + 2) (.int .u8 x) w')
      (with_reducible (first | exact DcT.drew hT | exact DcT.drew (DcT.al hT _) | assumption))
      ((go_at_call 37; refine (rnumber_at _ g off 3 2 (c - 3) _ B (DcT.rd (by assumption) HR.out) HX.out (by have := HN.out; omega) (by omega) rfl).mono ?_; rintro e w' ⟨rfl, rfl⟩))
    all_goals
      rw [Hd.out]
      go_wp2_with fail
      go_meet
      exact ⟨rfl, ((hF0.newN (by simp) _)).drew⟩
  case rest =>
    obtain ⟨rfl, hF⟩ := hcut
    generalize (x == 1) = ov at *
    generalize wc = w2 at *
    clear hF0
    obtain ⟨k0, k1, k2⟩ : w2.cell? ⟨w.heap.size + 1, 0, none⟩ = some (.slice none 0 0) ∧ w2.cell? ⟨w.heap.size + 1, 1, none⟩ = some (.bool ov) ∧ w2.cell? ⟨w.heap.size + 1, 2, none⟩ = some (.int .i64 d) := ⟨Lib.cell_of_heap (hF.at List.mem_cons_self) 0, Lib.cell_of_heap (hF.at List.mem_cons_self) 1, Lib.cell_of_heap (hF.at List.mem_cons_self) 2⟩
    clear cx Hcx i2 e1 hs1 hs2 x0 x1 q2 m1 d0 d1
    have HF := Lib.hid hF
    go_upto_region 11 with fail
    go_cut [61] (fun s wx => s = .bool (!flgB ov d m K) ∧ wx = w2)
    case first =>
      clear HF hF hT hg
      obtain ⟨b2, hb2⟩ : ∃ b, (m != 0) = b := ⟨_, rfl⟩
      obtain ⟨b3, hb3⟩ : ∃ b, (m != (K : Int)) = b := ⟨_, rfl⟩
      have Hb := Lib.hid (flgB_or ov d m K)
      cases ov
      case false =>
        clear hb2 hb3
        by_cases p1 : 0 < d
        all_goals
          have p1' := p1
          go_wp2
          go_meet
          go_light
          exact ⟨congrArg Value.bool (by rw [Hb.out]; simp; omega), by trivial⟩
      case true =>
        by_cases p1 : 0 < d
        case neg =>
          have p1' := p1
          clear hb2 hb3
          go_wp2
          go_meet
          go_light
          exact ⟨congrArg Value.bool (by rw [Hb.out]; simp; omega), by trivial⟩
        case pos =>
          have p1' := p1
          have Hb2 := Lib.hid hb2
          have Hb3 := Lib.hid hb3
          cases b2
          case false =>
            go_wp2
            go_meet
            go_light
            exact ⟨congrArg Value.bool (by rw [Hb.out, Hb2.out]; simp; omega), by trivial⟩
          case true =>
            go_wp2
            go_meet
            go_light
            exact ⟨congrArg Value.bool (by rw [Hb.out, Hb2.out, Hb3.out]; simp; try omega), by trivial⟩
    case rest =>
      obtain ⟨rfl, rfl⟩ := hcut
      clear k0 k1 k2
      obtain ⟨hF, Hrest⟩ := And.intro HF.out HF
      generalize flgB ov d m K = fl at *
      cases fl
      case false =>
        have Hq := HQ2.out
        rw [if_pos rfl] at Hq
        have HQ3 := Lib.hid Hq
        have o0 := Lib.cell_of_heap (hF.at (g := w.heap.size) (o := rep0) (by simp)) 0
        have o1 := Lib.cell_of_heap (hF.at (g := w.heap.size) (o := rep0) (by simp)) 1
        have o2 := Lib.cell_of_heap (hF.at (g := w.heap.size) (o := rep0) (by simp)) 2
        obtain ⟨f0, f1, f2⟩ : _ ∧ _ ∧ _ := ⟨Lib.frozen_of_heap (hF.at (g := w.heap.size) (o := rep0) (by simp)) 0, Lib.frozen_of_heap (hF.at (g := w.heap.size) (o := rep0) (by simp)) 1, Lib.frozen_of_heap (hF.at (g := w.heap.size) (o := rep0) (by simp)) 2⟩
        have hB := hF.bel
        have hlt := hF.lt (g := w.heap.size) (o := rep0) (by simp)
        clear Hq HQ2 hF Hrest
        go_wp2
        refine bodyPost_ret (v := .tuple #[repV none 0 0 false 0, .int .i64 3, .int .i64 6]) (by simp [results, go_sem, o0, o1, o2]) rfl (RetDec.no HQ3.out ?_)
        repeat' (first | with_reducible exact hB | with_reducible refine bs ?_ ?_ | (simp only; omega))
      case true =>
        have Hq := HQ2.out
        rw [if_neg (by decide)] at Hq
        have HQ3 := Lib.hid Hq
        have hD0 := DecRel.start B m K m0
        clear Hq HQ2
        have hF1 := hF
        clear hF Hrest
        have hown0 := World.ownsRow_nil wc w.heap.size 48 2
        rw [Bool.not_true]
        go_wp2_with fail
        go_loopw [9] (fun i wr => ∃ (j : Nat) (l : List Hit) (A' : Option Addr) (c' : Nat), j ≤ K ∧ i = .int .i64 j ∧ DecS w B m K j l A' c' ov d wr) (fun i _ => K - (intOf i).toNat)
        case atStart => exact ⟨0, [], none, 0, Nat.zero_le _, rfl, ⟨hF1, hown0, hD0⟩⟩
        case round =>
          obtain ⟨j, l, A', c', hj, rfl, hS⟩ := hrel
          clear hF1 hown0 hD0
          by_cases hjK : j < K
          · have hgw : g < wr.heap.size := Nat.lt_of_lt_of_le hg hS.fr.bel.size
            have Hrd := Lib.hid (HR.out.go hS.fr.bel)
            have hw1 : IntKind.i64.wrap (5 + 6 * (j : Int) + 4) = 5 + 6 * (j : Int) + 4 := IntWalk.i64_in _ (by omega)
            have hw2 : IntKind.i64.wrap (5 + 6 * (j : Int) + 6) = 5 + 6 * (j : Int) + 6 := IntWalk.i64_in _ (by omega)
            have hN2 := HN.out
            have hs3 : ∀ W : World, (Instr.sliceAt 41 (.slice (some ⟨g, off, none⟩) B.length c) (some (.int .i64 (5 + 6 * (j : Int)))) (some (.int .i64 (5 + 6 * (j : Int) + 4))) none).run Tryd.prog W = .ok (.slice (some ⟨g, off + (5 + 6 * j), none⟩) 4 (c - (5 + 6 * j))) W := fun W => by
              have := sl_lh g off B.length c (5 + 6 * (j : Int)) (5 + 6 * (j : Int) + 4) 4 (c - (5 + 6 * j)) (by omega) (by omega) (by omega) (by omega) (by omega) (by omega) W
              rw [show (5 + 6 * (j : Int)).toNat = 5 + 6 * j by omega] at this
              exact this
            have hs4 : ∀ W : World, (Instr.sliceAt 41 (.slice (some ⟨g, off, none⟩) B.length c) (some (.int .i64 (5 + 6 * (j : Int) + 4))) (some (.int .i64 (5 + 6 * (j : Int) + 6))) none).run Tryd.prog W = .ok (.slice (some ⟨g, off + (5 + 6 * j + 4), none⟩) 2 (c - (5 + 6 * j + 4))) W := fun W => by
              have := sl_lh g off B.length c (5 + 6 * (j : Int) + 4) (5 + 6 * (j : Int) + 6) 2 (c - (5 + 6 * j + 4)) (by omega) (by omega) (by omega) (by omega) (by omega) (by omega) W
              rw [show (5 + 6 * (j : Int) + 4).toNat = 5 + 6 * j + 4 by omega] at this
              exact this
            clear hN2
            go_upto_region 17 with fail
            go_cut [11] (fun s wx => s = .pointer (some ⟨wr.heap.size, 0, none⟩) ∧ wx = (wr.alloc (hitO (hitB B j))).drew)
            case first =>
              have hRd : RdS g off B wr := Hrd.out
              go_region_held3 (fun w' => RdS g off B w')
                (with_reducible (first | exact RdS.drew hRd | exact RdS.drew (RdS.al hRd _) | assumption))
                ((go_at_call 37; first
                  | ((with_reducible refine (rnumber_at _ g off (5 + 6 * j) 4 _ _ B (by assumption) HX.out (by have := HN.out; omega) (by omega) rfl).mono ?_); rintro e w' ⟨rfl, rfl⟩)
                  | ((with_reducible refine (rnumber_at _ g off (5 + 6 * j + 4) 2 _ _ B (by assumption) HX.out (by have := HN.out; omega) (by omega) rfl).mono ?_); rintro e w' ⟨rfl, rfl⟩)))
              all_goals
                go_wp2
                go_meet
                exact ⟨rfl, rfl⟩
            case rest =>
              obtain ⟨rfl, rfl⟩ := hcut
              have hSn := hS.al (hitO (hitB B j))
              have hh := alloc1_new wr (hitO (hitB B j))
              obtain ⟨E, I, hEI⟩ : ∃ E I, hitB B j = (E, I) := ⟨_, _, rfl⟩
              have HEI := Lib.hid hEI
              rw [hEI] at hSn hh ⊢
              have hSd : DecS w B m K j l A' c' ov d (wr.alloc (hitO (E, I))).drew := hSn.drew
              have hhd : (wr.alloc (hitO (E, I))).drew.heap[wr.heap.size]? = some (hitO (E, I)) := hh
              have hgs : w.heap.size < wr.heap.size := hS.fr.lt (g := w.heap.size) (o := rep0) (by simp)
              clear hs3 hs4 hw1 hw2 hEI hSn hh
              generalize (wr.alloc (hitO (E, I))).drew = w3 at *
              have e0 := Lib.cell_of_heap hhd 0
              have e1' := Lib.cell_of_heap hhd 1
              by_cases hm : m ≤ (j : Int)
              · by_cases hz : (E, I) = ((0 : Int), (0 : Int))
                · have hS2 : DecS w B m K (j + 1) l A' c' ov d w3 := ⟨hSd.fr, hSd.own, hSd.rel.zero hjK hm (by rw [HEI.out]; exact hz)⟩
                  clear hSd hS
                  injection hz with z1 z2
                  subst z1 z2
                  go_wp2
                  go_roundw
                  case rel => exact ⟨j + 1, l, A', c', by omega, by go_num, hS2⟩
                  case measure => simp [intOf]; omega
                · have hF := hSd.rel.zero_no hjK hm (by rw [HEI.out]; exact hz)
                  have hE2 := Lib.hid (show decR B K = noDec (5 + 6 * (j : Int)) 6 by rw [HQ3.out, hF]; rfl)
                  have o0 := Lib.cell_of_heap (hSd.fr.at (g := w.heap.size) (o := rep0) (by simp)) 0
                  have o1 := Lib.cell_of_heap (hSd.fr.at (g := w.heap.size) (o := rep0) (by simp)) 1
                  have o2 := Lib.cell_of_heap (hSd.fr.at (g := w.heap.size) (o := rep0) (by simp)) 2
                  obtain ⟨f0, f1, f2⟩ : _ ∧ _ ∧ _ := ⟨Lib.frozen_of_heap (hSd.fr.at (g := w.heap.size) (o := rep0) (by simp)) 0, Lib.frozen_of_heap (hSd.fr.at (g := w.heap.size) (o := rep0) (by simp)) 1, Lib.frozen_of_heap (hSd.fr.at (g := w.heap.size) (o := rep0) (by simp)) 2⟩
                  have hB := hSd.fr.bel
                  have hlt := hSd.fr.lt (g := w.heap.size) (o := rep0) (by simp)
                  clear hF hSd hS
                  by_cases hz1 : E = 0
                  · have hz2 : ¬ I = 0 := fun h => hz (by rw [hz1, h])
                    subst hz1
                    clear hz
                    go_wp2
                    refine bodyPost_ret (v := .tuple #[repV none 0 0 false 0, .int .i64 (5 + 6 * (j : Int)), .int .i64 6]) (by simp [results, go_sem, o0, o1, o2]) rfl (RetDec.no hE2.out ?_)
                    repeat' (first | with_reducible exact hB | with_reducible refine bs ?_ ?_ | (simp only; omega))
                  · clear hz
                    go_wp2
                    refine bodyPost_ret (v := .tuple #[repV none 0 0 false 0, .int .i64 (5 + 6 * (j : Int)), .int .i64 6]) (by simp [results, go_sem, o0, o1, o2]) rfl (RetDec.no hE2.out ?_)
                    repeat' (first | with_reducible exact hB | with_reducible refine bs ?_ ?_ | (simp only; omega))
              · obtain rfl : j = l.length := by have := hSd.rel.len; omega
                have hown := hSd.own
                have hrel := hSd.rel
                have hne1 := own_blk_ne hown (hSd.fr.at (g := w.heap.size + 1) List.mem_cons_self) (by decide)
                have hne0 := own_blk_ne hown (hSd.fr.at (g := w.heap.size) (o := rep0) (by simp)) (by decide)
                have k0 := Lib.cell_of_heap (hSd.fr.at (g := w.heap.size + 1) List.mem_cons_self) 0
                have Hfr := Lib.hid hSd.fr
                have Hown := Lib.hid hown
                have Hrel := Lib.hid hrel
                have Hne := Lib.hid (And.intro hne1 hne0)
                clear hS hSd hown hrel hne1 hne0
                go_wp2_with (at_builtin; refine wpList_ap htEl (w0 := w) (by exact Hown.out.alloc _) (by exact ba Hfr.out.bel _) [.int .i64 E, .int .i64 I] (by exact alloc1_new _ _) ?_)
                intro g4 cap4 w4 hO4 hb4 hg4
                have hF4 := Fr.grown (Hfr.out.al _) hb4 hg4 (by
                  intro p hp
                  rcases List.mem_cons.1 hp with rfl | hp
                  · exact Hne.out.1
                  · rcases List.mem_cons.1 hp with rfl | hp
                    · exact Hne.out.2
                    · cases hp)
                have hO5 : w4.ownsRow w.heap.size 48 2 (.slice (some ⟨g4, 0, none⟩) (l.length + 1) cap4) (l.length + 1) (hits (l ++ [(E, I)])) := by
                  rw [hits_app]; exact hO4
                have hne4 := own_blk_ne hO5 (hF4.at (g := w.heap.size + 1) List.mem_cons_self) (by decide)
                have a4 := hF4.at (g := w.heap.size + 1) List.mem_cons_self
                have q0 : w4.cell? ⟨w.heap.size + 1, 0, none⟩ = some (.slice A' l.length c') := Lib.cell_of_heap a4 0
                have q1 : w4.frozen? ⟨w.heap.size + 1, 0, none⟩ = false := Lib.frozen_of_heap a4 0
                have hF5 := hF4.set (by omega) (by
                  intro p hp
                  rcases List.mem_cons.1 hp with rfl | hp
                  · simp
                  · cases hp) 0 (.slice (some ⟨g4, 0, none⟩) (l.length + 1) cap4)
                have hO6 := own_set hO5 ⟨w.heap.size + 1, 0, none⟩ (.slice (some ⟨g4, 0, none⟩) (l.length + 1) cap4) hne4
                have hF6 : Fr w [(w.heap.size + 1, repO (some ⟨g4, 0, none⟩) (l.length + 1) cap4 ov d), (w.heap.size, rep0)] (w4.setCell ⟨w.heap.size + 1, 0, none⟩ (.slice (some ⟨g4, 0, none⟩) (l.length + 1) cap4)) := hF5
                have hcap := own_sl hO6
                obtain ⟨A9, c9, hA9, hrd, hc1, hc2⟩ := hcap
                injection hA9 with hA1 hA2 hA3
                clear hA2
                subst hA1 hA3
                have hlen1 : (l ++ [(E, I)]).length = l.length + 1 := by simp
                have hasc := ascends_ (w4.setCell ⟨w.heap.size + 1, 0, none⟩ (.slice (some ⟨g4, 0, none⟩) (l.length + 1) cap4)) (some ⟨g4, 0, none⟩) cap4 (l ++ [(E, I)]) (by rw [hlen1]; exact hrd) (by omega) l.length (by omega)
                rw [hlen1, prevH_snoc, hitAt_snoc] at hasc
                have Hasc := Lib.hid hasc
                have HF6 := Lib.hid hF6
                have HO6 := Lib.hid hO6
                clear hO4 hb4 hg4 hF4 hO5 hne4 a4 hF5 hO6 hF6 hrd hc1 hc2 hasc Hfr Hown Hne k0 e0 e1' hhd hgs
                by_cases hz : hitErr (lastP none l) (E, I) = 0
                · have hr2 := Hrel.out.hit hjK (by omega) (by rw [HEI.out]; exact hz)
                  rw [HEI.out] at hr2
                  rw [hz] at Hasc
                  have Hr2 := Lib.hid hr2
                  clear hr2 hz Hrel
                  go_wp2_with fail
                  (with_reducible refine (Hasc.out).mono ?_); rintro e w6 ⟨rfl, hb6⟩
                  have hS2 : DecS w B m K (l.length + 1) (l ++ [(E, I)]) (some ⟨g4, 0, none⟩) cap4 ov d w6 := ⟨by rw [hlen1]; exact HF6.out.go hb6, by rw [hlen1]; exact own_below HO6.out hb6, Hr2.out⟩
                  clear hb6 HF6 HO6 Hasc q0 q1 hlen1 hgw hm
                  go_wp2
                  go_roundw
                  case rel => exact ⟨l.length + 1, _, _, _, by omega, by go_num, hS2⟩
                  case measure => simp [intOf]; omega
                · have hF := Hrel.out.hit_no hjK (by omega) (by rw [HEI.out]; exact hz)
                  generalize hitErr (lastP none l) (E, I) = X at *
                  have e2 : (X != 0) = true := by simpa using hz
                  clear hz
                  go_wp2_with fail
                  (with_reducible refine (Hasc.out).mono ?_); rintro e w6 ⟨rfl, hb6⟩
                  have hF7 := HF6.out.go hb6
                  have hE2 := Lib.hid (show decR B K = noDec (5 + 6 * (l.length : Int)) 6 by rw [HQ3.out, hF]; rfl)
                  have o0 := Lib.cell_of_heap (hF7.at (g := w.heap.size) (o := rep0) (by simp)) 0
                  have o1 := Lib.cell_of_heap (hF7.at (g := w.heap.size) (o := rep0) (by simp)) 1
                  have o2 := Lib.cell_of_heap (hF7.at (g := w.heap.size) (o := rep0) (by simp)) 2
                  obtain ⟨f0, f1, f2⟩ : _ ∧ _ ∧ _ := ⟨Lib.frozen_of_heap (hF7.at (g := w.heap.size) (o := rep0) (by simp)) 0, Lib.frozen_of_heap (hF7.at (g := w.heap.size) (o := rep0) (by simp)) 1, Lib.frozen_of_heap (hF7.at (g := w.heap.size) (o := rep0) (by simp)) 2⟩
                  have hB := hF7.bel
                  have hlt := hF7.lt (g := w.heap.size) (o := rep0) (by simp)
                  clear hF hb6 HF6 HO6 Hasc q0 q1 hF7
                  go_wp2
                  refine bodyPost_ret (v := .tuple #[repV none 0 0 false 0, .int .i64 (5 + 6 * (l.length : Int)), .int .i64 6]) (by simp [results, go_sem, o0, o1, o2]) rfl (RetDec.no hE2.out ?_)
                  repeat' (first | with_reducible exact hB | with_reducible refine bs ?_ ?_ | (simp only; omega))
          · obtain rfl : j = K := by omega
            have hD := Lib.hid (show decR B j = ⟨l, ov, d, 0, 0⟩ by rw [HQ3.out, hS.rel.done]; unfold decQ; rw [if_pos rfl, Hov.out, Hd.out])
            have hfr := hS.fr
            have hown := hS.own
            obtain ⟨A9, c9, hA9, hrd, hc1, hc2⟩ := own_sl hown
            injection hA9 with hA1 _ hA3
            subst hA1 hA3
            have n0 := own_blk_ne hown (hfr.at (g := w.heap.size) (o := rep0) (by simp)) (by decide)
            have hO5 := own_set (own_set (own_set hown ⟨w.heap.size, 0, none⟩ (.slice A' l.length c') n0) ⟨w.heap.size, 1, none⟩ (.bool ov) n0) ⟨w.heap.size, 2, none⟩ (.int .i64 d) n0
            have hB5 := bs (bs (bs hfr.bel (p := ⟨w.heap.size, 0, none⟩) (u := .slice A' l.length c') (Nat.le_refl _)) (p := ⟨w.heap.size, 1, none⟩) (u := .bool ov) (Nat.le_refl _)) (p := ⟨w.heap.size, 2, none⟩) (u := .int .i64 d) (Nat.le_refl _)
            have k0 := Lib.cell_of_heap (hfr.at (g := w.heap.size + 1) List.mem_cons_self) 0
            have k1 := Lib.cell_of_heap (hfr.at (g := w.heap.size + 1) List.mem_cons_self) 1
            have k2 := Lib.cell_of_heap (hfr.at (g := w.heap.size + 1) List.mem_cons_self) 2
            have o0 := Lib.cell_of_heap (hfr.at (g := w.heap.size) (o := rep0) (by simp)) 0
            have o1 := Lib.cell_of_heap (hfr.at (g := w.heap.size) (o := rep0) (by simp)) 1
            have o2 := Lib.cell_of_heap (hfr.at (g := w.heap.size) (o := rep0) (by simp)) 2
            obtain ⟨f0, f1, f2⟩ : _ ∧ _ ∧ _ := ⟨Lib.frozen_of_heap (hfr.at (g := w.heap.size) (o := rep0) (by simp)) 0, Lib.frozen_of_heap (hfr.at (g := w.heap.size) (o := rep0) (by simp)) 1, Lib.frozen_of_heap (hfr.at (g := w.heap.size) (o := rep0) (by simp)) 2⟩
            have hlt := hfr.lt (g := w.heap.size) (o := rep0) (by simp)
            have HO5 := Lib.hid hO5
            have HB5 := Lib.hid hB5
            clear hO5 hB5 hown hfr hS hrd n0
            go_wp2
            refine bodyPost_ret (v := .tuple #[repV A' l.length c' ov d, .int .i64 0, .int .i64 0]) (by simp [results, go_sem, o0, o1, o2]) rfl ?_
            rw [hD.out]
            exact ⟨A', c', rfl, HB5.out, Reads.of_own HO5.out, hc1, hc2⟩
theorem rdecode_any (w : World) (A : Option Addr) (c : Nat) (B : List Int) (h : Reads w w.heap.size 1 A B.length (u8s B)) (hx : Bytes B) (hc : B.length ≤ c ∧ c ≤ 9223372036854775807) (k : Int) :
    Calls Tryd.prog 23 #[.slice A B.length c, .int .i64 k] w (RetDec w (decR B k)) := by
  by_cases h1 : capK k = false
  · exact rdecode_1 w A c B k (.inl h1)
  have h1 : capK k = true := by simpa using h1
  by_cases h2 : (B.length : Int) = 5 + 6 * k
  · have := capK_iff.1 h1
    obtain ⟨b, off, rfl, _⟩ := h.2 (by omega)
    obtain ⟨K, rfl⟩ : ∃ K : Nat, k = K := ⟨k.toNat, by omega⟩
    exact rdecode_2 w b off c B h hx hc K h1 (by omega)
  · exact rdecode_1 w A c B k (.inr ⟨h1, h2⟩)
end Go.Proofs.YtokcbdaoofjbgaaDoor
