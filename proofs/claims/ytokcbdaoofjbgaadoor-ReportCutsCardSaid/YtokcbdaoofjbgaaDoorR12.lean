/- Reports: the reference's Make. -/
import Derived.Test.YtokcbdaoofjbgaaDoorR6
namespace Go.Proofs.YtokcbdaoofjbgaaDoor
open Go.RowKit
theorem mkE_cap {l : List Hit} {k : Int} (h : capK k = false) : mkE l k = 7 := if_pos h
theorem mkE_long {l : List Hit} {k : Int} (h : capK k = true) (h2 : 20000 < l.length) : mkE l k = 3 := by unfold mkE; rw [h, if_neg (by decide), if_pos h2]
theorem mkE_wrg {l : List Hit} {k : Int} (h : capK k = true) (h2 : ¬ 20000 < l.length) : mkE l k = (wrg l).2 := by unfold mkE; rw [h, if_neg (by decide), if_neg h2]
/-- the report stored into the result's block -/
theorem rep_fin {w w4 : World} {A' : Option Addr} {N c' : Nat} {l m : List Hit} {b : Bool} {d : Int} (hO : w4.ownsRow w.heap.size 48 2 (.slice A' N c') N (hits m)) (hF : Fr w [(w.heap.size, repO none 0 0 false 0)] w4) (hc : N ≤ c' ∧ c' ≤ 9223372036854775807)
    {k : Int} (hm : mkL l k = m) (hN : m.length = N) (hb : mkO l k = b) (hd : mkD l k = d) :
    RetRep w (mkL l k) (mkO l k) (mkD l k) 0 (.returned (.tuple #[repV A' N c' b d, .int .i64 0])) (((w4.setCell ⟨w.heap.size, 0, none⟩ (.slice A' N c')).setCell ⟨w.heap.size, 1, none⟩ (.bool b)).setCell ⟨w.heap.size, 2, none⟩ (.int .i64 d)) := by
  rw [hm, hb, hd]
  subst hN
  have n2 := own_blk_ne hO (hF.at (g := w.heap.size) List.mem_cons_self) (by decide)
  have hO5 := own_set (own_set (own_set hO ⟨w.heap.size, 0, none⟩ (.slice A' m.length c') n2) ⟨w.heap.size, 1, none⟩ (.bool b) n2) ⟨w.heap.size, 2, none⟩ (.int .i64 d) n2
  exact ⟨A', c', rfl, bs (bs (bs hF.bel (Nat.le_refl _)) (Nat.le_refl _)) (Nat.le_refl _), Reads.of_own hO5, hc.1, hc.2⟩
set_option maxRecDepth 100000 in
set_option maxHeartbeats 2000000 in
theorem rmake_ (w : World) (A : Option Addr) (c : Nat) (l : List Hit) (h : Reads w w.heap.size 2 A l.length (hits l)) (hc : l.length ≤ c ∧ c ≤ 9223372036854775807) (k : Int) :
    Calls Tryd.prog 15 #[.slice A l.length c, .int .i64 k] w (RetRep w (mkL l k) (mkO l k) (mkD l k) (mkE l k)) := by
  have hl : l.length ≤ 9223372036854775807 := Nat.le_trans hc.1 hc.2
  obtain ⟨cp, hcp⟩ : ∃ cp, cp = capK k := ⟨_, rfl⟩
  have Hcp := Lib.hid hcp
  by_cases h0 : cp = false
  · subst h0
    have hE := mkE_cap (l := l) hcp.symm
    obtain ⟨m1, m2, m3⟩ := mk_no (l := l) (k := k) (by rw [hE]; decide)
    rw [m1, m2, m3, hE]
    clear m1 m2 m3 hE hcp
    go_enter Tryd.func15, Tryd.ntmps15
    go_wp2_with fail
    (with_reducible refine (capacity_ k false Hcp _).mono ?_); rintro e w' ⟨rfl, rfl⟩
    go_wp2
    refine bodyPost_ret (v := .tuple #[repV none 0 0 false 0, .int .i64 7]) (by simp [results, go_sem]) rfl (RetRep.nil ?_ rfl rfl rfl)
    exact ba (Below.refl _ _) _
  obtain rfl : cp = true := by simpa using h0
  clear h0
  by_cases h1 : 20000 < l.length
  · have hE := mkE_long hcp.symm h1
    obtain ⟨m1, m2, m3⟩ := mk_no (l := l) (k := k) (by rw [hE]; decide)
    rw [m1, m2, m3, hE]
    clear m1 m2 m3 hE hcp
    go_enter Tryd.func15, Tryd.ntmps15
    go_wp2_with fail
    (with_reducible refine (capacity_ k true Hcp _).mono ?_); rintro e w' ⟨rfl, rfl⟩
    go_wp2
    refine bodyPost_ret (v := .tuple #[repV none 0 0 false 0, .int .i64 3]) (by simp [results, go_sem]) rfl (RetRep.nil ?_ rfl rfl rfl)
    exact ba (Below.refl _ _) _
  have hE := Lib.hid (mkE_wrg hcp.symm h1)
  have hk12 := capK_iff.1 hcp.symm
  clear hcp
  have hF0 := (Fr.start w).newN rfl (repO none 0 0 false 0)
  go_enter Tryd.func15, Tryd.ntmps15
  go_wp2_with fail
  (with_reducible refine (capacity_ k true Hcp _).mono ?_); rintro e w' ⟨rfl, rfl⟩
  go_wp2_with fail
  go_loopw [6] (fun i wr => ∃ j : Nat, j ≤ l.length ∧ i = .int .i64 j ∧ WrgRel l j ∧ Fr w [(w.heap.size, repO none 0 0 false 0)] wr) (fun i _ => l.length - (intOf i).toNat)
  case atStart => exact ⟨0, Nat.zero_le _, rfl, WrgRel.start l, hF0⟩
  case round =>
    obtain ⟨j, hj, rfl, hr, hF⟩ := hrel
    clear hF0
    by_cases hjl : j < l.length
    · have hR := h.go hF.bel
      have hd := Lib.hid (List.drop_eq_getElem_cons hjl)
      have hA : hitAt l j = l[j] := by rw [hitAt_of hd]
      have hcc := ascends_ wr A c l hR hl j hjl
      rw [hA] at hcc
      by_cases he : hitErr (prevH l j) l[j] = 0
      · have hr2 := hr.step hd he
        rw [he] at hcc
        have Hc := Lib.hid hcc
        clear hcc he hA hd hr
        go_wp2_with fail
        (with_reducible refine (Hc.out).mono ?_); rintro e w1 ⟨rfl, hb1⟩
        have hF1 := hF.go hb1
        clear hF
        go_wp2
        go_roundw
        case rel => exact ⟨j + 1, by omega, by go_num, hr2, hF1⟩
        case measure => simp [intOf]; omega
      · have hw := hr.stop hd rfl he
        have hE2 : mkE l k = hitErr (prevH l j) l[j] := by rw [hE.out, hw]
        obtain ⟨m1, m2, m3⟩ := mk_no (l := l) (k := k) (by rw [hE2]; exact he)
        rw [m1, m2, m3, hE2]
        generalize hitErr (prevH l j) l[j] = E at *
        have e2 : (E != 0) = true := by simpa using he
        have Hc := Lib.hid hcc
        clear hcc he hA hd hr m1 m2 m3 hE2 hw
        go_wp2_with fail
        (with_reducible refine (Hc.out).mono ?_); rintro e w1 ⟨rfl, hb1⟩
        have hF1 := hF.go hb1
        have hO1 := hF1.at (g := w.heap.size) List.mem_cons_self
        obtain ⟨o0, o1, o2⟩ : w1.cell? ⟨w.heap.size, 0, none⟩ = some (.slice none 0 0) ∧ w1.cell? ⟨w.heap.size, 1, none⟩ = some (.bool false) ∧ w1.cell? ⟨w.heap.size, 2, none⟩ = some (.int .i64 0) := ⟨Lib.cell_of_heap hO1 0, Lib.cell_of_heap hO1 1, Lib.cell_of_heap hO1 2⟩
        obtain ⟨f0, f1, f2⟩ : _ ∧ _ ∧ _ := ⟨Lib.frozen_of_heap hO1 0, Lib.frozen_of_heap hO1 1, Lib.frozen_of_heap hO1 2⟩
        have hB := hF1.bel
        clear hb1 hF hF1 hO1
        go_wp2
        refine bodyPost_ret (v := .tuple #[repV none 0 0 false 0, .int .i64 E]) (by simp [results, go_sem, o0, o1, o2]) rfl (RetRep.nil ?_ rfl rfl rfl)
        repeat' (first | with_reducible exact hB | with_reducible refine bs ?_ ?_ | (simp only; omega))
    · obtain rfl : j = l.length := by omega
      have hw := hr.done (Nat.le_refl _)
      have hE0 : mkE l k = 0 := by rw [hE.out, hw]
      obtain ⟨m1, m2⟩ := mk_yes hE0
      have HO := Lib.hid (show mkO l k = decide (0 < ((l.length - k.toNat : Nat) : Int)) by unfold mkO; rw [m2])
      have HE0 := Lib.hid hE0
      have M1 := Lib.hid m1
      have M2 := Lib.hid m2
      obtain ⟨K, hK⟩ : ∃ K : Nat, k = K := ⟨k.toNat, by omega⟩
      subst hK
      rw [Int.toNat_natCast] at M1 M2 HO
      obtain ⟨N, hN⟩ : ∃ N : Nat, N = min K l.length := ⟨_, rfl⟩
      obtain ⟨D, hD⟩ : ∃ D : Nat, D = l.length - N := ⟨_, rfl⟩
      have hD2 : l.length - K = D := by omega
      have hB := hF.bel
      clear hw m1 m2 hE0 hE hr
      have hNl : N ≤ l.length := by omega
      have hrlt := hF.lt (g := w.heap.size) List.mem_cons_self
      have hrd := (h.below hF.bel).alloc hF.bel.size (.cells #[] 48)
      have hrd := hrd.firsts hNl
      rw [flat2_take] at hrd
      have hown : (wr.alloc (.cells #[] 48)).ownsRow w.heap.size 48 2 (.slice (some ⟨wr.heap.size, 0, none⟩) 0 0) 0 [] :=
        ⟨rfl, .inr ⟨wr.heap.size, 0, #[], rfl, hF.bel.size, alloc1_new _ _, Nat.le_refl _, by unfold maxLen; omega, rfl, rfl⟩⟩
      have hs : ∀ W : World, (Instr.sliceAt 22 (.slice A l.length c) none (some (.int .i64 N)) none).run Tryd.prog W = .ok (.slice A N c) W :=
        fun W => sl_to htEl (by kernel_rfl) A l.length c N N rfl hNl hc.1 W
      have Hown := Lib.hid hown
      have Hrd := Lib.hid hrd
      have HF := Lib.hid (hF.al (.cells #[] 48))
      have hone := hits_one (l.take N)
      have hBa := Lib.hid (ba hB (.cells #[] 48))
      clear hrd hown h hF hB
      by_cases hlk : l.length < K
      · have e1 : N = l.length := by omega
        have e2 : D = 0 := by omega
        clear hN
        subst e1
        go_wp2_with (at_builtin; refine wpList_apr htEl (w0 := w) (by exact Hown.out) (by exact hBa.out) (by exact Hrd.out) hone ?_)
        intro v' w4 hO4 hb4 hg4
        try rw [Nat.zero_add, List.nil_append] at hO4
        obtain ⟨A4, c4, rfl, _, hcap4, hmax4⟩ := own_sl hO4
        have hF4 := Fr.grown1 HF.out hb4 hg4 (by simp [Value.ownBlock]; omega)
        have a4 := hF4.at (g := w.heap.size) List.mem_cons_self
        obtain ⟨f0, f1, f2⟩ : w4.frozen? ⟨w.heap.size, 0, none⟩ = false ∧ w4.frozen? ⟨w.heap.size, 1, none⟩ = false ∧ w4.frozen? ⟨w.heap.size, 2, none⟩ = false := ⟨Lib.frozen_of_heap a4 0, Lib.frozen_of_heap a4 1, Lib.frozen_of_heap a4 2⟩
        obtain ⟨o0, o1, o2⟩ : w4.cell? ⟨w.heap.size, 0, none⟩ = some (.slice none 0 0) ∧ w4.cell? ⟨w.heap.size, 1, none⟩ = some (.bool false) ∧ w4.cell? ⟨w.heap.size, 2, none⟩ = some (.int .i64 0) := ⟨Lib.cell_of_heap a4 0, Lib.cell_of_heap a4 1, Lib.cell_of_heap a4 2⟩
        have hlt4 := heap_lt a4
        have HO4 := Lib.hid hO4
        have HF4 := Lib.hid hF4
        clear hO4 hb4 hg4 hF4 a4 hs Hrd HF hBa hone Hown
        go_wp2
        have hx := rep_fin HO4.out HF4.out ⟨hcap4, hmax4⟩ (k := (K : Int)) (by rw [M1.out]; exact List.take_of_length_le (by omega)) rfl (b := false) (d := 0) (by rw [HO.out, hD2]; subst e2; rfl) (by rw [M2.out, hD2]; subst e2; rfl)
        exact bodyPost_ret (v := .tuple #[repV A4 l.length c4 false 0, .int .i64 0]) (by simp [results, go_sem, o0, o1, o2, hlt4]) rfl (by rw [HE0.out]; exact hx)
      · have e1 : N = K := by omega
        have e2 : (D : Int) = l.length - K := by omega
        have e3 : ¬ (l.length < K) := hlk
        clear hN
        subst e1
        go_wp2_with (at_builtin; refine wpList_apr htEl (w0 := w) (by exact Hown.out) (by exact hBa.out) (by exact Hrd.out) hone ?_)
        intro v' w4 hO4 hb4 hg4
        try rw [Nat.zero_add, List.nil_append] at hO4
        obtain ⟨A4, c4, rfl, _, hcap4, hmax4⟩ := own_sl hO4
        have hF4 := Fr.grown1 HF.out hb4 hg4 (by simp [Value.ownBlock]; omega)
        have a4 := hF4.at (g := w.heap.size) List.mem_cons_self
        obtain ⟨f0, f1, f2⟩ : w4.frozen? ⟨w.heap.size, 0, none⟩ = false ∧ w4.frozen? ⟨w.heap.size, 1, none⟩ = false ∧ w4.frozen? ⟨w.heap.size, 2, none⟩ = false := ⟨Lib.frozen_of_heap a4 0, Lib.frozen_of_heap a4 1, Lib.frozen_of_heap a4 2⟩
        obtain ⟨o0, o1, o2⟩ : w4.cell? ⟨w.heap.size, 0, none⟩ = some (.slice none 0 0) ∧ w4.cell? ⟨w.heap.size, 1, none⟩ = some (.bool false) ∧ w4.cell? ⟨w.heap.size, 2, none⟩ = some (.int .i64 0) := ⟨Lib.cell_of_heap a4 0, Lib.cell_of_heap a4 1, Lib.cell_of_heap a4 2⟩
        have hlt4 := heap_lt a4
        have HO4 := Lib.hid hO4
        have HF4 := Lib.hid hF4
        clear hO4 hb4 hg4 hF4 a4 hs Hrd HF hBa hone Hown
        go_wp2
        have hx := rep_fin HO4.out HF4.out ⟨hcap4, hmax4⟩ (k := (N : Int)) (by rw [M1.out]) (by rw [List.length_take]; omega) (b := decide (N < l.length)) (d := (l.length : Int) - N) (by rw [HO.out, hD2]; exact decide_eq_decide.2 (by omega)) (by rw [M2.out, hD2]; exact e2)
        exact bodyPost_ret (v := .tuple #[repV A4 N c4 (decide (N < l.length)) ((l.length : Int) - N), .int .i64 0]) (by simp [results, go_sem, o0, o1, o2]) rfl (by rw [HE0.out]; exact hx)
end Go.Proofs.YtokcbdaoofjbgaaDoor
