/- Reports: Make of the program, where there is one. -/
import Derived.Test.YtaainkjgnljihaaGreatDoorR5
namespace Go.Proofs.YtaainkjgnljihaaGreatDoor
open Go.RowKit
/-- the loop of Make: the report lies in block g, its hits are the call's own -/
structure MkS (w : World) (g : Nat) (l : List Hit) (K i : Nat) (A : Option Addr) (c : Nat) (w' : World) : Prop where
  fr : Fr w [(g, repO A (min i K) c false ((i - K : Nat) : Int)), (w.heap.size, repO none 0 0 false 0)] w'
  own : w'.ownsRow w.heap.size 34 2 (.slice A (min i K) c) (min i K) (hits (l.take (min i K)))
  lt : w.heap.size < g
theorem MkS.cells {w w1 : World} {g K i c : Nat} {l : List Hit} {A : Option Addr} (h : MkS w g l K i A c w1) :
    w1.cell? ⟨g, 0, none⟩ = some (.slice A (min i K) c) ∧ w1.cell? ⟨g, 1, none⟩ = some (.bool false) ∧ w1.cell? ⟨g, 2, none⟩ = some (.int .i64 ((i - K : Nat) : Int)) ∧ w1.frozen? ⟨g, 0, none⟩ = false ∧ w1.frozen? ⟨g, 1, none⟩ = false ∧ w1.frozen? ⟨g, 2, none⟩ = false ∧ g < w1.heap.size :=
  have a := h.fr.at (g := g) List.mem_cons_self
  ⟨Lib.cell_of_heap a 0, Lib.cell_of_heap a 1, Lib.cell_of_heap a 2, Lib.frozen_of_heap a 0, Lib.frozen_of_heap a 1, Lib.frozen_of_heap a 2, heap_lt a⟩
/-- what comes back: a report whose hits are a row of the call's own -/
def RetRepO (w : World) (l : List Hit) (o : Bool) (d err : Int) (e : Ending) (w' : World) : Prop :=
  ∃ A c, e = .returned (.tuple #[repV A l.length c o d, .int .i64 err]) ∧ Below w.heap.size w w' ∧ w'.ownsRow w.heap.size 34 2 (.slice A l.length c) l.length (hits l) ∧ l.length ≤ c ∧ c ≤ 9223372036854775807
theorem RetRepO.ret {w w' : World} {l : List Hit} {o : Bool} {d err : Int} {e : Ending} (h : RetRepO w l o d err e w') : RetRep w l o d err e w' := by
  obtain ⟨A, c, he, hb, ho, h1, h2⟩ := h
  exact ⟨A, c, he, hb, Reads.of_own ho, h1, h2⟩
set_option maxRecDepth 100000 in
set_option maxHeartbeats 2000000 in
theorem make_yesO (w : World) (A : Option Addr) (c : Nat) (l : List Hit) (h : Reads w w.heap.size 2 A l.length (hits l)) (k : Int) (hk : mkE l k = 0) :
    Calls Tryz.prog 11 #[.slice A l.length c, .int .i64 k] w (RetRepO w (mkL l k) (mkO l k) (mkD l k) (mkE l k)) := by
  have hcp : capK k = true := by
    cases hc : capK k with
    | true => rfl
    | false => unfold mkE at hk; rw [if_pos hc] at hk; cases hk
  have hl : l.length ≤ 20000 := by
    unfold mkE at hk
    rw [hcp, if_neg (by decide)] at hk
    by_cases h2 : 20000 < l.length
    · rw [if_pos h2] at hk; cases hk
    · omega
  have hw0 : (wrg l).2 = 0 := by
    unfold mkE at hk
    rw [hcp, if_neg (by decide), if_neg (by omega)] at hk
    exact hk
  obtain ⟨hk1, hk2⟩ := capK_iff.1 hcp
  obtain ⟨m1, m2⟩ := mk_yes hk
  have HO := Lib.hid (show mkO l k = decide (0 < ((l.length - k.toNat : Nat) : Int)) by unfold mkO; rw [m2])
  rw [hk]
  have M1 := Lib.hid m1
  have M2 := Lib.hid m2
  have Hcp := Lib.hid hcp.symm
  clear m1 m2 hk hcp
  obtain ⟨K, hK⟩ : ∃ K : Nat, k = K := ⟨k.toNat, by omega⟩
  subst hK
  rw [Int.toNat_natCast] at M1 M2 HO
  have hwr := wrong_ (w.alloc (repO none 0 0 false 0)) A c l (h.al _) (by omega)
  rw [hw0] at hwr
  have Hwr := Lib.hid hwr
  clear hwr hw0
  have HR := Lib.hid h
  clear h
  go_enter Tryz.func11, Tryz.ntmps11
  go_wp2_with fail
  (with_reducible refine (fits_ K true Hcp _).mono ?_); rintro e w' ⟨rfl, rfl⟩
  go_wp2_with fail
  (with_reducible refine (Hwr.out).mono ?_); rintro e w1 ⟨rfl, hb1⟩
  have hF := ((Fr.start w).newN rfl (repO none 0 0 false 0)).go hb1
  have hlt := hF.lt (g := w.heap.size) List.mem_cons_self
  have hF2 := hF.newN rfl (repO none 0 0 false 0)
  have hS0 : MkS w w1.heap.size l K 0 none 0 (w1.alloc (repO none 0 0 false 0)) := ⟨by rw [Nat.zero_min, Nat.zero_sub]; exact hF2, by rw [Nat.zero_min]; exact World.ownsRow_nil _ _ _ _, hlt⟩
  clear hb1 hF hF2
  go_wp2_with fail
  generalize w1.heap.size = g at *
  generalize w1.alloc (repO none 0 0 false 0) = w2 at *
  clear hlt
  go_loopw [32] (fun i wr => ∃ (j : Nat) (A' : Option Addr) (c' : Nat), j ≤ l.length ∧ i = .int .i64 j ∧ MkS w g l K j A' c' wr) (fun i _ => l.length - (intOf i).toNat)
  case atStart => exact ⟨0, none, 0, Nat.zero_le _, rfl, hS0⟩
  case round =>
    obtain ⟨j, A', c', hj, rfl, hS⟩ := hrel
    clear hS0
    obtain ⟨c0, c1, c2, f0, f1, f2, hg⟩ := hS.cells
    by_cases hjl : j < l.length
    · obtain ⟨b, off, E, I, rfl, hb, d1, d2, hd⟩ := htAt (HR.out.below hS.fr.bel) hjl
      have hbw : b < wr.heap.size := Nat.lt_of_lt_of_le hb hS.fr.bel.size
      by_cases hjk : j < K
      · have e1 : min j K = j := by omega
        have e3 : j - K = 0 := by omega
        have hfr := hS.fr
        have hown := hS.own
        rw [e1, e3] at hfr
        rw [e1] at hown c0
        rw [e3] at c2
        have hne := own_blk_ne hown (hfr.at (g := g) List.mem_cons_self) (by decide)
        have hne0 := own_blk_ne hown (hfr.at (g := w.heap.size) (o := repO none 0 0 false 0) (by simp)) (by decide)
        go_wp2_with (at_builtin; refine wpList_ap htEl (w0 := w) ((hown.alloc _).alloc _) (ba (ba hfr.bel _) _) [.int .i64 E, .int .i64 I] (by exact alloc2_new _ _ _) ?_)
        intro g4 cap4 w4 hO4 hb4 hg4
        have hF4 := Fr.grown ((hfr.al _).al _) hb4 hg4 (by
          intro p hp
          rcases List.mem_cons.1 hp with rfl | hp
          · exact hne
          · rcases List.mem_cons.1 hp with rfl | hp
            · exact hne0
            · cases hp)
        have hO5 : w4.ownsRow w.heap.size 34 2 (.slice (some ⟨g4, 0, none⟩) (j + 1) cap4) (j + 1) (hits (l.take (j + 1))) := by
          rw [take_of_drop hd.out, hits_app]; exact hO4
        have hne4 := own_blk_ne hO5 (hF4.at (g := g) List.mem_cons_self) (by decide)
        have a4 := hF4.at (g := g) List.mem_cons_self
        have q0 : w4.cell? ⟨g, 0, none⟩ = some (.slice A' j c') := Lib.cell_of_heap a4 0
        have q1 : w4.frozen? ⟨g, 0, none⟩ = false := Lib.frozen_of_heap a4 0
        have hF5 := hF4.set (Nat.le_of_lt hS.lt) (by
          intro p hp
          rcases List.mem_cons.1 hp with rfl | hp
          · have := hS.lt; simp only; omega
          · cases hp) 0 (.slice (some ⟨g4, 0, none⟩) (j + 1) cap4)
        have hO6 := own_set hO5 ⟨g, 0, none⟩ (.slice (some ⟨g4, 0, none⟩) (j + 1) cap4) hne4
        have hS6 : MkS w g l K (j + 1) (some ⟨g4, 0, none⟩) cap4 (w4.setCell ⟨g, 0, none⟩ (.slice (some ⟨g4, 0, none⟩) (j + 1) cap4)) := by
          refine ⟨?_, ?_, hS.lt⟩
          · rw [show min (j + 1) K = j + 1 by omega, show j + 1 - K = 0 by omega]; exact hF5
          · rw [show min (j + 1) K = j + 1 by omega]; exact hO6
        clear hO4 hb4 hg4 hF4 hO5 hne4 a4 hF5 hO6 hown hfr hne hne0 hS c0 c1 c2 f0 f1 f2 d1 d2 hd
        go_wp2
        go_roundw
        case rel => exact ⟨j + 1, _, _, by omega, by go_num, hS6⟩
        case measure => simp [intOf]; omega
      · have e1 : min j K = K := by omega
        have e4 : ((j - K : Nat) : Int) = (j : Int) - K := by omega
        have hfr := hS.fr
        have hown := hS.own
        rw [e1] at hfr hown c0
        have hF2 := hfr
        have hF5 := (hF2.set (Nat.le_of_lt hS.lt) (by
          intro p hp
          rcases List.mem_cons.1 hp with rfl | hp
          · have := hS.lt; simp only; omega
          · cases hp) 2 (.int .i64 (((j - K : Nat) : Int) + 1))).al (.cells #[.int .i64 E, .int .i64 I] 34 (0, 0))
        have hO6 := (own_set hown ⟨g, 2, none⟩ (.int .i64 (((j - K : Nat) : Int) + 1)) (own_blk_ne hown (hfr.at (g := g) List.mem_cons_self) (by decide))).alloc (.cells #[.int .i64 E, .int .i64 I] 34 (0, 0))
        have hS6 : MkS w g l K (j + 1) A' c' ((wr.setCell ⟨g, 2, none⟩ (.int .i64 (((j - K : Nat) : Int) + 1))).alloc (.cells #[.int .i64 E, .int .i64 I] 34 (0, 0))) := by
          refine ⟨?_, ?_, hS.lt⟩
          · rw [show min (j + 1) K = K by omega, show ((j + 1 - K : Nat) : Int) = ((j - K : Nat) : Int) + 1 by omega]; exact hF5
          · rw [show min (j + 1) K = K by omega]; exact hO6
        generalize hD : ((j - K : Nat) : Int) = D at *
        have hD1 : 0 ≤ D := by omega
        have hD2 : D < 65535 := by omega
        have hKj : K ≤ j := by omega
        clear hD e4 hF2 hF5 hO6 hown hfr hS hd e1 hjk
        go_wp2
        go_roundw
        case rel => exact ⟨j + 1, _, _, by omega, by go_num, hS6⟩
        case measure => simp [intOf]; omega
    · obtain rfl : j = l.length := by omega
      have hown := hS.own
      have hfr := hS.fr
      have hgl := hS.lt
      obtain ⟨z0, z1, z2⟩ : wr.cell? ⟨w.heap.size, 0, none⟩ = some (.slice none 0 0) ∧ wr.cell? ⟨w.heap.size, 1, none⟩ = some (.bool false) ∧ wr.cell? ⟨w.heap.size, 2, none⟩ = some (.int .i64 0) := ⟨Lib.cell_of_heap (hfr.at (g := w.heap.size) (o := repO none 0 0 false 0) (by simp)) 0, Lib.cell_of_heap (hfr.at (g := w.heap.size) (o := repO none 0 0 false 0) (by simp)) 1, Lib.cell_of_heap (hfr.at (g := w.heap.size) (o := repO none 0 0 false 0) (by simp)) 2⟩
      obtain ⟨y0, y1, y2⟩ : wr.frozen? ⟨w.heap.size, 0, none⟩ = false ∧ wr.frozen? ⟨w.heap.size, 1, none⟩ = false ∧ wr.frozen? ⟨w.heap.size, 2, none⟩ = false := ⟨Lib.frozen_of_heap (hfr.at (g := w.heap.size) (o := repO none 0 0 false 0) (by simp)) 0, Lib.frozen_of_heap (hfr.at (g := w.heap.size) (o := repO none 0 0 false 0) (by simp)) 1, Lib.frozen_of_heap (hfr.at (g := w.heap.size) (o := repO none 0 0 false 0) (by simp)) 2⟩
      have hBl := hfr.bel
      obtain ⟨A2, c2_, he, hrd, hcap, hcm⟩ := own_sl hown
      injection he with he1 he2 he3
      subst he1 he3
      have hlen : (l.take K).length = min l.length K := by rw [List.length_take]; omega
      have Hrd := Lib.hid (show Reads wr wr.heap.size 2 A' (min l.length K) (hits (l.take K)) by
        have : l.take (min l.length K) = l.take K := by
          rcases Nat.le_total l.length K with hh | hh
          · rw [Nat.min_eq_left hh, List.take_length, List.take_of_length_le hh]
          · rw [Nat.min_eq_right hh]
        rw [← this]; exact hrd)
      have Hown := Lib.hid hown
      have Hfr := Lib.hid hfr
      have Hlen := Lib.hid hlen
      generalize hD : ((l.length - K : Nat) : Int) = D at *
      have HD := Lib.hid hD
      have hne : (w.heap.size : Nat) ≠ g := by omega
      clear hown hfr hS hrd hlen hD
      go_wp2
      refine bodyPost_ret (v := .tuple #[repV A' (min l.length K) c' (decide (0 < D)) D, .int .i64 0]) (by simp [results, go_sem, z0, z1, z2]) rfl ?_
      have n1 := own_blk_ne Hown.out (Hfr.out.at (g := g) List.mem_cons_self) (by decide)
      have n2 := own_blk_ne Hown.out (Hfr.out.at (g := w.heap.size) (o := repO none 0 0 false 0) (by simp)) (by decide)
      have hO5 := own_set (own_set (own_set (own_set Hown.out ⟨g, 1, none⟩ (.bool (decide (0 < D))) n1) ⟨w.heap.size, 0, none⟩ (.slice A' (min l.length K) c') n2) ⟨w.heap.size, 1, none⟩ (.bool (decide (0 < D))) n2) ⟨w.heap.size, 2, none⟩ (.int .i64 D) n2
      have hB5 : Below w.heap.size w ((((wr.setCell ⟨g, 1, none⟩ (.bool (decide (0 < D)))).setCell ⟨w.heap.size, 0, none⟩ (.slice A' (min l.length K) c')).setCell ⟨w.heap.size, 1, none⟩ (.bool (decide (0 < D)))).setCell ⟨w.heap.size, 2, none⟩ (.int .i64 D)) :=
        bs (bs (bs (bs hBl (by simp only; omega)) (by simp only; omega)) (by simp only; omega)) (by simp only; omega)
      have hr5 := hO5
      have hx : l.take (min l.length K) = l.take K := by
        rcases Nat.le_total l.length K with hh | hh
        · rw [Nat.min_eq_left hh, List.take_length, List.take_of_length_le hh]
        · rw [Nat.min_eq_right hh]
      rw [hx] at hr5
      refine ⟨A', c', ?_, hB5, ?_, ?_, hcm⟩
      · rw [M1.out, M2.out, HO.out, Hlen.out]
      · rw [M1.out, Hlen.out]; exact hr5
      · rw [M1.out, Hlen.out]; exact hcap
theorem make_yes (w : World) (A : Option Addr) (c : Nat) (l : List Hit) (h : Reads w w.heap.size 2 A l.length (hits l)) (k : Int) (hk : mkE l k = 0) :
    Calls Tryz.prog 11 #[.slice A l.length c, .int .i64 k] w (RetRep w (mkL l k) (mkO l k) (mkD l k) (mkE l k)) :=
  (make_yesO w A c l h k hk).mono fun _ _ h => h.ret
theorem make_any (w : World) (A : Option Addr) (c : Nat) (l : List Hit) (h : Reads w w.heap.size 2 A l.length (hits l)) (hl : l.length ≤ 9223372036854775807) (k : Int) :
    Calls Tryz.prog 11 #[.slice A l.length c, .int .i64 k] w (RetRep w (mkL l k) (mkO l k) (mkD l k) (mkE l k)) := by
  by_cases hk : mkE l k = 0
  · exact make_yes w A c l h k hk
  · exact make_no w A c l h hl k hk
end Go.Proofs.YtaainkjgnljihaaGreatDoor
