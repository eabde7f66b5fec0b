/- ReportChecks: Size and Check answer as the document says. -/
import Derived.Test.YtokcbdaoofjbgaaDoorR10
namespace Go.Proofs.YtokcbdaoofjbgaaDoor
open Go.RowKit
set_option maxRecDepth 100000 in
set_option maxHeartbeats 2000000 in
theorem reportChecks_walk (w : World) (A : Option Addr) (c : Nat) (l : List Hit) (o : Bool) (d : Int) (h : Reads w w.heap.size 2 A l.length (hits l)) (hc : l.length ≤ c ∧ c ≤ 9223372036854775807) (_hd : -9223372036854775808 ≤ d ∧ d ≤ 9223372036854775807) (k : Int) (_hk : (Lit.int .i64 k).wf = true) (hP : Pow w) :
    Calls Tryd.prog 3 #[repV A l.length c o d, .int .i64 k] w fun e w' => e = .returned (.bool true) ∧ Below w.heap.size w w' := by
  have hl : l.length ≤ 9223372036854775807 := Nat.le_trans hc.1 hc.2
  clear hc
  have HP := Lib.hid hP
  have hF := (Fr.start w).newN rfl (repO A l.length c o d)
  have hc1 := check_ (w.alloc (repO A l.length c o d)) A c l (h.al _) hl o d k
  have HR := Lib.hid h
  generalize hq : chkR l o d k = q at *
  obtain ⟨I, E⟩ := q
  have Hq := Lib.hid hq
  generalize hsI : sizeI k = SI
  generalize hsE : sizeE k = SE
  have H1 := Lib.hid hsI
  have H2 := Lib.hid hsE
  have Hc1 := Lib.hid hc1
  have hO := hF.at (g := w.heap.size) List.mem_cons_self
  have c0 := Lib.cell_of_heap hO 0
  have c1 := Lib.cell_of_heap hO 1
  have c2 := Lib.cell_of_heap hO 2
  have HF := Lib.hid hF
  clear hP hF hc1 h hq hsI hsE hO
  by_cases h100 : 100 < l.length
  · have hi : (100 : Int) < (l.length : Int) := by omega
    go_enter Tryd.func3, Tryd.ntmps3
    go_wp2_with fail
    (with_reducible refine (shown_ _ (by exact HP.out.below HF.out.bel)).mono ?_); rintro e w1 ⟨rfl, hb1⟩
    have hB := (HF.out.go hb1).bel
    go_wp2
    go_ret
    exact ⟨rfl, hB⟩
  · have hi : ¬ ((100 : Int) < (l.length : Int)) := by omega
    go_enter Tryd.func3, Tryd.ntmps3
    go_wp2_with fail
    (with_reducible refine (size_ k _).mono ?_); rintro e w1 ⟨rfl, rfl⟩
    rw [H1.out, H2.out]
    go_wp2_with fail
    (with_reducible refine (rsize_ k _).mono ?_); rintro e w1 ⟨rfl, rfl⟩
    rw [H1.out, H2.out]
    go_wp2_with fail
    (with_reducible refine (Hc1.out).mono ?_); rintro e w1 ⟨rfl, hb1⟩
    have hF1 := HF.out.go hb1
    have hO := hF1.at (g := w.heap.size) List.mem_cons_self
    have k0 := Lib.cell_of_heap hO 0
    have k1 := Lib.cell_of_heap hO 1
    have k2 := Lib.cell_of_heap hO 2
    have hc2 := rcheck_ w1 A c l (HR.out.go hF1.bel) hl o d k
    rw [Hq.out] at hc2
    have Hc2 := Lib.hid hc2
    have HF1 := Lib.hid hF1
    clear c0 c1 c2 hb1 hO hc2 hF1
    go_wp2_with fail
    (with_reducible refine (Hc2.out).mono ?_); rintro e w2 ⟨rfl, hb2⟩
    have HF2 := Lib.hid (HF1.out.go hb2)
    clear k0 k1 k2 hb2
    go_wp2_with fail
    (with_reducible refine (shown_ _ (by exact HP.out.below HF2.out.bel)).mono ?_); rintro e w3 ⟨rfl, hb3⟩
    have hB := (HF2.out.go hb3).bel
    go_wp2
    go_ret
    exact ⟨rfl, hB⟩
end Go.Proofs.YtokcbdaoofjbgaaDoor
