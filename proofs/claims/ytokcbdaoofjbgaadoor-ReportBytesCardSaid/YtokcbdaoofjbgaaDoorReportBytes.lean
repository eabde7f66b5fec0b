/- ReportBytes: Encode and Decode answer as the document says. -/
import Derived.Test.YtokcbdaoofjbgaaDoorR20
import Derived.Test.YtokcbdaoofjbgaaDoorR21
import Derived.Test.YtokcbdaoofjbgaaDoorR10
namespace Go.Proofs.YtokcbdaoofjbgaaDoor
open Go.RowKit
def toB (L : List Int) : List UInt8 := L.map fun x => UInt8.ofNat x.toNat
theorem u8s_toB {L : List Int} (h : Bytes L) : u8s L = (toB L).map fun b => Value.int .u8 (b.toNat : Int) := by
  unfold toB
  rw [List.map_map]
  refine List.map_congr_left fun x hx => ?_
  obtain ⟨h0, h1⟩ := h x hx
  have : (UInt8.ofNat x.toNat).toNat = x.toNat := by rw [UInt8.toNat_ofNat']; omega
  simp only [Function.comp, this]
  congr 1
  omega
theorem encR_bytes (l : List Hit) (o : Bool) (d k : Int) : Bytes (encR l o d k) := by
  unfold encR
  by_cases h : encE l o d k = 0
  · rw [if_pos h]; exact encL_bytes _ _ _ _
  · rw [if_neg h]; intro x hx; cases hx
theorem conv_u8s {w : World} {Bk n c : Nat} {A : Option Addr} {L : List Int} (h : Reads w Bk 1 A n (u8s L)) (hx : Bytes L) :
    (convert 41 9 (.slice A n c)).run Tryd.prog w = .ok (.string ⟨(toB L).toArray⟩) w := by
  rw [u8s_toB hx] at h
  exact run_conv Tryd.underlying41 Tryd.underlying5 Tryd.underlying9 h
set_option maxRecDepth 100000 in
set_option maxHeartbeats 2000000 in
theorem reportBytes_walk (w : World) (A : Option Addr) (c : Nat) (l : List Hit) (o : Bool) (d : Int) (h : Reads w w.heap.size 2 A l.length (hits l)) (hc : l.length ≤ c ∧ c ≤ 9223372036854775807) (_hd : -9223372036854775808 ≤ d ∧ d ≤ 9223372036854775807)
    (A' : Option Addr) (c' : Nat) (B : List Int) (h' : Reads w w.heap.size 1 A' B.length (u8s B)) (hx : ∀ x ∈ B, (0 : Int) ≤ x ∧ x ≤ 255) (hc' : B.length ≤ c' ∧ c' ≤ 9223372036854775807) (k : Int) (_hk : (Lit.int .i64 k).wf = true) (hP : Pow w) :
    Calls Tryd.prog 6 #[repV A l.length c o d, .slice A' B.length c', .int .i64 k] w fun e w' => e = .returned (.bool true) ∧ Below w.heap.size w w' := by
  have hl : l.length ≤ 9223372036854775807 := Nat.le_trans hc.1 hc.2
  have HP := Lib.hid hP
  have hF := (Fr.start w).newN rfl (repO A l.length c o d)
  have He1 := Lib.hid (fun w1 (hb : Below w.heap.size w w1) => encode_any w1 A c l (h.go hb) hl o d k)
  have He2 := Lib.hid (fun w1 (hb : Below w.heap.size w w1) => rencode_any w1 A c l (h.go hb) hl o d k)
  have He3 := Lib.hid (fun w1 (hb : Below w.heap.size w w1) => decode_any w1 A' c' B (h'.go hb) hx hc' k)
  have He4 := Lib.hid (fun w1 (hb : Below w.heap.size w w1) => rdecode_any w1 A' c' B (h'.go hb) hx hc' k)
  have hO := hF.at (g := w.heap.size) List.mem_cons_self
  have c0 := Lib.cell_of_heap hO 0
  have c1 := Lib.cell_of_heap hO 1
  have c2 := Lib.cell_of_heap hO 2
  have HF := Lib.hid hF
  have hBl : B.length ≤ 9223372036854775807 := Nat.le_trans hc'.1 hc'.2
  clear hP hF h h' hO hx hc hc'
  by_cases h100 : 100 < l.length
  · go_enter Tryd.func6, Tryd.ntmps6
    go_wp2_with fail
    (with_reducible refine (shown_ _ (by exact HP.out.below HF.out.bel)).mono ?_); rintro e w1 ⟨rfl, hb1⟩
    have hB := (HF.out.go hb1).bel
    go_wp2
    go_ret
    exact ⟨rfl, hB⟩
  by_cases h300 : 300 < B.length
  · go_enter Tryd.func6, Tryd.ntmps6
    go_wp2_with fail
    (with_reducible refine (shown_ _ (by exact HP.out.below HF.out.bel)).mono ?_); rintro e w1 ⟨rfl, hb1⟩
    have hB := (HF.out.go hb1).bel
    go_wp2
    go_ret
    exact ⟨rfl, hB⟩
  go_enter Tryd.func6, Tryd.ntmps6
  go_wp2_with fail
  (with_reducible refine (He1.out _ HF.out.bel).mono ?_); rintro e w1 ⟨A1, c1', rfl, hb1, hr1, _, _⟩
  have HF1 := Lib.hid (HF.out.go hb1)
  have HR1 := Lib.hid hr1
  clear c0 c1 c2 hb1 hr1 He1 HF
  have c0 := Lib.cell_of_heap (HF1.out.at (g := w.heap.size) List.mem_cons_self) 0
  have c1 := Lib.cell_of_heap (HF1.out.at (g := w.heap.size) List.mem_cons_self) 1
  have c2 := Lib.cell_of_heap (HF1.out.at (g := w.heap.size) List.mem_cons_self) 2
  go_wp2_with fail
  (with_reducible refine (He2.out _ HF1.out.bel).mono ?_); rintro e w2 ⟨A2, c2', rfl, hb2, hr2, _, _⟩
  have HF2 := Lib.hid (HF1.out.go hb2)
  have HR1 := Lib.hid (HR1.out.go hb2)
  have HR2 := Lib.hid hr2
  clear c0 c1 c2 hb2 hr2 He2 HF1
  go_wp2_with fail
  (with_reducible refine (He3.out _ HF2.out.bel).mono ?_); rintro e w3 ⟨A3, c3, rfl, hb3, hr3, hl3, hm3⟩
  have HF3 := Lib.hid ((HF2.out.go hb3).new (repO A3 (decR B k).l.length c3 (decR B k).o (decR B k).d))
  have HR1 := Lib.hid ((HR1.out.go hb3).al (repO A3 (decR B k).l.length c3 (decR B k).o (decR B k).d))
  have HR2 := Lib.hid ((HR2.out.go hb3).al (repO A3 (decR B k).l.length c3 (decR B k).o (decR B k).d))
  have HR3 := Lib.hid (hr3.al (repO A3 (decR B k).l.length c3 (decR B k).o (decR B k).d))
  have hl3' : (decR B k).l.length ≤ 9223372036854775807 := Nat.le_trans hl3 hm3
  clear hb3 hr3 He3 HF2 hl3 hm3
  go_wp2_with fail
  (with_reducible refine (He4.out _ HF3.out.bel).mono ?_); rintro e w4 ⟨A4, c4, rfl, hb4, hr4, _, _⟩
  have HF4 := Lib.hid ((HF3.out.go hb4).new (repO A4 (decR B k).l.length c4 (decR B k).o (decR B k).d))
  have HR1 := Lib.hid ((HR1.out.go hb4).al (repO A4 (decR B k).l.length c4 (decR B k).o (decR B k).d))
  have HR2 := Lib.hid ((HR2.out.go hb4).al (repO A4 (decR B k).l.length c4 (decR B k).o (decR B k).d))
  have HR3 := Lib.hid ((HR3.out.go hb4).al (repO A4 (decR B k).l.length c4 (decR B k).o (decR B k).d))
  have HR4 := Lib.hid (hr4.al (repO A4 (decR B k).l.length c4 (decR B k).o (decR B k).d))
  clear hb4 hr4 He4 HF3
  have g1 := HF4.out.at (List.mem_cons_of_mem _ List.mem_cons_self)
  have g2 := HF4.out.at List.mem_cons_self
  have k10 := Lib.cell_of_heap g1 0
  have k11 := Lib.cell_of_heap g1 1
  have k12 := Lib.cell_of_heap g1 2
  have k20 := Lib.cell_of_heap g2 0
  have k21 := Lib.cell_of_heap g2 1
  have k22 := Lib.cell_of_heap g2 2
  have hv1 := conv_u8s (c := c1') HR1.out (encR_bytes l o d k)
  have hv2 := conv_u8s (c := c2') HR2.out (encR_bytes l o d k)
  have Heq := Lib.hid (equal_ _ A3 A4 c3 c4 (decR B k).l (decR B k).l HR3.out HR4.out hl3' (decR B k).o (decR B k).o (decR B k).d (decR B k).d true (Lib.hid (by simp [eqR])))
  clear g1 g2 HR1 HR2 HR3 HR4
  generalize (decR B k).o = O at *
  generalize (decR B k).d = D at *
  generalize (decR B k).l.length = N at *
  go_wp2_with fail
  (with_reducible refine (Heq.out).mono ?_); rintro e w5 ⟨rfl, hb5⟩
  have HF5 := Lib.hid (HF4.out.go hb5)
  clear hb5 HF4 k10 k11 k12 k20 k21 k22 hv1 hv2
  go_wp2_with fail
  (with_reducible refine (shown_ _ (by exact HP.out.below HF5.out.bel)).mono ?_); rintro e w6 ⟨rfl, hb6⟩
  have hB := (HF5.out.go hb6).bel
  go_wp2
  go_ret
  exact ⟨rfl, hB⟩
end Go.Proofs.YtokcbdaoofjbgaaDoor
