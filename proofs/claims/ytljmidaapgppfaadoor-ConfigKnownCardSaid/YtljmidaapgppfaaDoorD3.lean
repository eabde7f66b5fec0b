/- Configurations' texts: Print of both. No condition. -/
import Derived.Test.YtljmidaapgppfaaDoorD1
import Derived.Test.YtljmidaapgppfaaDoorC11
import Derived.Test.YtljmidaapgppfaaDoorN16
namespace Go.Proofs.YtljmidaapgppfaaDoor
open Go.RowKit
theorem txtC_dat (b k l : Int) : (txtC b k l).data.toList = txC b k l := by
  unfold txtC txC kwB kwK kwL
  simp only [ByteArray.data_append, Array.toList_append]
  show ([98, 108, 111, 99, 107, 32] : List UInt8) ++ dgL b ++ [32, 107, 101, 101, 112, 32] ++ dgL k ++ [32, 108, 105, 109, 105, 116, 32] ++ dgL l = _
  simp
def prS (b k l : Int) : ByteArray := if OkC b k l then txtC b k l else ⟨#[]⟩
theorem prS_yes {b k l : Int} (h : OkC b k l) : prS b k l = txtC b k l := if_pos h
theorem prS_no {b k l : Int} (h : ¬ OkC b k l) : prS b k l = ⟨#[]⟩ := if_neg h
theorem cprint_any (b k l : Int) (w : World) (hP : Pow w) :
    Calls Tryd.prog 6 #[cfV b k l] w fun e w' => e = .returned (.tuple #[.string (prS b k l), .int .i64 (errC b k l)]) ∧ Below w.heap.size w w' := by
  by_cases h : OkC b k l
  · rw [prS_yes h, errC_yes h]; exact cprint_yes b k l h w hP
  · rw [prS_no h]
    have H1 := Lib.hid (errC_no h)
    clear h
    rw [H1.out]
    go_enter Tryd.func6, Tryd.ntmps6
    go_wp2_with fail
    (with_reducible refine (ccheck b k l _).mono ?_); rintro e w1 ⟨rfl, hw1⟩
    rw [H1.out]
    have hB := ((Fr.start w).newN rfl (cfO b k l)).go hw1
    go_wp2
    go_ret2
    exact ⟨rfl, hB.bel⟩
theorem rdN (n : Int) (x : ByteArray) (hx : Hid (x = Dg n)) (h0 : 0 ≤ n) (h1 : n ≤ 9223372036854775807) (w : World) :
    Calls Tryd.prog 20 #[.int .i64 n] w fun e w' => e = .returned (.string x) ∧ Below w.heap.size w w' := by
  rw [hx.out]
  obtain ⟨N, rfl⟩ : ∃ N : Nat, n = N := ⟨n.toNat, by omega⟩
  exact rdig_pos N (by omega) w
abbrev CfQ (w : World) (b k l : Int) (w' : World) : Prop :=
  Fr w [(w.heap.size, cfO b k l)] w' ∧ w'.cell? ⟨w.heap.size, 0, none⟩ = some (.int .i64 b) ∧ w'.cell? ⟨w.heap.size, 1, none⟩ = some (.int .i64 k) ∧ w'.cell? ⟨w.heap.size, 2, none⟩ = some (.int .i64 l)
section
variable {w w1 w2 : World} {b k l : Int}
theorem CfQ.of (h : Fr w [(w.heap.size, cfO b k l)] w1) : CfQ w b k l w1 :=
  have h1 := h.at (g := w.heap.size) (o := cfO b k l) (by simp)
  ⟨h, Lib.cell_of_heap h1 0, Lib.cell_of_heap h1 1, Lib.cell_of_heap h1 2⟩
theorem CfQ.bel (h : CfQ w b k l w1) : Below w.heap.size w w1 := h.1.bel
theorem CfQ.go (h : CfQ w b k l w1) (hb : Below w1.heap.size w1 w2) : CfQ w b k l w2 := .of (h.1.go hb)
theorem CfQ.drew (h : CfQ w b k l w1) : CfQ w b k l w1.drew := .of h.1.drew
end
set_option maxRecDepth 100000 in
set_option maxHeartbeats 1000000 in
theorem rprint_any (b k l : Int) (w : World) :
    Calls Tryd.prog 7 #[cfV b k l] w fun e w' => e = .returned (.tuple #[.string (prS b k l), .int .i64 (errC b k l)]) ∧ Below w.heap.size w w' := by
  by_cases h : OkC b k l
  · rw [prS_yes h, errC_yes h]
    have H1 := Lib.hid (errC_yes h)
    obtain ⟨hb, hk1, hk2, hl1, hl2⟩ := h
    have hb1 : 1 ≤ b := by omega
    have hb2 : b ≤ 16 := by omega
    clear hb
    obtain ⟨x, hx⟩ : ∃ x, x = Dg b := ⟨_, rfl⟩
    obtain ⟨y, hy⟩ : ∃ y, y = Dg k := ⟨_, rfl⟩
    obtain ⟨z, hz⟩ : ∃ z, z = Dg l := ⟨_, rfl⟩
    have hxs : x.size ≤ 21 := hx ▸ Dg_size b (by omega) (by omega)
    have hys : y.size ≤ 21 := hy ▸ Dg_size k (by omega) (by omega)
    have hzs : z.size ≤ 21 := hz ▸ Dg_size l (by omega) (by omega)
    have j1 : ¬ (9223372036854775807 < 6 + x.size) := by omega
    have j2 : ¬ (9223372036854775807 < 6 + x.size + 6) := by omega
    have j3 : ¬ (9223372036854775807 < 6 + x.size + 6 + y.size) := by omega
    have j4 : ¬ (9223372036854775807 < 6 + x.size + 6 + y.size + 7) := by omega
    have j5 : ¬ (9223372036854775807 < 6 + x.size + 6 + y.size + 7 + z.size) := by omega
    clear hxs hys hzs
    have Ht := Lib.hid (show txtC b k l = (⟨#[98, 108, 111, 99, 107, 32]⟩ : ByteArray) ++ x ++ (⟨#[32, 107, 101, 101, 112, 32]⟩ : ByteArray) ++ y ++ (⟨#[32, 108, 105, 109, 105, 116, 32]⟩ : ByteArray) ++ z by rw [hx, hy, hz]; rfl)
    have Hx := Lib.hid hx
    have Hy := Lib.hid hy
    have Hz := Lib.hid hz
    clear hx hy hz
    go_enter Tryd.func7, Tryd.ntmps7
    go_wp2_with fail
    (with_reducible refine (rccheck b k l _).mono ?_); rintro e w1 ⟨rfl, hw1⟩
    rw [H1.out]
    have hF : Fr w [(w.heap.size, cfO b k l)] w1 := ((Fr.start w).newN rfl (cfO b k l)).go hw1
    have hT := CfQ.of hF
    clear hw1 hF
    go_wp2_with fail
    go_region_held3 (fun w' => CfQ w b k l w')
      (with_reducible (first | exact CfQ.drew hT | exact CfQ.go (by assumption) hb2))
      ((first
        | (go_at_call_of 20 (Value.int IntKind.i64 b); refine (rdN b x Hx (by omega) (by omega) _).mono ?_; rintro e w2 ⟨rfl, hb2⟩)
        | (go_at_call_of 20 (Value.int IntKind.i64 k); refine (rdN k y Hy (by omega) (by omega) _).mono ?_; rintro e w2 ⟨rfl, hb2⟩)
        | (go_at_call_of 20 (Value.int IntKind.i64 l); refine (rdN l z Hz (by omega) (by omega) _).mono ?_; rintro e w2 ⟨rfl, hb2⟩)))
    go_wp2
    go_ret2
    exact ⟨by rw [Ht.out]; rfl, by with_reducible exact CfQ.bel (by assumption)⟩
  · rw [prS_no h]
    have H1 := Lib.hid (errC_no h)
    clear h
    rw [H1.out]
    go_enter Tryd.func7, Tryd.ntmps7
    go_wp2_with fail
    (with_reducible refine (rccheck b k l _).mono ?_); rintro e w1 ⟨rfl, hw1⟩
    rw [H1.out]
    have hB := ((Fr.start w).newN rfl (cfO b k l)).go hw1
    go_wp2
    go_ret2
    exact ⟨rfl, hB.bel⟩
end Go.Proofs.YtljmidaapgppfaaDoor
