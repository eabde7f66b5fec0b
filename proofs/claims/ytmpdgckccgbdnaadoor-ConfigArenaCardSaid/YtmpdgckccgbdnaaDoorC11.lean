/- The text of a configuration, by the program; slots. -/
import Derived.Test.YtmpdgckccgbdnaaDoorC10
import Derived.Test.YtmpdgckccgbdnaaDoorDig
namespace Go.Proofs.YtmpdgckccgbdnaaDoor
open Go.RowKit
theorem frC (b k l s r : Int) {w w1 : World} {L : List (Nat × Obj)} (h : Fr w L w1) (h1 : (w.heap.size, cfO b k l) ∈ L) (h2 : (w.heap.size + 1, csO s r) ∈ L) :
    w1.cell? ⟨w.heap.size, 0, none⟩ = some (.int .i64 b) ∧ w1.cell? ⟨w.heap.size, 1, none⟩ = some (.int .i64 k) ∧ w1.cell? ⟨w.heap.size, 2, none⟩ = some (.int .i64 l) ∧ w1.cell? ⟨w.heap.size + 1, 0, none⟩ = some (.int .i64 s) ∧ w1.cell? ⟨w.heap.size + 1, 1, none⟩ = some (.int .i64 r) ∧ w.heap.size + 1 < w1.heap.size :=
  ⟨Lib.cell_of_heap (h.at h1) 0, Lib.cell_of_heap (h.at h1) 1, Lib.cell_of_heap (h.at h1) 2, Lib.cell_of_heap (h.at h2) 0, Lib.cell_of_heap (h.at h2) 1, h.lt h2⟩
def slotsI (b k l s r : Int) : Int := if Ok2 b k l s r then k + b * r else 0
theorem slotsI_yes {b k l s r : Int} (h : Ok2 b k l s r) : slotsI b k l s r = k + b * r := if_pos h
theorem slotsI_no {b k l s r : Int} (h : ¬ Ok2 b k l s r) : slotsI b k l s r = 0 := if_neg h
def txtC (b k l : Int) : ByteArray := (⟨#[98, 108, 111, 99, 107, 32]⟩ : ByteArray) ++ Dg b ++ (⟨#[32, 107, 101, 101, 112, 32]⟩ : ByteArray) ++ Dg k ++ (⟨#[32, 108, 105, 109, 105, 116, 32]⟩ : ByteArray) ++ Dg l
abbrev CfT (w : World) (b k l : Int) (w' : World) : Prop :=
  (Fr w [(w.heap.size, cfO b k l)] w' ∧ Hid (Pow w')) ∧ w'.cell? ⟨w.heap.size, 0, none⟩ = some (.int .i64 b) ∧ w'.cell? ⟨w.heap.size, 1, none⟩ = some (.int .i64 k) ∧ w'.cell? ⟨w.heap.size, 2, none⟩ = some (.int .i64 l)
section
variable {w w1 w2 : World} {b k l : Int}
theorem CfT.of (h : Fr w [(w.heap.size, cfO b k l)] w1) (hP : Pow w1) : CfT w b k l w1 :=
  have h1 := h.at (g := w.heap.size) (o := cfO b k l) (by simp)
  ⟨⟨h, Lib.hid hP⟩, Lib.cell_of_heap h1 0, Lib.cell_of_heap h1 1, Lib.cell_of_heap h1 2⟩
theorem CfT.pow (h : CfT w b k l w1) : Pow w1 := h.1.2.out
theorem CfT.bel (h : CfT w b k l w1) : Below w.heap.size w w1 := h.1.1.bel
theorem CfT.go (h : CfT w b k l w1) (hb : Below w1.heap.size w1 w2) : CfT w b k l w2 := .of (h.1.1.go hb) (h.pow.below hb)
theorem CfT.drew (h : CfT w b k l w1) : CfT w b k l w1.drew := .of h.1.1.drew h.pow
end
set_option maxRecDepth 100000 in
set_option maxHeartbeats 1000000 in
theorem cprint_yes (b k l : Int) (h : OkC b k l) (w : World) (hP : Pow w) :
    Calls Tryd.prog 14 #[cfV b k l] w fun e w' => e = .returned (.tuple #[.string (txtC b k l), .int .i64 0]) ∧ Below w.heap.size w w' := by
  have H1 := Lib.hid (errC_yes h)
  obtain ⟨hb, hk1, hk2, hl1, hl2⟩ := h
  have hb1 : 1 ≤ b := by omega
  have hb2 : b ≤ 16 := by omega
  clear hb
  obtain ⟨x, hx⟩ : ∃ x, x = Dg b := ⟨_, rfl⟩
  obtain ⟨y, hy⟩ : ∃ y, y = Dg k := ⟨_, rfl⟩
  obtain ⟨z, hz⟩ : ∃ z, z = Dg l := ⟨_, rfl⟩
  have hxs : x.size ≤ 21 := hx ▸ Dg_size b (by omega) (by omega)
  have hys : y.size ≤ 21 := hy ▸ Dg_size k (by omega) (by omega)
  have hzs : z.size ≤ 21 := hz ▸ Dg_size l (by omega) (by omega)
  have j1 : ¬ (9223372036854775807 < 6 + x.size) := by omega
  have j2 : ¬ (9223372036854775807 < 6 + x.size + 6) := by omega
  have j3 : ¬ (9223372036854775807 < 6 + x.size + 6 + y.size) := by omega
  have j4 : ¬ (9223372036854775807 < 6 + x.size + 6 + y.size + 7) := by omega
  have j5 : ¬ (9223372036854775807 < 6 + x.size + 6 + y.size + 7 + z.size) := by omega
  clear hxs hys hzs
  have Ht := Lib.hid (show txtC b k l = (⟨#[98, 108, 111, 99, 107, 32]⟩ : ByteArray) ++ x ++ (⟨#[32, 107, 101, 101, 112, 32]⟩ : ByteArray) ++ y ++ (⟨#[32, 108, 105, 109, 105, 116, 32]⟩ : ByteArray) ++ z by rw [hx, hy, hz]; rfl)
  have Hx := Lib.hid hx
  have Hy := Lib.hid hy
  have Hz := Lib.hid hz
  have HP := Lib.hid hP
  clear hx hy hz hP
  go_enter Tryd.func14, Tryd.ntmps14
  go_wp2_with fail
  (with_reducible refine (ccheck b k l _).mono ?_); rintro e w1 ⟨rfl, hw1⟩
  rw [H1.out]
  have hF : Fr w [(w.heap.size, cfO b k l)] w1 := ((Fr.start w).newN rfl (cfO b k l)).go hw1
  have hT := CfT.of hF (HP.out.below hF.bel)
  clear hw1 hF
  go_wp2_with fail
  go_region_held3 (fun w' => CfT w b k l w')
    (with_reducible (first | exact CfT.drew hT | exact CfT.go (by assumption) hb2))
    ((first
      | (go_at_call 32; refine (digits_ b x Hx (by omega) (by omega) _ (by with_reducible exact CfT.pow (by assumption))).mono ?_; rintro e w2 ⟨rfl, hb2⟩)
      | (go_at_call 32; refine (digits_ k y Hy (by omega) (by omega) _ (by with_reducible exact CfT.pow (by assumption))).mono ?_; rintro e w2 ⟨rfl, hb2⟩)
      | (go_at_call 32; refine (digits_ l z Hz (by omega) (by omega) _ (by with_reducible exact CfT.pow (by assumption))).mono ?_; rintro e w2 ⟨rfl, hb2⟩)))
  go_wp2
  go_ret2
  exact ⟨by rw [Ht.out]; rfl, by with_reducible exact CfT.bel (by assumption)⟩
theorem cfg_ok : OkC 4 8 1000 := ⟨.inr (.inr (.inl rfl)), by decide, by decide, by decide, by decide⟩
theorem cfg_ok2 : Ok2 4 8 1000 1 2 := ⟨cfg_ok, by decide, by decide, by decide, by decide⟩
theorem small_ (w : World) : Calls Tryd.prog 15 #[] w fun e w' => e = .returned (cfV 4 8 1000) ∧ Below w.heap.size w w' := by
  go_enter Tryd.func15, Tryd.ntmps15
  go_wp2
  exact bodyPost_ret (v := cfV 4 8 1000) (by simp [results, Tryd.results15, go_sem]) rfl ⟨rfl, ba (Below.refl _ _) _⟩
theorem shape_ (w : World) : Calls Tryd.prog 16 #[] w fun e w' => e = .returned (csV 1 2) ∧ Below w.heap.size w w' := by
  go_enter Tryd.func16, Tryd.ntmps16
  go_wp2
  exact bodyPost_ret (v := csV 1 2) (by simp [results, Tryd.results16, go_sem]) rfl ⟨rfl, ba (Below.refl _ _) _⟩
theorem ex_text : txtC 4 8 1000 = ⟨#[98, 108, 111, 99, 107, 32, 52, 32, 107, 101, 101, 112, 32, 56, 32, 108, 105, 109, 105, 116, 32, 49, 48, 48, 48]⟩ := by
  apply ByteArray.ext
  decide +kernel
theorem ex_need : needI 4 8 1000 1 2 = 331 := by decide +kernel
theorem ex_cell : celI 4 8 1000 1 2 ⟨#[115, 108, 111, 116, 115]⟩ 5 = 268 ∧ celE 4 8 1000 1 2 ⟨#[115, 108, 111, 116, 115]⟩ 5 = 0 := by decide +kernel
theorem ex_where : whrV 4 8 1000 1 2 268 = .tuple #[.string ⟨#[115, 108, 111, 116, 115]⟩, .int .i64 5, .int .i64 0] := by
  have h1 : whrN 4 8 1000 1 2 268 = ⟨#[115, 108, 111, 116, 115]⟩ := by decide +kernel
  have h2 : whrI 4 8 1000 1 2 268 = 5 := by decide +kernel
  have h3 : whrE 4 8 1000 1 2 268 = 0 := by decide +kernel
  unfold whrV; rw [h1, h2, h3]
set_option maxRecDepth 100000 in
set_option maxHeartbeats 1000000 in
theorem awake (w : World) (hP : Pow w) : Calls Tryd.prog 6 #[] w fun e w' => e = .returned (.bool true) ∧ Below w.heap.size w w' := by
  have HP := Lib.hid hP
  clear hP
  have Ht := Lib.hid ex_text
  have Hn := Lib.hid ex_need
  have Hc := Lib.hid ex_cell
  have Hw := Lib.hid ex_where
  have He := Lib.hid (err2_yes cfg_ok2)
  go_enter Tryd.func6, Tryd.ntmps6
  go_wp2_with fail
  (with_reducible refine (small_ _).mono ?_); rintro e w1 ⟨rfl, hb1⟩
  go_wp2_with fail
  (with_reducible refine (cprint_yes 4 8 1000 cfg_ok w1 (HP.out.below hb1)).mono ?_); rintro e w2 ⟨rfl, hb2⟩
  rw [Ht.out]
  have hB2 := bt hb1 hb2
  clear hb1 hb2
  go_wp2_with fail
  (with_reducible refine (small_ _).mono ?_); rintro e w3 ⟨rfl, hb3⟩
  go_wp2_with fail
  (with_reducible refine (shape_ _).mono ?_); rintro e w4 ⟨rfl, hb4⟩
  go_wp2_with fail
  (with_reducible refine (cneed 4 8 1000 1 2 w4).mono ?_); rintro e w5 ⟨rfl, hb5⟩
  rw [Hn.out, He.out]
  have hB5 := bt (bt (bt hB2 hb3) hb4) hb5
  clear hb3 hb4 hb5 hB2
  go_wp2_with fail
  (with_reducible refine (small_ _).mono ?_); rintro e w6 ⟨rfl, hb6⟩
  go_wp2_with fail
  (with_reducible refine (shape_ _).mono ?_); rintro e w7 ⟨rfl, hb7⟩
  go_wp2_with fail
  (with_reducible refine (ccell 4 8 1000 1 2 ⟨#[115, 108, 111, 116, 115]⟩ (by decide) 5 w7).mono ?_); rintro e w8 ⟨rfl, hb8⟩
  rw [Hc.out.1, Hc.out.2]
  have hB8 := bt (bt (bt hB5 hb6) hb7) hb8
  clear hb6 hb7 hb8 hB5
  go_wp2_with fail
  (with_reducible refine (small_ _).mono ?_); rintro e w9 ⟨rfl, hb9⟩
  go_wp2_with fail
  (with_reducible refine (shape_ _).mono ?_); rintro e w10 ⟨rfl, hb10⟩
  go_wp2_with fail
  (with_reducible refine (cwhere 4 8 1000 1 2 268 (by omega) w10).mono ?_); rintro e w11 ⟨rfl, hb11⟩
  rw [Hw.out]
  have hB11 := bt (bt (bt hB8 hb9) hb10) hb11
  clear hb9 hb10 hb11 hB8
  go_wp2
  go_ret
  exact ⟨rfl, hB11⟩
end Go.Proofs.YtmpdgckccgbdnaaDoor
