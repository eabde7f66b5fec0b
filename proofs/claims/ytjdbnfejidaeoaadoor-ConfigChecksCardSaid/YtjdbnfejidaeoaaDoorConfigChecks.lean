/- ConfigChecks: for every configuration and shape the law returns true. No condition. -/
import Derived.Test.YtjdbnfejidaeoaaDoorC11
namespace Go.Proofs.YtjdbnfejidaeoaaDoor
open Go.RowKit
abbrev ChT (w : World) (b k l s r : Int) (w' : World) : Prop :=
  (Fr w [(w.heap.size + 1, csO s r), (w.heap.size, cfO b k l)] w' ∧ Hid (Pow w')) ∧ w'.cell? ⟨w.heap.size, 0, none⟩ = some (.int .i64 b) ∧ w'.cell? ⟨w.heap.size, 1, none⟩ = some (.int .i64 k) ∧ w'.cell? ⟨w.heap.size, 2, none⟩ = some (.int .i64 l) ∧ w'.cell? ⟨w.heap.size + 1, 0, none⟩ = some (.int .i64 s) ∧ w'.cell? ⟨w.heap.size + 1, 1, none⟩ = some (.int .i64 r)
section
variable {w w1 w2 : World} {b k l s r : Int}
theorem ChT.of (h : Fr w [(w.heap.size + 1, csO s r), (w.heap.size, cfO b k l)] w1) (hP : Pow w1) : ChT w b k l s r w1 :=
  have h1 := frC b k l s r h (by simp) (by simp)
  ⟨⟨h, Lib.hid hP⟩, h1.1, h1.2.1, h1.2.2.1, h1.2.2.2.1, h1.2.2.2.2.1⟩
theorem ChT.pow (h : ChT w b k l s r w1) : Pow w1 := h.1.2.out
theorem ChT.bel (h : ChT w b k l s r w1) : Below w.heap.size w w1 := h.1.1.bel
theorem ChT.go (h : ChT w b k l s r w1) (hb : Below w1.heap.size w1 w2) : ChT w b k l s r w2 := .of (h.1.1.go hb) (h.pow.below hb)
theorem ChT.drew (h : ChT w b k l s r w1) : ChT w b k l s r w1.drew := .of h.1.1.drew h.pow
end
set_option maxRecDepth 100000 in
set_option maxHeartbeats 2000000 in
theorem configChecks_walk (w : World) (b k l s r : Int) (hP : Pow w) :
    Calls Tryd.prog 7 #[cfV b k l, csV s r] w fun e w' => e = .returned (.bool true) ∧ Below w.heap.size w w' := by
  have HP := Lib.hid hP
  clear hP
  go_enter Tryd.func7, Tryd.ntmps7
  go_wp2_with fail
  (with_reducible refine (cslots b k l s r _).mono ?_); rintro e w1 ⟨rfl, hb1⟩
  have hF1 : Fr w [(w.heap.size + 1, csO s r), (w.heap.size, cfO b k l)] w1 := (((Fr.start w).newN rfl (cfO b k l)).newN (by simp) (csO s r)).go hb1
  obtain ⟨c0, c1, c2, d0, d1, hlt⟩ := frC b k l s r hF1 (by simp) (by simp)
  clear hb1
  go_wp2_with fail
  (with_reducible refine (rslots b k l s r _).mono ?_); rintro e w2 ⟨rfl, hb2⟩
  have hF2 := hF1.go hb2
  clear c0 c1 c2 d0 d1 hlt hb2 hF1
  obtain ⟨c0, c1, c2, d0, d1, hlt⟩ := frC b k l s r hF2 (by simp) (by simp)
  go_wp2_with fail
  (with_reducible refine (cneed b k l s r _).mono ?_); rintro e w3 ⟨rfl, hb3⟩
  have hF3 := hF2.go hb3
  clear c0 c1 c2 d0 d1 hlt hb3 hF2
  obtain ⟨c0, c1, c2, d0, d1, hlt⟩ := frC b k l s r hF3 (by simp) (by simp)
  go_wp2_with fail
  (with_reducible refine (rneed b k l s r _).mono ?_); rintro e w4 ⟨rfl, hb4⟩
  have hF4 := hF3.go hb4
  clear c0 c1 c2 d0 d1 hlt hb4 hF3
  obtain ⟨c0, c1, c2, d0, d1, hlt⟩ := frC b k l s r hF4 (by simp) (by simp)
  have hT := ChT.of hF4 (HP.out.below hF4.bel)
  clear c0 c1 c2 d0 d1 hlt hF4
  go_wp2_with fail
  go_region_held3 (fun w' => ChT w b k l s r w')
    (with_reducible (first | exact ChT.drew hT | exact ChT.go (by assumption) hb2))
    ((first
      | (go_at_call 25; refine (ccheck b k l _).mono ?_; rintro e w2 ⟨rfl, hb2⟩)
      | (go_at_call 26; refine (rccheck b k l _).mono ?_; rintro e w2 ⟨rfl, hb2⟩)
      | (go_at_call 27; refine (cshape s r _).mono ?_; rintro e w2 ⟨rfl, hb2⟩)
      | (go_at_call 28; refine (rcshape s r _).mono ?_; rintro e w2 ⟨rfl, hb2⟩)
      | (go_at_call 16; refine (awake _ (by with_reducible exact ChT.pow (by assumption))).mono ?_; rintro e w2 ⟨rfl, hb2⟩)))
  have hB : Below w.heap.size w w2 := by with_reducible exact ChT.bel (by assumption)
  clear hT
  go_wp2
  go_ret
  exact ⟨rfl, hB⟩
end Go.Proofs.YtjdbnfejidaeoaaDoor
