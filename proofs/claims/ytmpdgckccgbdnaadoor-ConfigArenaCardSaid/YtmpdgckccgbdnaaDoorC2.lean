/- The plan of a configuration and a shape. -/
import Derived.Test.YtmpdgckccgbdnaaDoorC1
namespace Go.Proofs.YtmpdgckccgbdnaaDoor
open Go.RowKit
abbrev cfO (b k l : Int) : Obj := .cells #[.int .i64 b, .int .i64 k, .int .i64 l] 23 (0, 0)
abbrev csO (s r : Int) : Obj := .cells #[.int .i64 s, .int .i64 r] 25 (0, 0)
abbrev plV (b k l s r n : Int) : Value := .agg #[.int .i64 b, .int .i64 k, .int .i64 l, .int .i64 s, .int .i64 r, .int .i64 n]
abbrev plFr (w : World) (b k l s r : Int) (w' : World) : Prop := Fr w [(w.heap.size + 1 + 1, .cells #[.int .i64 0, .int .i64 0, .int .i64 0, .int .i64 0, .int .i64 0, .int .i64 0] 45 (0, 0)), (w.heap.size + 1, csO s r), (w.heap.size, cfO b k l)] w'
abbrev PlT (w : World) (b k l s r : Int) (w' : World) : Prop :=
  plFr w b k l s r w' ∧ w'.cell? ⟨w.heap.size, 0, none⟩ = some (.int .i64 b) ∧ w'.cell? ⟨w.heap.size, 1, none⟩ = some (.int .i64 k) ∧ w'.cell? ⟨w.heap.size, 2, none⟩ = some (.int .i64 l) ∧ w'.cell? ⟨w.heap.size + 1, 0, none⟩ = some (.int .i64 s) ∧ w'.cell? ⟨w.heap.size + 1, 1, none⟩ = some (.int .i64 r)
section
variable {w w1 w2 : World} {b k l s r : Int}
theorem PlT.of (h : plFr w b k l s r w1) : PlT w b k l s r w1 :=
  have h1 := h.at (g := w.heap.size) (o := cfO b k l) (by simp)
  have h2 := h.at (g := w.heap.size + 1) (o := csO s r) (by simp)
  ⟨h, Lib.cell_of_heap h1 0, Lib.cell_of_heap h1 1, Lib.cell_of_heap h1 2, Lib.cell_of_heap h2 0, Lib.cell_of_heap h2 1⟩
theorem PlT.fr (h : PlT w b k l s r w1) : plFr w b k l s r w1 := h.1
theorem PlT.go (h : PlT w b k l s r w1) (hb : Below w1.heap.size w1 w2) : PlT w b k l s r w2 := .of (h.1.go hb)
theorem PlT.al (h : PlT w b k l s r w1) (o : Obj) : PlT w b k l s r (w1.alloc o) := .of (h.1.al o)
theorem PlT.drew (h : PlT w b k l s r w1) : PlT w b k l s r w1.drew := .of h.1.drew
end
set_option maxRecDepth 100000 in
set_option maxHeartbeats 1000000 in
theorem planned_yes (b k l s r : Int) (h : Ok2 b k l s r) (w : World) :
    Calls Tryd.prog 12 #[cfV b k l, csV s r] w fun e w' => e = .returned (.tuple #[plV b k l s r (k + b * r), .int .i64 0]) ∧ Below w.heap.size w w' := by
  have H1 := Lib.hid (errC_yes h.c)
  have H2 := Lib.hid (errS_yes h.s)
  obtain ⟨⟨hb, hk1, hk2, hl1, hl2⟩, hs1, hs2, hr1, hr2⟩ := h
  have hbr : 0 ≤ b * r ∧ b * r ≤ 256 := by rcases hb with rfl | rfl | rfl | rfl | rfl <;> omega
  obtain ⟨hbr1, hbr2⟩ := hbr
  go_enter Tryd.func12, Tryd.ntmps12
  go_wp2
  have hF : plFr w b k l s r _ := (((Fr.start w).newN rfl (cfO b k l)).newN (by simp) (csO s r)).newN (by simp) (.cells #[.int .i64 0, .int .i64 0, .int .i64 0, .int .i64 0, .int .i64 0, .int .i64 0] 45 (0, 0))
  have hT := PlT.of hF
  go_region_held3 (fun w' => PlT w b k l s r w')
    (with_reducible (first | exact PlT.drew hT | exact PlT.al (by assumption) _ | exact PlT.go (by assumption) hb2))
    ((first
      | (go_at_call 23; refine (ccheck b k l _).mono ?_; rintro e w2 ⟨rfl, hb2⟩)
      | (go_at_call 24; refine (cshape s r _).mono ?_; rintro e w2 ⟨rfl, hb2⟩)))
  rw [H1.out, H2.out]
  have hP : plFr w b k l s r (w2.alloc _) := PlT.fr (by assumption)
  have hL : w2.heap.size < (w2.alloc (.cells #[.int .i64 0, .int .i64 0] 27)).heap.size := by simp
  rw [H1.out, H2.out] at hP
  clear hF hT
  go_wp2_with fail
  obtain ⟨e0, e1⟩ : (w2.alloc (.cells #[.int .i64 0, .int .i64 0] 27)).cell? ⟨w2.heap.size, 0, none⟩ = some (.int .i64 0) ∧ (w2.alloc (.cells #[.int .i64 0, .int .i64 0] 27)).cell? ⟨w2.heap.size, 1, none⟩ = some (.int .i64 0) := ⟨Lib.cell_of_heap (alloc1_new _ _) 0, Lib.cell_of_heap (alloc1_new _ _) 1⟩
  have HL := Lib.hid hL
  clear hL
  generalize hg : w2.heap.size = g at *
  generalize w2.alloc (.cells #[.int .i64 0, .int .i64 0] 27) = w3 at *
  clear hg
  obtain ⟨_, c0, c1, c2, c3, c4⟩ := PlT.of hP
  have hO := hP.at (g := w.heap.size + 1 + 1) List.mem_cons_self
  obtain ⟨o0, o1, o2, o3, o4, o5⟩ : _ ∧ _ ∧ _ ∧ _ ∧ _ ∧ _ := ⟨Lib.cell_of_heap hO 0, Lib.cell_of_heap hO 1, Lib.cell_of_heap hO 2, Lib.cell_of_heap hO 3, Lib.cell_of_heap hO 4, Lib.cell_of_heap hO 5⟩
  obtain ⟨f0, f1, f2, f3, f4, f5⟩ : _ ∧ _ ∧ _ ∧ _ ∧ _ ∧ _ := ⟨Lib.frozen_of_heap hO 0, Lib.frozen_of_heap hO 1, Lib.frozen_of_heap hO 2, Lib.frozen_of_heap hO 3, Lib.frozen_of_heap hO 4, Lib.frozen_of_heap hO 5⟩
  go_loop [14] (fun i => ∃ n : Nat, n ≤ 2 ∧ i = .int .i64 n) (fun i => 2 - (intOf i).toNat)
  case atStart => exact ⟨0, by omega, rfl⟩
  case round =>
    obtain ⟨n, hn, rfl⟩ := hrel
    by_cases hlt : n < 2
    · have hcell : w3.cell? ⟨g, n, none⟩ = some (.int .i64 0) := by
        rcases (show n = 0 ∨ n = 1 by omega) with rfl | rfl <;> assumption
      go_wp2
      go_round
      case rel => exact ⟨n + 1, by omega, by go_num⟩
      case measure => simp [intOf]; omega
    · obtain rfl : n = 2 := by omega
      go_wp2
      refine bodyPost_ret (v := .tuple #[plV b k l s r (k + b * r), .int .i64 0]) (by simp [results, go_sem, o0, o1, o2, o3, o4, o5]) rfl ⟨rfl, ?_⟩
      repeat' (first | with_reducible exact hP.bel | with_reducible refine bs ?_ ?_ | (simp only; omega))
theorem errC_or (b k l : Int) : (OkC b k l ∧ errC b k l = 0) ∨ (¬ OkC b k l ∧ errC b k l = 7) := by
  by_cases h : OkC b k l
  · exact .inl ⟨h, errC_yes h⟩
  · exact .inr ⟨h, errC_no h⟩
theorem errS_or (s r : Int) : (OkS s r ∧ errS s r = 0) ∨ (¬ OkS s r ∧ errS s r = 7) := by
  by_cases h : OkS s r
  · exact .inl ⟨h, errS_yes h⟩
  · exact .inr ⟨h, errS_no h⟩
set_option maxRecDepth 100000 in
set_option maxHeartbeats 1000000 in
theorem planned_no (b k l s r : Int) (h : ¬ Ok2 b k l s r) (w : World) :
    Calls Tryd.prog 12 #[cfV b k l, csV s r] w fun e w' => e = .returned (.tuple #[plV 0 0 0 0 0 0, .int .i64 7]) ∧ Below w.heap.size w w' := by
  have H1 := Lib.hid (errC_or b k l)
  have H2 := Lib.hid (errS_or s r)
  have H := Lib.hid h
  clear h
  go_enter Tryd.func12, Tryd.ntmps12
  go_wp2
  have hF : plFr w b k l s r _ := (((Fr.start w).newN rfl (cfO b k l)).newN (by simp) (csO s r)).newN (by simp) (.cells #[.int .i64 0, .int .i64 0, .int .i64 0, .int .i64 0, .int .i64 0, .int .i64 0] 45 (0, 0))
  have hT := PlT.of hF
  go_region_held3 (fun w' => PlT w b k l s r w')
    (with_reducible (first | exact PlT.drew hT | exact PlT.al (by assumption) _ | exact PlT.go (by assumption) hb2))
    ((first
      | (go_at_call 23; refine (ccheck b k l _).mono ?_; rintro e w2 ⟨rfl, hb2⟩)
      | (go_at_call 24; refine (cshape s r _).mono ?_; rintro e w2 ⟨rfl, hb2⟩)))
  have hP : plFr w b k l s r (w2.alloc _) := PlT.fr (by assumption)
  have hL : w2.heap.size < (w2.alloc (.cells #[.int .i64 (errC b k l), .int .i64 (errS s r)] 27)).heap.size := by simp
  clear hF hT
  go_wp2_with fail
  obtain ⟨e0, e1⟩ : (w2.alloc (.cells #[.int .i64 (errC b k l), .int .i64 (errS s r)] 27)).cell? ⟨w2.heap.size, 0, none⟩ = some (.int .i64 (errC b k l)) ∧ (w2.alloc (.cells #[.int .i64 (errC b k l), .int .i64 (errS s r)] 27)).cell? ⟨w2.heap.size, 1, none⟩ = some (.int .i64 (errS s r)) := ⟨Lib.cell_of_heap (alloc1_new _ _) 0, Lib.cell_of_heap (alloc1_new _ _) 1⟩
  have HL := Lib.hid hL
  clear hL
  generalize hg : w2.heap.size = g at *
  generalize w2.alloc (.cells #[.int .i64 (errC b k l), .int .i64 (errS s r)] 27) = w3 at *
  clear hg
  obtain ⟨_, c0, c1, c2, c3, c4⟩ := PlT.of hP
  have hO := hP.at (g := w.heap.size + 1 + 1) List.mem_cons_self
  obtain ⟨o0, o1, o2, o3, o4, o5⟩ : _ ∧ _ ∧ _ ∧ _ ∧ _ ∧ _ := ⟨Lib.cell_of_heap hO 0, Lib.cell_of_heap hO 1, Lib.cell_of_heap hO 2, Lib.cell_of_heap hO 3, Lib.cell_of_heap hO 4, Lib.cell_of_heap hO 5⟩
  obtain ⟨f0, f1, f2, f3, f4, f5⟩ : _ ∧ _ ∧ _ ∧ _ ∧ _ ∧ _ := ⟨Lib.frozen_of_heap hO 0, Lib.frozen_of_heap hO 1, Lib.frozen_of_heap hO 2, Lib.frozen_of_heap hO 3, Lib.frozen_of_heap hO 4, Lib.frozen_of_heap hO 5⟩
  go_loop [14] (fun i => ∃ n : Nat, n ≤ 2 ∧ i = .int .i64 n ∧ Hid ((0 < n → OkC b k l) ∧ (1 < n → OkS s r))) (fun i => 2 - (intOf i).toNat)
  case atStart => exact ⟨0, by omega, rfl, ⟨fun h => absurd h (by omega), fun h => absurd h (by omega)⟩⟩
  case round =>
    obtain ⟨n, hn, rfl, hh⟩ := hrel
    by_cases hlt : n < 2
    · rcases (show n = 0 ∨ n = 1 by omega) with rfl | rfl
      · rcases H1.out with ⟨q1, q2⟩ | ⟨q1, q2⟩
        · have Q := Lib.hid q1
          rw [q2] at e0
          clear q1 q2
          go_wp2
          go_round
          case rel => exact ⟨1, by omega, rfl, ⟨fun _ => Q.out, fun h => absurd h (by omega)⟩⟩
          case measure => simp [intOf]
        · have Q := Lib.hid q1
          rw [q2] at e0
          clear q1 q2
          go_wp2
          refine bodyPost_ret (v := .tuple #[plV 0 0 0 0 0 0, .int .i64 7]) (by simp [results, go_sem, o0, o1, o2, o3, o4, o5]) rfl ⟨rfl, ?_⟩
          repeat' (first | with_reducible exact hP.bel | with_reducible refine bs ?_ ?_ | (simp only; omega))
      · rcases H2.out with ⟨q1, q2⟩ | ⟨q1, q2⟩
        · exact absurd ⟨hh.out.1 (by omega), q1⟩ H.out
        · have Q := Lib.hid q1
          rw [q2] at e1
          clear q1 q2
          go_wp2
          refine bodyPost_ret (v := .tuple #[plV 0 0 0 0 0 0, .int .i64 7]) (by simp [results, go_sem, o0, o1, o2, o3, o4, o5]) rfl ⟨rfl, ?_⟩
          repeat' (first | with_reducible exact hP.bel | with_reducible refine bs ?_ ?_ | (simp only; omega))
    · exact absurd ⟨hh.out.1 (by omega), hh.out.2 (by omega)⟩ H.out
end Go.Proofs.YtmpdgckccgbdnaaDoor
