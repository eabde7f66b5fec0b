/- The layout of the reference; the layout where there is none. -/
import Derived.Test.YtjdbnfejidaeoaaDoorC4
namespace Go.Proofs.YtjdbnfejidaeoaaDoor
open Go.RowKit
set_option maxRecDepth 100000 in
set_option maxHeartbeats 1000000 in
theorem layout_no (b k l s r : Int) (h : ¬ Ok2 b k l s r) (w : World) :
    Calls Tryd.prog 11 #[cfV b k l, csV s r] w (RetSl w 3 [] 0 7) := by
  have H := Lib.hid h
  clear h
  go_enter Tryd.func11, Tryd.ntmps11
  go_wp2_with fail
  (with_reducible refine (planned_no b k l s r H.out _).mono ?_); rintro e w1 ⟨rfl, hb1⟩
  have hB := bt (ba (ba (Below.refl _ _) _) _) hb1
  clear hb1
  go_wp2
  go_ret2
  exact RetSl.nil (ba hB _) rfl rfl
set_option maxRecDepth 100000 in
set_option maxHeartbeats 1000000 in
theorem rslots_yes (b k l s r : Int) (h : Ok2 b k l s r) (w : World) :
    Calls Tryd.prog 23 #[cfV b k l, csV s r] w fun e w' => e = .returned (.tuple #[.int .i64 (k + b * r), .int .i64 0]) ∧ Below w.heap.size w w' := by
  have Hk := Lib.hid h
  obtain ⟨⟨hb, hk1, hk2, hl1, hl2⟩, hs1, hs2, hr1, hr2⟩ := h
  have hbr : 0 ≤ b * r ∧ b * r ≤ 256 := by rcases hb with rfl | rfl | rfl | rfl | rfl <;> omega
  obtain ⟨hbr1, hbr2⟩ := hbr
  clear hb
  go_enter Tryd.func23, Tryd.ntmps23
  go_wp2_with fail
  (with_reducible refine (both_ b k l s r _).mono ?_); rintro e w1 ⟨rfl, hb1⟩
  rw [err2_yes Hk.out]
  have hB := bt (ba (ba (Below.refl _ _) _) _) hb1
  obtain ⟨hc, hf⟩ := bcell hb1
  go_wp2
  go_ret2
  exact ⟨rfl, hB⟩
set_option maxRecDepth 100000 in
set_option maxHeartbeats 1000000 in
theorem rslots_no (b k l s r : Int) (h : ¬ Ok2 b k l s r) (w : World) :
    Calls Tryd.prog 23 #[cfV b k l, csV s r] w fun e w' => e = .returned (.tuple #[.int .i64 0, .int .i64 7]) ∧ Below w.heap.size w w' := by
  have H := Lib.hid h
  clear h
  go_enter Tryd.func23, Tryd.ntmps23
  go_wp2_with fail
  (with_reducible refine (both_ b k l s r _).mono ?_); rintro e w1 ⟨rfl, hb1⟩
  rw [err2_no H.out]
  have hB := bt (ba (ba (Below.refl _ _) _) _) hb1
  go_wp2
  go_ret2
  exact ⟨rfl, hB⟩
set_option maxRecDepth 100000 in
set_option maxHeartbeats 1000000 in
theorem rlayout_no (b k l s r : Int) (h : ¬ Ok2 b k l s r) (w : World) :
    Calls Tryd.prog 12 #[cfV b k l, csV s r] w (RetSl w 3 [] 0 7) := by
  have H := Lib.hid h
  clear h
  go_enter Tryd.func12, Tryd.ntmps12
  go_wp2_with fail
  (with_reducible refine (rslots_no b k l s r H.out _).mono ?_); rintro e w1 ⟨rfl, hb1⟩
  have hB := bt (ba (ba (Below.refl _ _) _) _) hb1
  clear hb1
  go_wp2
  go_ret2
  exact RetSl.nil hB rfl rfl
abbrev rnO : Obj := .cells #[.string ⟨#[116, 97, 98, 108, 101]⟩, .string ⟨#[115, 116, 97, 114, 116, 115]⟩, .string ⟨#[102, 105, 110, 97, 108, 115]⟩, .string ⟨#[115, 116, 97, 116, 101]⟩, .string ⟨#[110, 101, 120, 116]⟩, .string ⟨#[104, 105, 116, 115]⟩, .string ⟨#[115, 108, 111, 116, 115]⟩, .string ⟨#[114, 97, 110, 107, 115]⟩, .string ⟨#[102, 108, 97, 103, 115]⟩] 73 (0, 0)
abbrev rzO (s r n : Int) : Obj := .cells #[.int .i64 (256 * s), .int .i64 (s), .int .i64 (r * s), .int .i64 (s), .int .i64 (s), .int .i64 (r), .int .i64 (3 * n), .int .i64 (n), .int .i64 (4)] 63 (0, 0)
set_option maxRecDepth 100000 in
set_option maxHeartbeats 4000000 in
theorem rlayout_yes (b k l s r : Int) (h : Ok2 b k l s r) (w : World) :
    Calls Tryd.prog 12 #[cfV b k l, csV s r] w (RetSl w 3 (rgs (lay s r (k + b * r))) 9 0) := by
  have Hk := Lib.hid h
  obtain ⟨⟨hb, hk1, hk2, hl1, hl2⟩, hs1, hs2, hr1, hr2⟩ := h
  have hbr : 0 ≤ b * r ∧ b * r ≤ 256 := by rcases hb with rfl | rfl | rfl | rfl | rfl <;> omega
  have hrs : 0 ≤ r * s ∧ r * s ≤ 64 := by rcases (show s = 1 ∨ s = 2 ∨ s = 3 ∨ s = 4 by omega) with rfl | rfl | rfl | rfl <;> omega
  clear hb
  obtain ⟨hrs1, hrs2⟩ := hrs
  obtain ⟨n, hn⟩ : ∃ n, n = k + b * r := ⟨_, rfl⟩
  have hn1 : 0 ≤ n := by omega
  have hn2 : n ≤ 300 := by omega
  clear hbr
  rw [← hn]
  have Hn := Lib.hid hn
  clear hn
  go_enter Tryd.func12, Tryd.ntmps12
  go_wp2_with fail
  (with_reducible refine (rslots_yes b k l s r Hk.out _).mono ?_); rintro e w1 ⟨rfl, hb1⟩
  rw [← Hn.out]
  have hF1 : Fr w [(w.heap.size + 1, csO s r), (w.heap.size, cfO b k l)] w1 := (((Fr.start w).newN rfl (cfO b k l)).newN (by simp) (csO s r)).go hb1
  have hq := hF1.at (g := w.heap.size + 1) (o := csO s r) (by simp)
  have q0 : w1.cell? ⟨w.heap.size + 1, 0, none⟩ = some (.int .i64 s) := Lib.cell_of_heap hq 0
  have q1 : w1.cell? ⟨w.heap.size + 1, 1, none⟩ = some (.int .i64 r) := Lib.cell_of_heap hq 1
  have hq2 := heap_lt hq
  clear hq hb1
  go_wp2_with fail
  have hF : Fr w [(w1.heap.size + 1, rzO s r n), (w1.heap.size, rnO)] ((w1.alloc rnO).alloc (rzO s r n)) := ((((hF1.sub (M := []) (by simp)).newN rfl rnO).newN (by simp) (rzO s r n)))
  have hG : w.heap.size ≤ w1.heap.size := hF1.bel.size
  clear hF1
  generalize hg : w1.heap.size = g at *
  generalize (w1.alloc rnO).alloc (rzO s r n) = w2 at *
  clear hg q0 q1 hq2 w1
  go_loopw [10, 11, 12] (fun v z i wr => ∃ j : Nat, j ≤ 9 ∧ i = .int .i64 j ∧ z = .int .i64 (bse s r n j) ∧ Fr w [(g + 1, rzO s r n), (g, rnO)] wr ∧ LayR s r n w wr v j) (fun _ _ i _ => 9 - (intOf i).toNat)
  case atStart => exact ⟨0, by omega, rfl, rfl, hF, World.ownsRow_nil _ _ _ _⟩
  case round =>
    obtain ⟨j, hj, rfl, rfl, hFr, hR⟩ := hrel
    by_cases hlt : j < 9
    · have hN := hFr.at (g := g) (o := rnO) (by simp)
      have hZ := hFr.at (g := g + 1) (o := rzO s r n) (by simp)
      rcases (show j = 0 ∨ j = 1 ∨ j = 2 ∨ j = 3 ∨ j = 4 ∨ j = 5 ∨ j = 6 ∨ j = 7 ∨ j = 8 by omega) with rfl | rfl | rfl | rfl | rfl | rfl | rfl | rfl | rfl
      · rw [show bse s r n 0 = 0 from rfl]
        have n0 : wr.cell? ⟨g, 0, none⟩ = some (.string ⟨#[116, 97, 98, 108, 101]⟩) := Lib.cell_of_heap hN 0
        have z0 : wr.cell? ⟨g + 1, 0, none⟩ = some (.int .i64 (256 * s)) := Lib.cell_of_heap hZ 0
        have HN := Lib.hid hN
        have HZ := Lib.hid hZ
        clear hN hZ
        go_wp2_with fail
        go_region_held3 (fun w' => w'.cell? ⟨g, 0, none⟩ = some (.string ⟨#[116, 97, 98, 108, 101]⟩) ∧ w'.cell? ⟨g + 1, 0, none⟩ = some (.int .i64 (256 * s)))
          (first | go_keep | exact ⟨Lib.cell_of_heap (grown_blk hg4 (alloc_blk HN.out) (own_blk_ne hR HN.out (by decide))) 0, Lib.cell_of_heap (grown_blk hg4 (alloc_blk HZ.out) (own_blk_ne hR HZ.out (by decide))) 0⟩)
          ((refine step_ap rgEl (w0 := w) (by exact hR.alloc _) (by exact (ba hFr.bel _).drew) [.string ⟨#[116, 97, 98, 108, 101]⟩, .int .i64 (0), .int .i64 (256 * s)] (by exact alloc1_new _ _) ?_; intro g4 cap4 w4 hO4 hb4 hg4))
        have hF4 : Fr w [(g + 1, rzO s r n), (g, rnO)] w4 := ((Fr.nil hb4).cons (grown_blk hg4 (alloc_blk HN.out) (own_blk_ne hR HN.out (by decide)))).cons (grown_blk hg4 (alloc_blk HZ.out) (own_blk_ne hR HZ.out (by decide)))
        have hR4 : LayR s r n w w4 (.slice (some ⟨g4, 0, none⟩) (0 + 1) cap4) (0 + 1) := hO4
        clear hO4 hb4 hg4 hR hFr
        go_wp2
        go_roundw
        case rel => exact ⟨0 + 1, by omega, rfl, by first | rfl | (congr 1; simp only [bse]; omega), hF4, hR4⟩
        case measure => simp [intOf]
      · rw [show bse s r n 1 = 256 * s from rfl]
        have n0 : wr.cell? ⟨g, 1, none⟩ = some (.string ⟨#[115, 116, 97, 114, 116, 115]⟩) := Lib.cell_of_heap hN 1
        have z0 : wr.cell? ⟨g + 1, 1, none⟩ = some (.int .i64 (s)) := Lib.cell_of_heap hZ 1
        have HN := Lib.hid hN
        have HZ := Lib.hid hZ
        clear hN hZ
        go_wp2_with fail
        go_region_held3 (fun w' => w'.cell? ⟨g, 1, none⟩ = some (.string ⟨#[115, 116, 97, 114, 116, 115]⟩) ∧ w'.cell? ⟨g + 1, 1, none⟩ = some (.int .i64 (s)))
          (first | go_keep | exact ⟨Lib.cell_of_heap (grown_blk hg4 (alloc_blk HN.out) (own_blk_ne hR HN.out (by decide))) 1, Lib.cell_of_heap (grown_blk hg4 (alloc_blk HZ.out) (own_blk_ne hR HZ.out (by decide))) 1⟩)
          ((refine step_ap rgEl (w0 := w) (by exact hR.alloc _) (by exact (ba hFr.bel _).drew) [.string ⟨#[115, 116, 97, 114, 116, 115]⟩, .int .i64 (256 * s), .int .i64 (s)] (by exact alloc1_new _ _) ?_; intro g4 cap4 w4 hO4 hb4 hg4))
        have hF4 : Fr w [(g + 1, rzO s r n), (g, rnO)] w4 := ((Fr.nil hb4).cons (grown_blk hg4 (alloc_blk HN.out) (own_blk_ne hR HN.out (by decide)))).cons (grown_blk hg4 (alloc_blk HZ.out) (own_blk_ne hR HZ.out (by decide)))
        have hR4 : LayR s r n w w4 (.slice (some ⟨g4, 0, none⟩) (1 + 1) cap4) (1 + 1) := hO4
        clear hO4 hb4 hg4 hR hFr
        go_wp2
        go_roundw
        case rel => exact ⟨1 + 1, by omega, rfl, by first | rfl | (congr 1; simp only [bse]; omega), hF4, hR4⟩
        case measure => simp [intOf]
      · rw [show bse s r n 2 = 256 * s + s from rfl]
        have n0 : wr.cell? ⟨g, 2, none⟩ = some (.string ⟨#[102, 105, 110, 97, 108, 115]⟩) := Lib.cell_of_heap hN 2
        have z0 : wr.cell? ⟨g + 1, 2, none⟩ = some (.int .i64 (r * s)) := Lib.cell_of_heap hZ 2
        have HN := Lib.hid hN
        have HZ := Lib.hid hZ
        clear hN hZ
        go_wp2_with fail
        go_region_held3 (fun w' => w'.cell? ⟨g, 2, none⟩ = some (.string ⟨#[102, 105, 110, 97, 108, 115]⟩) ∧ w'.cell? ⟨g + 1, 2, none⟩ = some (.int .i64 (r * s)))
          (first | go_keep | exact ⟨Lib.cell_of_heap (grown_blk hg4 (alloc_blk HN.out) (own_blk_ne hR HN.out (by decide))) 2, Lib.cell_of_heap (grown_blk hg4 (alloc_blk HZ.out) (own_blk_ne hR HZ.out (by decide))) 2⟩)
          ((refine step_ap rgEl (w0 := w) (by exact hR.alloc _) (by exact (ba hFr.bel _).drew) [.string ⟨#[102, 105, 110, 97, 108, 115]⟩, .int .i64 (256 * s + s), .int .i64 (r * s)] (by exact alloc1_new _ _) ?_; intro g4 cap4 w4 hO4 hb4 hg4))
        have hF4 : Fr w [(g + 1, rzO s r n), (g, rnO)] w4 := ((Fr.nil hb4).cons (grown_blk hg4 (alloc_blk HN.out) (own_blk_ne hR HN.out (by decide)))).cons (grown_blk hg4 (alloc_blk HZ.out) (own_blk_ne hR HZ.out (by decide)))
        have hR4 : LayR s r n w w4 (.slice (some ⟨g4, 0, none⟩) (2 + 1) cap4) (2 + 1) := hO4
        clear hO4 hb4 hg4 hR hFr
        go_wp2
        go_roundw
        case rel => exact ⟨2 + 1, by omega, rfl, by first | rfl | (congr 1; simp only [bse]; omega), hF4, hR4⟩
        case measure => simp [intOf]
      · rw [show bse s r n 3 = 256 * s + s + r * s from rfl]
        have n0 : wr.cell? ⟨g, 3, none⟩ = some (.string ⟨#[115, 116, 97, 116, 101]⟩) := Lib.cell_of_heap hN 3
        have z0 : wr.cell? ⟨g + 1, 3, none⟩ = some (.int .i64 (s)) := Lib.cell_of_heap hZ 3
        have HN := Lib.hid hN
        have HZ := Lib.hid hZ
        clear hN hZ
        go_wp2_with fail
        go_region_held3 (fun w' => w'.cell? ⟨g, 3, none⟩ = some (.string ⟨#[115, 116, 97, 116, 101]⟩) ∧ w'.cell? ⟨g + 1, 3, none⟩ = some (.int .i64 (s)))
          (first | go_keep | exact ⟨Lib.cell_of_heap (grown_blk hg4 (alloc_blk HN.out) (own_blk_ne hR HN.out (by decide))) 3, Lib.cell_of_heap (grown_blk hg4 (alloc_blk HZ.out) (own_blk_ne hR HZ.out (by decide))) 3⟩)
          ((refine step_ap rgEl (w0 := w) (by exact hR.alloc _) (by exact (ba hFr.bel _).drew) [.string ⟨#[115, 116, 97, 116, 101]⟩, .int .i64 (256 * s + s + r * s), .int .i64 (s)] (by exact alloc1_new _ _) ?_; intro g4 cap4 w4 hO4 hb4 hg4))
        have hF4 : Fr w [(g + 1, rzO s r n), (g, rnO)] w4 := ((Fr.nil hb4).cons (grown_blk hg4 (alloc_blk HN.out) (own_blk_ne hR HN.out (by decide)))).cons (grown_blk hg4 (alloc_blk HZ.out) (own_blk_ne hR HZ.out (by decide)))
        have hR4 : LayR s r n w w4 (.slice (some ⟨g4, 0, none⟩) (3 + 1) cap4) (3 + 1) := hO4
        clear hO4 hb4 hg4 hR hFr
        go_wp2
        go_roundw
        case rel => exact ⟨3 + 1, by omega, rfl, by first | rfl | (congr 1; simp only [bse]; omega), hF4, hR4⟩
        case measure => simp [intOf]
      · rw [show bse s r n 4 = 256 * s + s + r * s + s from rfl]
        have n0 : wr.cell? ⟨g, 4, none⟩ = some (.string ⟨#[110, 101, 120, 116]⟩) := Lib.cell_of_heap hN 4
        have z0 : wr.cell? ⟨g + 1, 4, none⟩ = some (.int .i64 (s)) := Lib.cell_of_heap hZ 4
        have HN := Lib.hid hN
        have HZ := Lib.hid hZ
        clear hN hZ
        go_wp2_with fail
        go_region_held3 (fun w' => w'.cell? ⟨g, 4, none⟩ = some (.string ⟨#[110, 101, 120, 116]⟩) ∧ w'.cell? ⟨g + 1, 4, none⟩ = some (.int .i64 (s)))
          (first | go_keep | exact ⟨Lib.cell_of_heap (grown_blk hg4 (alloc_blk HN.out) (own_blk_ne hR HN.out (by decide))) 4, Lib.cell_of_heap (grown_blk hg4 (alloc_blk HZ.out) (own_blk_ne hR HZ.out (by decide))) 4⟩)
          ((refine step_ap rgEl (w0 := w) (by exact hR.alloc _) (by exact (ba hFr.bel _).drew) [.string ⟨#[110, 101, 120, 116]⟩, .int .i64 (256 * s + s + r * s + s), .int .i64 (s)] (by exact alloc1_new _ _) ?_; intro g4 cap4 w4 hO4 hb4 hg4))
        have hF4 : Fr w [(g + 1, rzO s r n), (g, rnO)] w4 := ((Fr.nil hb4).cons (grown_blk hg4 (alloc_blk HN.out) (own_blk_ne hR HN.out (by decide)))).cons (grown_blk hg4 (alloc_blk HZ.out) (own_blk_ne hR HZ.out (by decide)))
        have hR4 : LayR s r n w w4 (.slice (some ⟨g4, 0, none⟩) (4 + 1) cap4) (4 + 1) := hO4
        clear hO4 hb4 hg4 hR hFr
        go_wp2
        go_roundw
        case rel => exact ⟨4 + 1, by omega, rfl, by first | rfl | (congr 1; simp only [bse]; omega), hF4, hR4⟩
        case measure => simp [intOf]
      · rw [show bse s r n 5 = 256 * s + s + r * s + s + s from rfl]
        have n0 : wr.cell? ⟨g, 5, none⟩ = some (.string ⟨#[104, 105, 116, 115]⟩) := Lib.cell_of_heap hN 5
        have z0 : wr.cell? ⟨g + 1, 5, none⟩ = some (.int .i64 (r)) := Lib.cell_of_heap hZ 5
        have HN := Lib.hid hN
        have HZ := Lib.hid hZ
        clear hN hZ
        go_wp2_with fail
        go_region_held3 (fun w' => w'.cell? ⟨g, 5, none⟩ = some (.string ⟨#[104, 105, 116, 115]⟩) ∧ w'.cell? ⟨g + 1, 5, none⟩ = some (.int .i64 (r)))
          (first | go_keep | exact ⟨Lib.cell_of_heap (grown_blk hg4 (alloc_blk HN.out) (own_blk_ne hR HN.out (by decide))) 5, Lib.cell_of_heap (grown_blk hg4 (alloc_blk HZ.out) (own_blk_ne hR HZ.out (by decide))) 5⟩)
          ((refine step_ap rgEl (w0 := w) (by exact hR.alloc _) (by exact (ba hFr.bel _).drew) [.string ⟨#[104, 105, 116, 115]⟩, .int .i64 (256 * s + s + r * s + s + s), .int .i64 (r)] (by exact alloc1_new _ _) ?_; intro g4 cap4 w4 hO4 hb4 hg4))
        have hF4 : Fr w [(g + 1, rzO s r n), (g, rnO)] w4 := ((Fr.nil hb4).cons (grown_blk hg4 (alloc_blk HN.out) (own_blk_ne hR HN.out (by decide)))).cons (grown_blk hg4 (alloc_blk HZ.out) (own_blk_ne hR HZ.out (by decide)))
        have hR4 : LayR s r n w w4 (.slice (some ⟨g4, 0, none⟩) (5 + 1) cap4) (5 + 1) := hO4
        clear hO4 hb4 hg4 hR hFr
        go_wp2
        go_roundw
        case rel => exact ⟨5 + 1, by omega, rfl, by first | rfl | (congr 1; simp only [bse]; omega), hF4, hR4⟩
        case measure => simp [intOf]
      · rw [show bse s r n 6 = 256 * s + s + r * s + s + s + r from rfl]
        have n0 : wr.cell? ⟨g, 6, none⟩ = some (.string ⟨#[115, 108, 111, 116, 115]⟩) := Lib.cell_of_heap hN 6
        have z0 : wr.cell? ⟨g + 1, 6, none⟩ = some (.int .i64 (3 * n)) := Lib.cell_of_heap hZ 6
        have HN := Lib.hid hN
        have HZ := Lib.hid hZ
        clear hN hZ
        go_wp2_with fail
        go_region_held3 (fun w' => w'.cell? ⟨g, 6, none⟩ = some (.string ⟨#[115, 108, 111, 116, 115]⟩) ∧ w'.cell? ⟨g + 1, 6, none⟩ = some (.int .i64 (3 * n)))
          (first | go_keep | exact ⟨Lib.cell_of_heap (grown_blk hg4 (alloc_blk HN.out) (own_blk_ne hR HN.out (by decide))) 6, Lib.cell_of_heap (grown_blk hg4 (alloc_blk HZ.out) (own_blk_ne hR HZ.out (by decide))) 6⟩)
          ((refine step_ap rgEl (w0 := w) (by exact hR.alloc _) (by exact (ba hFr.bel _).drew) [.string ⟨#[115, 108, 111, 116, 115]⟩, .int .i64 (256 * s + s + r * s + s + s + r), .int .i64 (3 * n)] (by exact alloc1_new _ _) ?_; intro g4 cap4 w4 hO4 hb4 hg4))
        have hF4 : Fr w [(g + 1, rzO s r n), (g, rnO)] w4 := ((Fr.nil hb4).cons (grown_blk hg4 (alloc_blk HN.out) (own_blk_ne hR HN.out (by decide)))).cons (grown_blk hg4 (alloc_blk HZ.out) (own_blk_ne hR HZ.out (by decide)))
        have hR4 : LayR s r n w w4 (.slice (some ⟨g4, 0, none⟩) (6 + 1) cap4) (6 + 1) := hO4
        clear hO4 hb4 hg4 hR hFr
        go_wp2
        go_roundw
        case rel => exact ⟨6 + 1, by omega, rfl, by first | rfl | (congr 1; simp only [bse]; omega), hF4, hR4⟩
        case measure => simp [intOf]
      · rw [show bse s r n 7 = 256 * s + s + r * s + s + s + r + 3 * n from rfl]
        have n0 : wr.cell? ⟨g, 7, none⟩ = some (.string ⟨#[114, 97, 110, 107, 115]⟩) := Lib.cell_of_heap hN 7
        have z0 : wr.cell? ⟨g + 1, 7, none⟩ = some (.int .i64 (n)) := Lib.cell_of_heap hZ 7
        have HN := Lib.hid hN
        have HZ := Lib.hid hZ
        clear hN hZ
        go_wp2_with fail
        go_region_held3 (fun w' => w'.cell? ⟨g, 7, none⟩ = some (.string ⟨#[114, 97, 110, 107, 115]⟩) ∧ w'.cell? ⟨g + 1, 7, none⟩ = some (.int .i64 (n)))
          (first | go_keep | exact ⟨Lib.cell_of_heap (grown_blk hg4 (alloc_blk HN.out) (own_blk_ne hR HN.out (by decide))) 7, Lib.cell_of_heap (grown_blk hg4 (alloc_blk HZ.out) (own_blk_ne hR HZ.out (by decide))) 7⟩)
          ((refine step_ap rgEl (w0 := w) (by exact hR.alloc _) (by exact (ba hFr.bel _).drew) [.string ⟨#[114, 97, 110, 107, 115]⟩, .int .i64 (256 * s + s + r * s + s + s + r + 3 * n), .int .i64 (n)] (by exact alloc1_new _ _) ?_; intro g4 cap4 w4 hO4 hb4 hg4))
        have hF4 : Fr w [(g + 1, rzO s r n), (g, rnO)] w4 := ((Fr.nil hb4).cons (grown_blk hg4 (alloc_blk HN.out) (own_blk_ne hR HN.out (by decide)))).cons (grown_blk hg4 (alloc_blk HZ.out) (own_blk_ne hR HZ.out (by decide)))
        have hR4 : LayR s r n w w4 (.slice (some ⟨g4, 0, none⟩) (7 + 1) cap4) (7 + 1) := hO4
        clear hO4 hb4 hg4 hR hFr
        go_wp2
        go_roundw
        case rel => exact ⟨7 + 1, by omega, rfl, by first | rfl | (congr 1; simp only [bse]; omega), hF4, hR4⟩
        case measure => simp [intOf]
      · rw [show bse s r n 8 = 256 * s + s + r * s + s + s + r + 3 * n + n from rfl]
        have n0 : wr.cell? ⟨g, 8, none⟩ = some (.string ⟨#[102, 108, 97, 103, 115]⟩) := Lib.cell_of_heap hN 8
        have z0 : wr.cell? ⟨g + 1, 8, none⟩ = some (.int .i64 (4)) := Lib.cell_of_heap hZ 8
        have HN := Lib.hid hN
        have HZ := Lib.hid hZ
        clear hN hZ
        go_wp2_with fail
        go_region_held3 (fun w' => w'.cell? ⟨g, 8, none⟩ = some (.string ⟨#[102, 108, 97, 103, 115]⟩) ∧ w'.cell? ⟨g + 1, 8, none⟩ = some (.int .i64 (4)))
          (first | go_keep | exact ⟨Lib.cell_of_heap (grown_blk hg4 (alloc_blk HN.out) (own_blk_ne hR HN.out (by decide))) 8, Lib.cell_of_heap (grown_blk hg4 (alloc_blk HZ.out) (own_blk_ne hR HZ.out (by decide))) 8⟩)
          ((refine step_ap rgEl (w0 := w) (by exact hR.alloc _) (by exact (ba hFr.bel _).drew) [.string ⟨#[102, 108, 97, 103, 115]⟩, .int .i64 (256 * s + s + r * s + s + s + r + 3 * n + n), .int .i64 (4)] (by exact alloc1_new _ _) ?_; intro g4 cap4 w4 hO4 hb4 hg4))
        have hF4 : Fr w [(g + 1, rzO s r n), (g, rnO)] w4 := ((Fr.nil hb4).cons (grown_blk hg4 (alloc_blk HN.out) (own_blk_ne hR HN.out (by decide)))).cons (grown_blk hg4 (alloc_blk HZ.out) (own_blk_ne hR HZ.out (by decide)))
        have hR4 : LayR s r n w w4 (.slice (some ⟨g4, 0, none⟩) (8 + 1) cap4) (8 + 1) := hO4
        clear hO4 hb4 hg4 hR hFr
        go_wp2
        go_roundw
        case rel => exact ⟨8 + 1, by omega, rfl, by first | rfl | (congr 1; simp only [bse]; omega), hF4, hR4⟩
        case measure => simp [intOf]
    · obtain rfl : j = 9 := by omega
      go_wp2
      go_ret2
      exact RetSl.of_own hR hFr.bel rfl rfl (by rw [List.take_of_length_le (by simp [lay_len])])
end Go.Proofs.YtjdbnfejidaeoaaDoor
