/- The layout. -/
import Derived.Test.YtmpdgckccgbdnaaDoorC3
namespace Go.Proofs.YtmpdgckccgbdnaaDoor
open Go.RowKit
abbrev Rg := ByteArray × Int × Int
def rgN (x : Rg) : Value := .string x.1
def rgB (x : Rg) : Value := .int .i64 x.2.1
def rgS (x : Rg) : Value := .int .i64 x.2.2
abbrev rgs (l : List Rg) : List Value := flat3 rgN rgB rgS l
theorem rgEl : Elem Tryd.prog 26 38 (.agg #[.string ⟨#[]⟩, .int .i64 0, .int .i64 0]) 3 32 := ⟨Tryd.underlying26, by kernel_rfl, rfl, by decide⟩
theorem rgs_app (l m : List Rg) : rgs (l ++ m) = rgs l ++ rgs m := flat3_append l m
def bse (s r n : Int) : Nat → Int
  | 0 => 0
  | 1 => 256 * s
  | 2 => 256 * s + s
  | 3 => 256 * s + s + r * s
  | 4 => 256 * s + s + r * s + s
  | 5 => 256 * s + s + r * s + s + s
  | 6 => 256 * s + s + r * s + s + s + r
  | 7 => 256 * s + s + r * s + s + s + r + 3 * n
  | 8 => 256 * s + s + r * s + s + s + r + 3 * n + n
  | _ => 256 * s + s + r * s + s + s + r + 3 * n + n + 4
def lay (s r n : Int) : List Rg := [(⟨#[116, 97, 98, 108, 101]⟩, 0, 256 * s), (⟨#[115, 116, 97, 114, 116, 115]⟩, 256 * s, s), (⟨#[102, 105, 110, 97, 108, 115]⟩, 256 * s + s, r * s), (⟨#[115, 116, 97, 116, 101]⟩, 256 * s + s + r * s, s), (⟨#[110, 101, 120, 116]⟩, 256 * s + s + r * s + s, s), (⟨#[104, 105, 116, 115]⟩, 256 * s + s + r * s + s + s, r), (⟨#[115, 108, 111, 116, 115]⟩, 256 * s + s + r * s + s + s + r, 3 * n), (⟨#[114, 97, 110, 107, 115]⟩, 256 * s + s + r * s + s + s + r + 3 * n, n), (⟨#[102, 108, 97, 103, 115]⟩, 256 * s + s + r * s + s + s + r + 3 * n + n, 4)]
theorem lay_len (s r n : Int) : (lay s r n).length = 9 := rfl
/-- what the loop has put together after k rounds -/
def LayR (s r n : Int) (w0 w : World) (v : Value) (k : Nat) : Prop := w.ownsRow w0.heap.size 38 3 v k (rgs ((lay s r n).take k))
abbrev plO (b k l s r n : Int) : Obj := .cells #[.int .i64 b, .int .i64 k, .int .i64 l, .int .i64 s, .int .i64 r, .int .i64 n] 45 (0, 0)
set_option maxRecDepth 100000 in
set_option maxHeartbeats 4000000 in
theorem layout_yes (b k l s r : Int) (h : Ok2 b k l s r) (w : World) :
    Calls Tryd.prog 4 #[cfV b k l, csV s r] w (RetSl w 3 (rgs (lay s r (k + b * r))) 9 0) := by
  have Hk := Lib.hid h
  obtain ⟨⟨hb, hk1, hk2, hl1, hl2⟩, hs1, hs2, hr1, hr2⟩ := h
  have hbr : 0 ≤ b * r ∧ b * r ≤ 256 := by rcases hb with rfl | rfl | rfl | rfl | rfl <;> omega
  have hrs : 0 ≤ r * s ∧ r * s ≤ 64 := by rcases (show s = 1 ∨ s = 2 ∨ s = 3 ∨ s = 4 by omega) with rfl | rfl | rfl | rfl <;> omega
  clear hb
  obtain ⟨hrs1, hrs2⟩ := hrs
  obtain ⟨n, hn⟩ : ∃ n, n = k + b * r := ⟨_, rfl⟩
  have hn1 : 0 ≤ n := by omega
  have hn2 : n ≤ 300 := by omega
  clear hbr
  rw [← hn]
  have Hn := Lib.hid hn
  clear hn
  go_enter Tryd.func4, Tryd.ntmps4
  go_wp2_with fail
  (with_reducible refine (planned_yes b k l s r Hk.out _).mono ?_); rintro e w1 ⟨rfl, hb1⟩
  rw [← Hn.out]
  have hF1 : Fr w [(w.heap.size + 1, csO s r), (w.heap.size, cfO b k l)] w1 := (((Fr.start w).newN rfl (cfO b k l)).newN (by simp) (csO s r)).go hb1
  go_wp2_with fail
  have hF2 : Fr w [(w1.heap.size, plO b k l s r n)] (w1.alloc (plO b k l s r n)) := (hF1.newN rfl (plO b k l s r n)).sub (by simp)
  have hG : w.heap.size ≤ w1.heap.size := hF1.bel.size
  clear hb1 hF1
  (with_reducible refine (rows_ _).mono ?_); rintro e w2 ⟨rfl, hb2⟩
  have hF := hF2.go hb2
  clear hF2 hb2
  generalize hg : w1.heap.size = g at *
  clear hg w1
  go_wp2_with fail
  go_loopw [8, 9, 23] (fun v z i wr => ∃ j : Nat, j ≤ 9 ∧ i = .int .i64 j ∧ z = .int .i64 (bse s r n j) ∧ Fr w [(g, plO b k l s r n)] wr ∧ LayR s r n w wr v j) (fun _ _ i _ => 9 - (intOf i).toNat)
  case atStart => exact ⟨0, by omega, rfl, rfl, hF, World.ownsRow_nil _ _ _ _⟩
  case round =>
    obtain ⟨j, hj, rfl, rfl, hFr, hR⟩ := hrel
    by_cases hlt : j < 9
    · have hO := hFr.at (g := g) List.mem_cons_self
      obtain ⟨o0, o1, o2, o3, o4, o5⟩ : _ ∧ _ ∧ _ ∧ _ ∧ _ ∧ _ := ⟨Lib.cell_of_heap hO 0, Lib.cell_of_heap hO 1, Lib.cell_of_heap hO 2, Lib.cell_of_heap hO 3, Lib.cell_of_heap hO 4, Lib.cell_of_heap hO 5⟩
      have hgl := hFr.lt (g := g) List.mem_cons_self
      rcases (show j = 0 ∨ j = 1 ∨ j = 2 ∨ j = 3 ∨ j = 4 ∨ j = 5 ∨ j = 6 ∨ j = 7 ∨ j = 8 by omega) with rfl | rfl | rfl | rfl | rfl | rfl | rfl | rfl | rfl
      · rw [show bse s r n 0 = 0 from rfl]
        have ix : ∀ w, (Instr.index 51 (.agg rowsV) (.int .i64 0)).run Tryd.prog w = .ok (.agg #[.string ⟨#[116, 97, 98, 108, 101]⟩, .func (Fn.func 26) #[] #[]]) w := fun _ => by kernel_rfl
        go_wp2_with fail
        (with_reducible refine (rows2 b k l s r n ⟨hs1, hs2⟩ ⟨hr1, hr2⟩ ⟨hrs1, hrs2⟩ ⟨hn1, hn2⟩ _).mono ?_); rintro e w3 ⟨rfl, hb3⟩
        have hF3 := (hFr.al _).go hb3
        have hR3 := own_below (World.ownsRow.alloc hR (.cells #[.string ⟨#[116, 97, 98, 108, 101]⟩, .func (Fn.func 26) #[] #[]] 50 (0, 0))) hb3
        have hN := (below_blk hb3 (by simp) (alloc1_new wr (.cells #[.string ⟨#[116, 97, 98, 108, 101]⟩, .func (Fn.func 26) #[] #[]] 50 (0, 0))))
        have n0 := Lib.cell_of_heap hN 0
        clear hb3 hN ix
        go_wp2_with (at_builtin; refine wpList_ap rgEl (w0 := w) (hR3.alloc _) (ba hF3.bel _) [.string ⟨#[116, 97, 98, 108, 101]⟩, .int .i64 (0), .int .i64 (256 * s)] (by exact alloc1_new _ _) ?_)
        intro g4 cap4 w4 hO4 hb4 hg4
        have hF4 := Fr.grown1 (hF3.al _) hb4 hg4 (own_blk_ne hR3 (hF3.at List.mem_cons_self) (by decide))
        have hR4 : LayR s r n w w4 (.slice (some ⟨g4, 0, none⟩) (0 + 1) cap4) (0 + 1) := hO4
        clear hO4 hb4 hg4 hF3 hR3 n0
        go_wp2
        go_roundw
        case rel => exact ⟨0 + 1, by omega, rfl, by first | rfl | (congr 1; simp only [bse]; omega), hF4, hR4⟩
        case measure => simp [intOf]
      · rw [show bse s r n 1 = 256 * s from rfl]
        have ix : ∀ w, (Instr.index 51 (.agg rowsV) (.int .i64 1)).run Tryd.prog w = .ok (.agg #[.string ⟨#[115, 116, 97, 114, 116, 115]⟩, .func (Fn.func 25) #[] #[]]) w := fun _ => by kernel_rfl
        go_wp2_with fail
        (with_reducible refine (rows1 b k l s r n ⟨hs1, hs2⟩ ⟨hr1, hr2⟩ ⟨hrs1, hrs2⟩ ⟨hn1, hn2⟩ _).mono ?_); rintro e w3 ⟨rfl, hb3⟩
        have hF3 := (hFr.al _).go hb3
        have hR3 := own_below (World.ownsRow.alloc hR (.cells #[.string ⟨#[115, 116, 97, 114, 116, 115]⟩, .func (Fn.func 25) #[] #[]] 50 (0, 0))) hb3
        have hN := (below_blk hb3 (by simp) (alloc1_new wr (.cells #[.string ⟨#[115, 116, 97, 114, 116, 115]⟩, .func (Fn.func 25) #[] #[]] 50 (0, 0))))
        have n0 := Lib.cell_of_heap hN 0
        clear hb3 hN ix
        go_wp2_with (at_builtin; refine wpList_ap rgEl (w0 := w) (hR3.alloc _) (ba hF3.bel _) [.string ⟨#[115, 116, 97, 114, 116, 115]⟩, .int .i64 (256 * s), .int .i64 (s)] (by exact alloc1_new _ _) ?_)
        intro g4 cap4 w4 hO4 hb4 hg4
        have hF4 := Fr.grown1 (hF3.al _) hb4 hg4 (own_blk_ne hR3 (hF3.at List.mem_cons_self) (by decide))
        have hR4 : LayR s r n w w4 (.slice (some ⟨g4, 0, none⟩) (1 + 1) cap4) (1 + 1) := hO4
        clear hO4 hb4 hg4 hF3 hR3 n0
        go_wp2
        go_roundw
        case rel => exact ⟨1 + 1, by omega, rfl, by first | rfl | (congr 1; simp only [bse]; omega), hF4, hR4⟩
        case measure => simp [intOf]
      · rw [show bse s r n 2 = 256 * s + s from rfl]
        have ix : ∀ w, (Instr.index 51 (.agg rowsV) (.int .i64 2)).run Tryd.prog w = .ok (.agg #[.string ⟨#[102, 105, 110, 97, 108, 115]⟩, .func (Fn.func 27) #[] #[]]) w := fun _ => by kernel_rfl
        go_wp2_with fail
        (with_reducible refine (rows3 b k l s r n ⟨hs1, hs2⟩ ⟨hr1, hr2⟩ ⟨hrs1, hrs2⟩ ⟨hn1, hn2⟩ _).mono ?_); rintro e w3 ⟨rfl, hb3⟩
        have hF3 := (hFr.al _).go hb3
        have hR3 := own_below (World.ownsRow.alloc hR (.cells #[.string ⟨#[102, 105, 110, 97, 108, 115]⟩, .func (Fn.func 27) #[] #[]] 50 (0, 0))) hb3
        have hN := (below_blk hb3 (by simp) (alloc1_new wr (.cells #[.string ⟨#[102, 105, 110, 97, 108, 115]⟩, .func (Fn.func 27) #[] #[]] 50 (0, 0))))
        have n0 := Lib.cell_of_heap hN 0
        clear hb3 hN ix
        go_wp2_with (at_builtin; refine wpList_ap rgEl (w0 := w) (hR3.alloc _) (ba hF3.bel _) [.string ⟨#[102, 105, 110, 97, 108, 115]⟩, .int .i64 (256 * s + s), .int .i64 (r * s)] (by exact alloc1_new _ _) ?_)
        intro g4 cap4 w4 hO4 hb4 hg4
        have hF4 := Fr.grown1 (hF3.al _) hb4 hg4 (own_blk_ne hR3 (hF3.at List.mem_cons_self) (by decide))
        have hR4 : LayR s r n w w4 (.slice (some ⟨g4, 0, none⟩) (2 + 1) cap4) (2 + 1) := hO4
        clear hO4 hb4 hg4 hF3 hR3 n0
        go_wp2
        go_roundw
        case rel => exact ⟨2 + 1, by omega, rfl, by first | rfl | (congr 1; simp only [bse]; omega), hF4, hR4⟩
        case measure => simp [intOf]
      · rw [show bse s r n 3 = 256 * s + s + r * s from rfl]
        have ix : ∀ w, (Instr.index 51 (.agg rowsV) (.int .i64 3)).run Tryd.prog w = .ok (.agg #[.string ⟨#[115, 116, 97, 116, 101]⟩, .func (Fn.func 25) #[] #[]]) w := fun _ => by kernel_rfl
        go_wp2_with fail
        (with_reducible refine (rows1 b k l s r n ⟨hs1, hs2⟩ ⟨hr1, hr2⟩ ⟨hrs1, hrs2⟩ ⟨hn1, hn2⟩ _).mono ?_); rintro e w3 ⟨rfl, hb3⟩
        have hF3 := (hFr.al _).go hb3
        have hR3 := own_below (World.ownsRow.alloc hR (.cells #[.string ⟨#[115, 116, 97, 116, 101]⟩, .func (Fn.func 25) #[] #[]] 50 (0, 0))) hb3
        have hN := (below_blk hb3 (by simp) (alloc1_new wr (.cells #[.string ⟨#[115, 116, 97, 116, 101]⟩, .func (Fn.func 25) #[] #[]] 50 (0, 0))))
        have n0 := Lib.cell_of_heap hN 0
        clear hb3 hN ix
        go_wp2_with (at_builtin; refine wpList_ap rgEl (w0 := w) (hR3.alloc _) (ba hF3.bel _) [.string ⟨#[115, 116, 97, 116, 101]⟩, .int .i64 (256 * s + s + r * s), .int .i64 (s)] (by exact alloc1_new _ _) ?_)
        intro g4 cap4 w4 hO4 hb4 hg4
        have hF4 := Fr.grown1 (hF3.al _) hb4 hg4 (own_blk_ne hR3 (hF3.at List.mem_cons_self) (by decide))
        have hR4 : LayR s r n w w4 (.slice (some ⟨g4, 0, none⟩) (3 + 1) cap4) (3 + 1) := hO4
        clear hO4 hb4 hg4 hF3 hR3 n0
        go_wp2
        go_roundw
        case rel => exact ⟨3 + 1, by omega, rfl, by first | rfl | (congr 1; simp only [bse]; omega), hF4, hR4⟩
        case measure => simp [intOf]
      · rw [show bse s r n 4 = 256 * s + s + r * s + s from rfl]
        have ix : ∀ w, (Instr.index 51 (.agg rowsV) (.int .i64 4)).run Tryd.prog w = .ok (.agg #[.string ⟨#[110, 101, 120, 116]⟩, .func (Fn.func 25) #[] #[]]) w := fun _ => by kernel_rfl
        go_wp2_with fail
        (with_reducible refine (rows1 b k l s r n ⟨hs1, hs2⟩ ⟨hr1, hr2⟩ ⟨hrs1, hrs2⟩ ⟨hn1, hn2⟩ _).mono ?_); rintro e w3 ⟨rfl, hb3⟩
        have hF3 := (hFr.al _).go hb3
        have hR3 := own_below (World.ownsRow.alloc hR (.cells #[.string ⟨#[110, 101, 120, 116]⟩, .func (Fn.func 25) #[] #[]] 50 (0, 0))) hb3
        have hN := (below_blk hb3 (by simp) (alloc1_new wr (.cells #[.string ⟨#[110, 101, 120, 116]⟩, .func (Fn.func 25) #[] #[]] 50 (0, 0))))
        have n0 := Lib.cell_of_heap hN 0
        clear hb3 hN ix
        go_wp2_with (at_builtin; refine wpList_ap rgEl (w0 := w) (hR3.alloc _) (ba hF3.bel _) [.string ⟨#[110, 101, 120, 116]⟩, .int .i64 (256 * s + s + r * s + s), .int .i64 (s)] (by exact alloc1_new _ _) ?_)
        intro g4 cap4 w4 hO4 hb4 hg4
        have hF4 := Fr.grown1 (hF3.al _) hb4 hg4 (own_blk_ne hR3 (hF3.at List.mem_cons_self) (by decide))
        have hR4 : LayR s r n w w4 (.slice (some ⟨g4, 0, none⟩) (4 + 1) cap4) (4 + 1) := hO4
        clear hO4 hb4 hg4 hF3 hR3 n0
        go_wp2
        go_roundw
        case rel => exact ⟨4 + 1, by omega, rfl, by first | rfl | (congr 1; simp only [bse]; omega), hF4, hR4⟩
        case measure => simp [intOf]
      · rw [show bse s r n 5 = 256 * s + s + r * s + s + s from rfl]
        have ix : ∀ w, (Instr.index 51 (.agg rowsV) (.int .i64 5)).run Tryd.prog w = .ok (.agg #[.string ⟨#[104, 105, 116, 115]⟩, .func (Fn.func 28) #[] #[]]) w := fun _ => by kernel_rfl
        go_wp2_with fail
        (with_reducible refine (rows4 b k l s r n ⟨hs1, hs2⟩ ⟨hr1, hr2⟩ ⟨hrs1, hrs2⟩ ⟨hn1, hn2⟩ _).mono ?_); rintro e w3 ⟨rfl, hb3⟩
        have hF3 := (hFr.al _).go hb3
        have hR3 := own_below (World.ownsRow.alloc hR (.cells #[.string ⟨#[104, 105, 116, 115]⟩, .func (Fn.func 28) #[] #[]] 50 (0, 0))) hb3
        have hN := (below_blk hb3 (by simp) (alloc1_new wr (.cells #[.string ⟨#[104, 105, 116, 115]⟩, .func (Fn.func 28) #[] #[]] 50 (0, 0))))
        have n0 := Lib.cell_of_heap hN 0
        clear hb3 hN ix
        go_wp2_with (at_builtin; refine wpList_ap rgEl (w0 := w) (hR3.alloc _) (ba hF3.bel _) [.string ⟨#[104, 105, 116, 115]⟩, .int .i64 (256 * s + s + r * s + s + s), .int .i64 (r)] (by exact alloc1_new _ _) ?_)
        intro g4 cap4 w4 hO4 hb4 hg4
        have hF4 := Fr.grown1 (hF3.al _) hb4 hg4 (own_blk_ne hR3 (hF3.at List.mem_cons_self) (by decide))
        have hR4 : LayR s r n w w4 (.slice (some ⟨g4, 0, none⟩) (5 + 1) cap4) (5 + 1) := hO4
        clear hO4 hb4 hg4 hF3 hR3 n0
        go_wp2
        go_roundw
        case rel => exact ⟨5 + 1, by omega, rfl, by first | rfl | (congr 1; simp only [bse]; omega), hF4, hR4⟩
        case measure => simp [intOf]
      · rw [show bse s r n 6 = 256 * s + s + r * s + s + s + r from rfl]
        have ix : ∀ w, (Instr.index 51 (.agg rowsV) (.int .i64 6)).run Tryd.prog w = .ok (.agg #[.string ⟨#[115, 108, 111, 116, 115]⟩, .func (Fn.func 29) #[] #[]]) w := fun _ => by kernel_rfl
        go_wp2_with fail
        (with_reducible refine (rows5 b k l s r n ⟨hs1, hs2⟩ ⟨hr1, hr2⟩ ⟨hrs1, hrs2⟩ ⟨hn1, hn2⟩ _).mono ?_); rintro e w3 ⟨rfl, hb3⟩
        have hF3 := (hFr.al _).go hb3
        have hR3 := own_below (World.ownsRow.alloc hR (.cells #[.string ⟨#[115, 108, 111, 116, 115]⟩, .func (Fn.func 29) #[] #[]] 50 (0, 0))) hb3
        have hN := (below_blk hb3 (by simp) (alloc1_new wr (.cells #[.string ⟨#[115, 108, 111, 116, 115]⟩, .func (Fn.func 29) #[] #[]] 50 (0, 0))))
        have n0 := Lib.cell_of_heap hN 0
        clear hb3 hN ix
        go_wp2_with (at_builtin; refine wpList_ap rgEl (w0 := w) (hR3.alloc _) (ba hF3.bel _) [.string ⟨#[115, 108, 111, 116, 115]⟩, .int .i64 (256 * s + s + r * s + s + s + r), .int .i64 (3 * n)] (by exact alloc1_new _ _) ?_)
        intro g4 cap4 w4 hO4 hb4 hg4
        have hF4 := Fr.grown1 (hF3.al _) hb4 hg4 (own_blk_ne hR3 (hF3.at List.mem_cons_self) (by decide))
        have hR4 : LayR s r n w w4 (.slice (some ⟨g4, 0, none⟩) (6 + 1) cap4) (6 + 1) := hO4
        clear hO4 hb4 hg4 hF3 hR3 n0
        go_wp2
        go_roundw
        case rel => exact ⟨6 + 1, by omega, rfl, by first | rfl | (congr 1; simp only [bse]; omega), hF4, hR4⟩
        case measure => simp [intOf]
      · rw [show bse s r n 7 = 256 * s + s + r * s + s + s + r + 3 * n from rfl]
        have ix : ∀ w, (Instr.index 51 (.agg rowsV) (.int .i64 7)).run Tryd.prog w = .ok (.agg #[.string ⟨#[114, 97, 110, 107, 115]⟩, .func (Fn.func 30) #[] #[]]) w := fun _ => by kernel_rfl
        go_wp2_with fail
        (with_reducible refine (rows6 b k l s r n ⟨hs1, hs2⟩ ⟨hr1, hr2⟩ ⟨hrs1, hrs2⟩ ⟨hn1, hn2⟩ _).mono ?_); rintro e w3 ⟨rfl, hb3⟩
        have hF3 := (hFr.al _).go hb3
        have hR3 := own_below (World.ownsRow.alloc hR (.cells #[.string ⟨#[114, 97, 110, 107, 115]⟩, .func (Fn.func 30) #[] #[]] 50 (0, 0))) hb3
        have hN := (below_blk hb3 (by simp) (alloc1_new wr (.cells #[.string ⟨#[114, 97, 110, 107, 115]⟩, .func (Fn.func 30) #[] #[]] 50 (0, 0))))
        have n0 := Lib.cell_of_heap hN 0
        clear hb3 hN ix
        go_wp2_with (at_builtin; refine wpList_ap rgEl (w0 := w) (hR3.alloc _) (ba hF3.bel _) [.string ⟨#[114, 97, 110, 107, 115]⟩, .int .i64 (256 * s + s + r * s + s + s + r + 3 * n), .int .i64 (n)] (by exact alloc1_new _ _) ?_)
        intro g4 cap4 w4 hO4 hb4 hg4
        have hF4 := Fr.grown1 (hF3.al _) hb4 hg4 (own_blk_ne hR3 (hF3.at List.mem_cons_self) (by decide))
        have hR4 : LayR s r n w w4 (.slice (some ⟨g4, 0, none⟩) (7 + 1) cap4) (7 + 1) := hO4
        clear hO4 hb4 hg4 hF3 hR3 n0
        go_wp2
        go_roundw
        case rel => exact ⟨7 + 1, by omega, rfl, by first | rfl | (congr 1; simp only [bse]; omega), hF4, hR4⟩
        case measure => simp [intOf]
      · rw [show bse s r n 8 = 256 * s + s + r * s + s + s + r + 3 * n + n from rfl]
        have ix : ∀ w, (Instr.index 51 (.agg rowsV) (.int .i64 8)).run Tryd.prog w = .ok (.agg #[.string ⟨#[102, 108, 97, 103, 115]⟩, .func (Fn.func 31) #[] #[]]) w := fun _ => by kernel_rfl
        go_wp2_with fail
        (with_reducible refine (rows7 b k l s r n ⟨hs1, hs2⟩ ⟨hr1, hr2⟩ ⟨hrs1, hrs2⟩ ⟨hn1, hn2⟩ _).mono ?_); rintro e w3 ⟨rfl, hb3⟩
        have hF3 := (hFr.al _).go hb3
        have hR3 := own_below (World.ownsRow.alloc hR (.cells #[.string ⟨#[102, 108, 97, 103, 115]⟩, .func (Fn.func 31) #[] #[]] 50 (0, 0))) hb3
        have hN := (below_blk hb3 (by simp) (alloc1_new wr (.cells #[.string ⟨#[102, 108, 97, 103, 115]⟩, .func (Fn.func 31) #[] #[]] 50 (0, 0))))
        have n0 := Lib.cell_of_heap hN 0
        clear hb3 hN ix
        go_wp2_with (at_builtin; refine wpList_ap rgEl (w0 := w) (hR3.alloc _) (ba hF3.bel _) [.string ⟨#[102, 108, 97, 103, 115]⟩, .int .i64 (256 * s + s + r * s + s + s + r + 3 * n + n), .int .i64 (4)] (by exact alloc1_new _ _) ?_)
        intro g4 cap4 w4 hO4 hb4 hg4
        have hF4 := Fr.grown1 (hF3.al _) hb4 hg4 (own_blk_ne hR3 (hF3.at List.mem_cons_self) (by decide))
        have hR4 : LayR s r n w w4 (.slice (some ⟨g4, 0, none⟩) (8 + 1) cap4) (8 + 1) := hO4
        clear hO4 hb4 hg4 hF3 hR3 n0
        go_wp2
        go_roundw
        case rel => exact ⟨8 + 1, by omega, rfl, by first | rfl | (congr 1; simp only [bse]; omega), hF4, hR4⟩
        case measure => simp [intOf]
    · obtain rfl : j = 9 := by omega
      go_wp2
      go_ret2
      exact RetSl.of_own hR hFr.bel rfl rfl (by rw [List.take_of_length_le (by simp [lay_len])])
end Go.Proofs.YtmpdgckccgbdnaaDoor
