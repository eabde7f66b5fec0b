/- WordsLines: for all strings the law returns true. No condition. -/
import Derived.Test.YtngbgchnbcfliaaDoorN12
import Derived.Test.YtngbgchnbcfliaaDoorN21
namespace Go.Proofs.YtngbgchnbcfliaaDoor
open Go.RowKit
theorem made_u8 (n : Nat) : madeCells #[.int .u8 0] n = (bs8 (List.replicate n 0)).toArray := by
  apply Array.ext
  · simp [madeCells, bs8]
  · intro i h1 h2
    simp [madeCells, bs8, Nat.mod_one]
theorem mk_u8 (n : Nat) (hn : n ≤ 1099511627776) : ∃ cs : List UInt8, cs.length = n ∧ ∀ w : World, (Instr.makeSlice 38 (.int .i64 (n : Int)) (.int .i64 (n : Int))).run Tryd.prog w = .ok (.slice (some ⟨w.heap.size, 0, none⟩) n n) (w.alloc (.cells (bs8 cs).toArray 5 (0, 0))) := by
  refine ⟨List.replicate n 0, by simp, fun w => ?_⟩
  rw [← made_u8]
  exact run_mk1 u8El rfl .i64 .i64 n n (Nat.le_refl _) (by omega) (by omega) w
theorem bs8_at {w : World} {g k : Nat} {bs : List UInt8} (h : w.heap[g]? = some (.cells (bs8 bs).toArray 5 (0, 0))) (hk : k < bs.length) :
    (∃ x : Int, w.cell? ⟨g, k, none⟩ = some (.int .u8 x)) ∧ w.frozen? ⟨g, k, none⟩ = false := by
  refine ⟨⟨(bs[k].toNat : Int), ?_⟩, Lib.frozen_of_heap h k⟩
  rw [Lib.cell_of_heap h k]
  simp [bs8, hk]
theorem bs8_set {w : World} {g k : Nat} {bs : List UInt8} (h : w.heap[g]? = some (.cells (bs8 bs).toArray 5 (0, 0))) (c : UInt8) :
    (w.setCell ⟨g, k, none⟩ (.int .u8 (c.toNat : Int))).heap[g]? = some (.cells (bs8 (bs.set k c)).toArray 5 (0, 0)) := by
  rw [set_same (i := k) h, List.setIfInBounds_toArray]
  simp [bs8, List.map_set]
/-- the bytes that are laid -/
def ByB (w : World) (g n : Nat) (wr : World) : Prop := Below w.heap.size w wr ∧ ∃ bs : List UInt8, bs.length = n ∧ wr.heap[g]? = some (.cells (bs8 bs).toArray 5 (0, 0))
theorem ByB.set {w wr : World} {g n : Nat} (h : ByB w g n wr) (hg : w.heap.size ≤ g) (k : Nat) (c : UInt8) (x : Int) (hx : x = (c.toNat : Int)) : ByB w g n (wr.setCell ⟨g, k, none⟩ (.int .u8 x)) := by
  subst hx
  obtain ⟨hb, bs, hl, hh⟩ := h
  exact ⟨hb.setCell (p := ⟨g, k, none⟩) hg _, bs.set k c, by simp [hl], bs8_set hh c⟩
theorem ByB.at {w wr : World} {g n k : Nat} (h : ByB w g n wr) (hk : k < n) : (∃ x : Int, wr.cell? ⟨g, k, none⟩ = some (.int .u8 x)) ∧ wr.frozen? ⟨g, k, none⟩ = false := by
  obtain ⟨hb, bs, hl, hh⟩ := h
  exact bs8_at hh (by omega)
theorem conv_bs {w : World} {g n : Nat} {bs : List UInt8} (hl : bs.length = n) (h : w.heap[g]? = some (.cells (bs8 bs).toArray 5 (0, 0))) :
    (convert 38 9 (.slice (some ⟨g, 0, none⟩) n n)).run Tryd.prog w = .ok (.string ⟨bs.toArray⟩) w := by
  subst hl
  have hr := reads_blk (cs := bs8 bs) h
  have hl2 : (bs8 bs).length = bs.length := by simp [bs8]
  have := run_conv (c := bs.length) Tryd.underlying38 Tryd.underlying5 Tryd.underlying9 (l := bs) hr
  rw [hl2] at this
  exact this
set_option maxRecDepth 100000 in
set_option maxHeartbeats 4000000 in
theorem wordsLines_walk (w : World) (s : ByteArray) (_hs : s.size ≤ 140737488351232) (tail : ByteArray) (_ht : tail.size ≤ 140737488351232) (long : Bool) (hP : Pow w) (hR : ER w) (hE : Esc w) (hM : ML w) :
    Calls Tryd.prog 8 #[.string s, .string tail, .bool long] w fun e w' => e = .returned (.bool true) ∧ Below w.heap.size w w' := by
  by_cases h1 : 12000 < s.size
  · have i1 : (12000 : Int) < (s.size : Int) := by omega
    go_enter Tryd.func8, Tryd.ntmps8
    go_wp2_with fail
    (with_reducible refine (shown_ _ hE hM hR hP).mono ?_); rintro e w9 ⟨rfl, hb9⟩
    go_wp2
    go_ret
    exact ⟨rfl, hb9⟩
  have i1 : ¬ ((12000 : Int) < (s.size : Int)) := by omega
  by_cases h2 : 100 < tail.size
  · have i2 : (100 : Int) < (tail.size : Int) := by omega
    go_enter Tryd.func8, Tryd.ntmps8
    go_wp2_with fail
    (with_reducible refine (shown_ _ hE hM hR hP).mono ?_); rintro e w9 ⟨rfl, hb9⟩
    go_wp2
    go_ret
    exact ⟨rfl, hb9⟩
  have i2 : ¬ ((100 : Int) < (tail.size : Int)) := by omega
  obtain ⟨b5, hb5, hmk5⟩ := mk_u8 5000 (by omega)
  have hmk5 : ∀ w : World, (Instr.makeSlice 38 (.int .i64 5000) (.int .i64 5000)).run Tryd.prog w = .ok (.slice (some ⟨w.heap.size, 0, none⟩) 5000 5000) (w.alloc (.cells (bs8 b5).toArray 5 (0, 0))) := fun w => hmk5 w
  have hs9 : s.size ≤ 1000000000 := by omega
  cases long
  case false =>
    have hB0 : Hid (ByB w w.heap.size 5000 (w.alloc (.cells (bs8 b5).toArray 5 (0, 0)))) := Lib.hid ⟨ba (Below.refl _ _) _, b5, hb5, alloc1_new _ _⟩
    clear h1 h2
    go_enter Tryd.func8, Tryd.ntmps8
    go_wp2
    go_loopw [8] (fun i wr => ∃ k : Nat, k ≤ 5000 ∧ i = .int .i64 k ∧ Hid (ByB w w.heap.size 5000 wr)) (fun i _ => 5000 - (intOf i).toNat)
    case atStart => exact ⟨0, Nat.zero_le _, rfl, hB0⟩
    case round =>
      obtain ⟨k, hk, rfl, hBy⟩ := hrel
      by_cases hlt : k < 5000
      · have j1 : (k : Int) < 5000 := by omega
        have j0 : (0 : Int) ≤ (k : Int) := by omega
        obtain ⟨⟨x, c1⟩, f1⟩ := hBy.out.at hlt
        have hB1 := Lib.hid (hBy.out.set (by omega) k 10 10 rfl)
        clear hBy
        go_wp2
        go_roundw
        case rel => exact ⟨k + 1, by omega, by go_num, hB1⟩
        case measure => simp [intOf]; omega
      · have j1 : ¬ ((k : Int) < 5000) := by omega
        obtain ⟨hbw, bs, hbl, hbh⟩ := hBy.out
        have hTs : (⟨bs.toArray⟩ : ByteArray).size = 5000 := hbl
        obtain ⟨T, hT⟩ : ∃ T : ByteArray, T = ⟨bs.toArray⟩ := ⟨_, rfl⟩
        rw [← hT] at hTs
        have hcv := Lib.hid (fun (W : World) (hh : W.heap[w.heap.size]? = some (.cells (bs8 bs).toArray 5 (0, 0))) => conv_bs hbl hh)
        rw [← hT] at hcv
        have Hbh := Lib.hid hbh
        have m1 : ¬ (9223372036854775807 < T.size + tail.size) := by omega
        have hTT : (T ++ tail).size ≤ 1000000000 := by rw [ByteArray.size_append]; omega
        clear hbh hT hBy hlt hbl hTs
        go_wp2_with fail
        (with_reducible refine (linesE s _ (hM.below hbw) hs9).mono ?_); rintro e w5 ⟨rfl, hb5'⟩
        have hcv5 := hcv.out w5 (below_blk hb5' (heap_lt Hbh.out) Hbh.out)
        have hB5 := bt hbw hb5'
        go_wp2_with fail
        (with_reducible refine (linesE (T ++ tail) _ (hM.below hB5) hTT).mono ?_); rintro e w6 ⟨rfl, hb6'⟩
        have hB6 := bt hB5 hb6'
        go_wp2_with fail
        (with_reducible refine (shown_ _ (hE.below hB6) (hM.below hB6) (hR.below hB6) (hP.below hB6)).mono ?_); rintro e w9 ⟨rfl, hb9⟩
        go_wp2
        go_ret
        exact ⟨rfl, bt hB6 hb9⟩
  case true =>
    obtain ⟨b6, hb6, hmk6⟩ := mk_u8 1048556 (by omega)
    have hmk6 : ∀ w : World, (Instr.makeSlice 38 (.int .i64 1048556) (.int .i64 1048556)).run Tryd.prog w = .ok (.slice (some ⟨w.heap.size, 0, none⟩) 1048556 1048556) (w.alloc (.cells (bs8 b6).toArray 5 (0, 0))) := fun w => hmk6 w
    have hB0 : Hid (ByB w (w.heap.size + 1) 1048556 ((w.alloc (.cells (bs8 b5).toArray 5 (0, 0))).alloc (.cells (bs8 b6).toArray 5 (0, 0)))) := Lib.hid ⟨ba (ba (Below.refl _ _) _) _, b6, hb6, alloc2_new _ _ _⟩
    clear h1 h2
    go_enter Tryd.func8, Tryd.ntmps8
    go_wp2
    go_loopw [8] (fun i wr => ∃ k : Nat, k ≤ 1048556 ∧ i = .int .i64 k ∧ Hid (ByB w (w.heap.size + 1) 1048556 wr)) (fun i _ => 1048556 - (intOf i).toNat)
    case atStart => exact ⟨0, Nat.zero_le _, rfl, hB0⟩
    case round =>
      obtain ⟨k, hk, rfl, hBy⟩ := hrel
      by_cases hlt : k < 1048556
      · have j1 : (k : Int) < 1048556 := by omega
        have j0 : (0 : Int) ≤ (k : Int) := by omega
        obtain ⟨⟨x, c1⟩, f1⟩ := hBy.out.at hlt
        have hB1 := Lib.hid (hBy.out.set (by omega) k 10 10 rfl)
        have hm : Int.tmod (k : Int) 1000 = ((k % 1000 : Nat) : Int) := rfl
        obtain ⟨q, hq⟩ : ∃ q, q = k % 1000 := ⟨_, rfl⟩
        rw [← hq] at hm
        clear hq
        obtain ⟨⟨x2, c2⟩, f2⟩ := hB1.out.at hlt
        have hB2 := Lib.hid (hB1.out.set (by omega) k 120 120 rfl)
        by_cases hk0 : q = 0
        · have m0 : ((q : Int) != 0) = false := by rw [hk0]; rfl
          clear hBy hk0
          go_wp2
          go_roundw
          case rel => exact ⟨k + 1, by omega, by go_num, hB1⟩
          case measure => simp [intOf]; omega
        · have m0 : ((q : Int) != 0) = true := by simp; omega
          clear hBy hk0
          go_wp2
          go_roundw
          case rel => exact ⟨k + 1, by omega, by go_num, hB2⟩
          case measure => simp [intOf]; omega
      · have j1 : ¬ ((k : Int) < 1048556) := by omega
        obtain ⟨hbw, bs, hbl, hbh⟩ := hBy.out
        have hTs : (⟨bs.toArray⟩ : ByteArray).size = 1048556 := hbl
        obtain ⟨T, hT⟩ : ∃ T : ByteArray, T = ⟨bs.toArray⟩ := ⟨_, rfl⟩
        rw [← hT] at hTs
        have hcv := Lib.hid (fun (W : World) (hh : W.heap[w.heap.size + 1]? = some (.cells (bs8 bs).toArray 5 (0, 0))) => conv_bs hbl hh)
        rw [← hT] at hcv
        have Hbh := Lib.hid hbh
        have m1 : ¬ (9223372036854775807 < T.size + tail.size) := by omega
        have hTT : (T ++ tail).size ≤ 1000000000 := by rw [ByteArray.size_append]; omega
        clear hbh hT hBy hlt hbl hTs
        go_wp2_with fail
        (with_reducible refine (linesE s _ (hM.below hbw) hs9).mono ?_); rintro e w5 ⟨rfl, hb5'⟩
        have hcv5 := hcv.out w5 (below_blk hb5' (heap_lt Hbh.out) Hbh.out)
        have hB5 := bt hbw hb5'
        go_wp2_with fail
        (with_reducible refine (linesE (T ++ tail) _ (hM.below hB5) hTT).mono ?_); rintro e w6 ⟨rfl, hb6'⟩
        have hB6 := bt hB5 hb6'
        go_wp2_with fail
        (with_reducible refine (shown_ _ (hE.below hB6) (hM.below hB6) (hR.below hB6) (hP.below hB6)).mono ?_); rintro e w9 ⟨rfl, hb9⟩
        go_wp2
        go_ret
        exact ⟨rfl, bt hB6 hb9⟩
end Go.Proofs.YtngbgchnbcfliaaDoor
