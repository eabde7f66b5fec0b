/- The rows of the layout. -/
import Derived.Test.YtmpdgckccgbdnaaDoorC2
namespace Go.Proofs.YtmpdgckccgbdnaaDoor
open Go.RowKit
abbrev rowsV : Array Value := #[.string ⟨#[116, 97, 98, 108, 101]⟩, .func (Fn.func 26) #[] #[], .string ⟨#[115, 116, 97, 114, 116, 115]⟩, .func (Fn.func 25) #[] #[],
  .string ⟨#[102, 105, 110, 97, 108, 115]⟩, .func (Fn.func 27) #[] #[], .string ⟨#[115, 116, 97, 116, 101]⟩, .func (Fn.func 25) #[] #[], .string ⟨#[110, 101, 120, 116]⟩, .func (Fn.func 25) #[] #[],
  .string ⟨#[104, 105, 116, 115]⟩, .func (Fn.func 28) #[] #[], .string ⟨#[115, 108, 111, 116, 115]⟩, .func (Fn.func 29) #[] #[], .string ⟨#[114, 97, 110, 107, 115]⟩, .func (Fn.func 30) #[] #[],
  .string ⟨#[102, 108, 97, 103, 115]⟩, .func (Fn.func 31) #[] #[]]
set_option maxRecDepth 100000 in
set_option maxHeartbeats 1000000 in
theorem rows_ (w : World) :
    Calls Tryd.prog 13 #[] w fun e w' => e = .returned (.agg rowsV) ∧ Below w.heap.size w w' := by
  go_enter Tryd.func13, Tryd.ntmps13
  go_wp2_with (with_reducible refine wpList_store_row rfl 51 (.tmp 0) (.tmp 14) rfl w.heap.size rowsV rfl rfl 51 _ (heap_alloc_new _ _) (by kernel_rfl) (by kernel_rfl) (by kernel_rfl) ?_)
  refine bodyPost_ret (v := .agg rowsV) (results_cell_row (p := 0) (by kernel_rfl) _ _ w.heap.size 51 rowsV (0, 0) _ rfl (setRow_heap_at (heap_alloc_new _ _)) Tryd.underlying51 rfl (by kernel_rfl)) rfl ⟨rfl, ?_⟩
  exact (((Fr.start w).newN rfl _).row (Nat.le_refl _) (by simp)).bel
theorem rows1 (b k l s r n : Int) (hs : 1 ≤ s ∧ s ≤ 4) (hr : 1 ≤ r ∧ r ≤ 16) (hrs : 0 ≤ r * s ∧ r * s ≤ 64) (hn : 0 ≤ n ∧ n ≤ 300) (w : World) :
    Calls Tryd.prog 25 #[plV b k l s r n] w fun e w' => e = .returned (.int .i64 (s)) ∧ Below w.heap.size w w' := by
  obtain ⟨hs1, hs2⟩ := hs
  obtain ⟨hr1, hr2⟩ := hr
  obtain ⟨hn1, hn2⟩ := hn
  obtain ⟨hq1, hq2⟩ := hrs
  go_enter Tryd.func25, Tryd.ntmps25
  go_wp2
  go_ret
  exact ⟨ret_int (by first | rfl | omega | skip), ba (Below.refl _ _) _⟩
theorem rows2 (b k l s r n : Int) (hs : 1 ≤ s ∧ s ≤ 4) (hr : 1 ≤ r ∧ r ≤ 16) (hrs : 0 ≤ r * s ∧ r * s ≤ 64) (hn : 0 ≤ n ∧ n ≤ 300) (w : World) :
    Calls Tryd.prog 26 #[plV b k l s r n] w fun e w' => e = .returned (.int .i64 (256 * s)) ∧ Below w.heap.size w w' := by
  obtain ⟨hs1, hs2⟩ := hs
  obtain ⟨hr1, hr2⟩ := hr
  obtain ⟨hn1, hn2⟩ := hn
  obtain ⟨hq1, hq2⟩ := hrs
  go_enter Tryd.func26, Tryd.ntmps26
  go_wp2
  go_ret
  exact ⟨ret_int (by first | rfl | omega | skip), ba (Below.refl _ _) _⟩
theorem rows3 (b k l s r n : Int) (hs : 1 ≤ s ∧ s ≤ 4) (hr : 1 ≤ r ∧ r ≤ 16) (hrs : 0 ≤ r * s ∧ r * s ≤ 64) (hn : 0 ≤ n ∧ n ≤ 300) (w : World) :
    Calls Tryd.prog 27 #[plV b k l s r n] w fun e w' => e = .returned (.int .i64 (r * s)) ∧ Below w.heap.size w w' := by
  obtain ⟨hs1, hs2⟩ := hs
  obtain ⟨hr1, hr2⟩ := hr
  obtain ⟨hn1, hn2⟩ := hn
  obtain ⟨hq1, hq2⟩ := hrs
  go_enter Tryd.func27, Tryd.ntmps27
  go_wp2
  go_ret
  exact ⟨ret_int (by first | rfl | omega | skip), ba (Below.refl _ _) _⟩
theorem rows4 (b k l s r n : Int) (hs : 1 ≤ s ∧ s ≤ 4) (hr : 1 ≤ r ∧ r ≤ 16) (hrs : 0 ≤ r * s ∧ r * s ≤ 64) (hn : 0 ≤ n ∧ n ≤ 300) (w : World) :
    Calls Tryd.prog 28 #[plV b k l s r n] w fun e w' => e = .returned (.int .i64 (r)) ∧ Below w.heap.size w w' := by
  obtain ⟨hs1, hs2⟩ := hs
  obtain ⟨hr1, hr2⟩ := hr
  obtain ⟨hn1, hn2⟩ := hn
  obtain ⟨hq1, hq2⟩ := hrs
  go_enter Tryd.func28, Tryd.ntmps28
  go_wp2
  go_ret
  exact ⟨ret_int (by first | rfl | omega | skip), ba (Below.refl _ _) _⟩
theorem rows5 (b k l s r n : Int) (hs : 1 ≤ s ∧ s ≤ 4) (hr : 1 ≤ r ∧ r ≤ 16) (hrs : 0 ≤ r * s ∧ r * s ≤ 64) (hn : 0 ≤ n ∧ n ≤ 300) (w : World) :
    Calls Tryd.prog 29 #[plV b k l s r n] w fun e w' => e = .returned (.int .i64 (3 * n)) ∧ Below w.heap.size w w' := by
  obtain ⟨hs1, hs2⟩ := hs
  obtain ⟨hr1, hr2⟩ := hr
  obtain ⟨hn1, hn2⟩ := hn
  obtain ⟨hq1, hq2⟩ := hrs
  go_enter Tryd.func29, Tryd.ntmps29
  go_wp2
  go_ret
  exact ⟨ret_int (by first | rfl | omega | skip), ba (Below.refl _ _) _⟩
theorem rows6 (b k l s r n : Int) (hs : 1 ≤ s ∧ s ≤ 4) (hr : 1 ≤ r ∧ r ≤ 16) (hrs : 0 ≤ r * s ∧ r * s ≤ 64) (hn : 0 ≤ n ∧ n ≤ 300) (w : World) :
    Calls Tryd.prog 30 #[plV b k l s r n] w fun e w' => e = .returned (.int .i64 (n)) ∧ Below w.heap.size w w' := by
  obtain ⟨hs1, hs2⟩ := hs
  obtain ⟨hr1, hr2⟩ := hr
  obtain ⟨hn1, hn2⟩ := hn
  obtain ⟨hq1, hq2⟩ := hrs
  go_enter Tryd.func30, Tryd.ntmps30
  go_wp2
  go_ret
  exact ⟨ret_int (by first | rfl | omega | skip), ba (Below.refl _ _) _⟩
theorem rows7 (b k l s r n : Int) (hs : 1 ≤ s ∧ s ≤ 4) (hr : 1 ≤ r ∧ r ≤ 16) (hrs : 0 ≤ r * s ∧ r * s ≤ 64) (hn : 0 ≤ n ∧ n ≤ 300) (w : World) :
    Calls Tryd.prog 31 #[plV b k l s r n] w fun e w' => e = .returned (.int .i64 (4)) ∧ Below w.heap.size w w' := by
  obtain ⟨hs1, hs2⟩ := hs
  obtain ⟨hr1, hr2⟩ := hr
  obtain ⟨hn1, hn2⟩ := hn
  obtain ⟨hq1, hq2⟩ := hrs
  go_enter Tryd.func31, Tryd.ntmps31
  go_wp2
  go_ret
  exact ⟨ret_int (by first | rfl | omega | skip), ba (Below.refl _ _) _⟩
end Go.Proofs.YtmpdgckccgbdnaaDoor
