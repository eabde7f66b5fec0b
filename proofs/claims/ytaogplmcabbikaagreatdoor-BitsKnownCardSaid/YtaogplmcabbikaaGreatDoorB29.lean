/- Rows of bits: Ones of the program: the bits that are 1, collected. -/
import Derived.Test.YtaogplmcabbikaaGreatDoorB28
import Derived.Test.YtaogplmcabbikaaGreatDoorRnd
namespace Go.Proofs.YtaogplmcabbikaaGreatDoor
open Go.RowKit Go.Shelf
attribute [local go_sem] Oper.semAt_some
theorem Tzt.lt {w : World} (h : Tzt w) : 0 < w.heap.size := World.block_lt_of_cell? _ ⟨0, 0, none⟩ (h 0 (by decide))
theorem Tzt.keep {n₀ : Nat} {w w' : World} (h : Tzt w) (hb : Below n₀ w w') (hg : 0 < n₀) : Tzt w' := fun j hj => (hb.cell (p := ⟨0, j, none⟩) hg).trans (h j hj)
theorem ones_stops (n : Nat) (hn : 1 ≤ n) (Bs n₀ cap : Nat) (A : Option Addr) (l : List Nat) (hw : W64 l) (hl : l.length ≤ 100) (w : World) (hn₀ : n₀ ≤ w.heap.size)
    (hBs : w.heap[Bs]? = some (.cells #[.slice A l.length cap] 22 (0, 0))) (hR : Reads w n₀ 1 A l.length (u64s l)) (hT : Tzt w) (hg : 0 < n₀) :
    SeqStopsK Fence.wide n Tryz.prog 41 #[.pointer (some ⟨Bs, 0, none⟩)] natEnc (Below n₀) (fun ys => ys = onN l (64 * l.length)) (fun pre => ∃ k, k ≤ 64 * l.length ∧ pre = onN l k) (64 * l.length) w := fun L J Jx W hW _ _ hY h0 => by
  have hlt : Bs < w.heap.size := (Array.getElem?_eq_some_iff.1 hBs).1
  exact ones1_in n hn L Bs n₀ cap A l hw hl J Jx hY W (Lib.cell_of_heap ((hW.block Bs hlt).trans hBs) 0) (hR.keep fun p hp => hW.cell (by omega)) (fun W' hb' => (hT.below hW).keep hb' hg) h0
abbrev natVs (l : List Nat) : List Value := l.map fun x : Nat => Value.int .i64 (x : Int)
set_option maxRecDepth 100000 in
set_option maxHeartbeats 2000000 in
theorem appendSeq_in (Bs cap : Nat) (A : Option Addr) (l : List Nat) (hw : W64 l) (hl : l.length ≤ 100) (w : World)
    (hBs : w.heap[Bs]? = some (.cells #[.slice A l.length cap] 22 (0, 0))) (hR : Reads w w.heap.size 1 A l.length (u64s l)) (hT : Tzt w) :
    CallsIn Fence.wide 5 Tryz.prog 40 #[.slice none 0 0, .func (.func 41) #[] #[.pointer (some ⟨Bs, 0, none⟩)]] w fun e W' =>
      ∃ v, e = .returned v ∧ W'.ownsRow w.heap.size 3 1 v (onN l (64 * l.length)).length (natVs (onN l (64 * l.length))) ∧ Below w.heap.size w W' := by
  obtain ⟨i0, hi, hz0, hz1, hz2⟩ := info_parts intEl.hi
  have HR := Lib.hid hR
  have HT := Lib.hid hT
  have Hw := Lib.hid hw
  have HBs := Lib.hid hBs
  clear hR hT hw hBs
  refine callsIn_of_wp_marks Tryz.func40 rfl trivial ?_ rfl
  simp only [Tryz.ntmps40, List.size_toArray, List.length_cons, List.length_nil, Nat.reduceAdd, Nat.reduceSub, Array.replicate_succ, Array.replicate_zero, List.push_toArray, List.append_toArray, List.nil_append, List.cons_append]
  gi_wp2
  have bO := Boxed.new w 26 (.slice none 0 0)
  have hB0 : Below w.heap.size w (w.alloc (.cells #[.slice none 0 0] 26)) := (Below.refl _ w).alloc (Nat.le_refl _) _
  refine wpIn_rangeFunc_ownG rfl (by omega) (gf := 41) (lb := #[.pointer (some ⟨Bs, 0, none⟩)]) rfl trivial (enters_of Tryz.func41 (by kernel_rfl) rfl)
    (ones_stops _ (by omega) Bs w.heap.size cap A l Hw.out hl (w.alloc (.cells #[.slice none 0 0] 26)) (by simp) ((hB0.block Bs (heap_lt HBs.out)).trans HBs.out) (HR.out.below hB0) (HT.out.below hB0) HT.out.lt) belowK_t (belowK_b (by simp)) (Below.refl _ _) (fun _ => rfl)
    (fun pre W => (∃ v, Boxed W w.heap.size 26 v ∧ W.ownsRow w.heap.size 3 1 v pre.length (natVs pre) ∧ True) ∧ Below w.heap.size w W)
    (fun _ _ _ => False)
    (OwnFrom.and (Own.from (holdsRow_own w.heap.size w.heap.size 26 3 1 (fun pre : List Nat => pre.length) (fun pre => natVs pre) (fun _ _ => True)) _) (ownFrom_below (Nat.le_refl _) (by simp)))
    (fun _ _ _ _ _ hs _ _ => hs)
    ⟨⟨_, bO, World.ownsRow_nil _ _ _ _, trivial⟩, hB0⟩
    (fun x => { tmps := #[.slice none 0 0, .func (.func 41) #[] #[.pointer (some ⟨Bs, 0, none⟩)], .pointer (some ⟨w.heap.size, 0, none⟩), undef, .slice none 0 0, .int .i64 (x : Int), .func (.func 41) #[] #[.pointer (some ⟨Bs, 0, none⟩)], .int .i64 (x : Int), undef, undef, undef, undef, undef], defers := [] }) ?assign ?body ?done ?stop
  case assign =>
    intro l x W K hK
    gi_wp2
    exact hK
  case body =>
    rintro L pre x W ⟨⟨v, hv, hrow, _⟩, hB⟩ hlt
    have hc := hv.cell
    gi_wp2_with (gi_at_builtin; refine wpListIn_append_own _ rfl _ _ 26 rfl w.heap.size 3 i0 (.int .i64 0) 1 8 Tryz.underlying26 hi hz0 hz1 hz2 rfl (by decide) _ _ _ rfl (hrow.alloc _) ⟨W.heap.size, 0, none⟩ 1 1 [.int .i64 x] rfl rfl (cell_one_new _ _ _) (by simp [Value.oneCell']) (by unfold maxLen; omega) (by omega) (by have := hB.size; simp; omega) ?_; intro v' w1 hown' hgrow _; obtain ⟨g', cap', rfl⟩ := ownsRow_succ hown'; obtain ⟨hv1, hv2, hr2, hk2, hb2⟩ := hv.appended (by decide) hrow hB.size (Nat.le_refl _) hown' hgrow; have hc1 := hv1.cell; have hf1 := hv1.frozen)
    exact ⟨hk2.from _, hb2, ⟨_, hv2, by simpa [natVs] using hr2, trivial⟩, hB.trans hb2⟩
  case done =>
    rintro D ys W hD rfl ⟨⟨v, hv, hrow, _⟩, hB⟩ hK
    have hc := hv.cell
    gi_wp2
    refine ⟨by simp, .inl ⟨_, _, rfl, run_takeDeferred hK, ?_⟩⟩
    exact ⟨_, results_tmp rfl _ _ _, v, rfl, ownsRow_putObj hrow _ hK rfl, hB.trans (belowK_b (w := w) (Nat.le_refl _) W D _ _ (by simp at hD; omega) hK rfl rfl)⟩
  case stop =>
    rintro D c pre W _ _ h _
    exact h.elim
end Go.Proofs.YtaogplmcabbikaaGreatDoor
