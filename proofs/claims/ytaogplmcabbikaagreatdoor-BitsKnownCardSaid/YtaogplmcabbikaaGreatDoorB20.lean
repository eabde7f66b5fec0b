/- Rows of bits: the words of a row, backwards (slices.Backward). -/
import Derived.Test.YtaogplmcabbikaaGreatDoorRnd
import Derived.Test.YtaogplmcabbikaaGreatDoorB19
namespace Go.Proofs.YtaogplmcabbikaaGreatDoor
open Go.RowKit Go.Shelf
attribute [local go_sem] Oper.semAt_some
/-- an index and a word -/
abbrev BW := { p : Nat × Nat // p.2 < 18446744073709551616 }
abbrev bwEnc (x : BW) : Array Value := #[.int .i64 (x.1.1 : Int), .int .u64 (x.1.2 : Int)]
/-- what has come after k rounds -/
def bwUp (l : List Nat) (hw : W64 l) (k : Nat) : List BW := (List.range k).map fun j => ⟨(l.length - 1 - j, l.getD (l.length - 1 - j) 0), wget hw _⟩
theorem bwUp_succ (l : List Nat) (hw : W64 l) (k : Nat) : bwUp l hw (k + 1) = bwUp l hw k ++ [⟨(l.length - 1 - k, l.getD (l.length - 1 - k) 0), wget hw _⟩] := by simp [bwUp, List.range_succ]
theorem bwUp_len (l : List Nat) (hw : W64 l) (k : Nat) : (bwUp l hw k).length = k := by simp [bwUp]
theorem bwUp_all (l : List Nat) (hw : W64 l) : (bwUp l hw l.length).map (fun x => x.1.2) = l.reverse := by
  apply List.ext_getElem
  · simp [bwUp]
  · intro i h1 h2
    simp [bwUp, List.getElem_reverse] at h1 h2 ⊢
    rw [List.getElem?_eq_getElem (by omega)]
    rfl
theorem bwUp_step (l : List Nat) (hw : W64 l) (q : Nat) (hq : q < l.length) : bwUp l hw (l.length - (q + 1)) ++ [⟨(q, l.getD q 0), wget hw _⟩] = bwUp l hw (l.length - q) := by
  rw [show l.length - q = l.length - (q + 1) + 1 by omega, bwUp_succ]
  simp only [show l.length - 1 - (l.length - (q + 1)) = q by omega]
/-- what a round keeps: all that is old, and the block Bs -/
def KeepB (n₀ Bs : Nat) (W W' : World) : Prop := Below n₀ W W' ∧ W'.heap[Bs]? = W.heap[Bs]?
theorem KeepB.refl (n₀ Bs : Nat) (W : World) : KeepB n₀ Bs W W := ⟨Below.refl _ _, rfl⟩
theorem KeepB.trans {n₀ Bs : Nat} {A B C : World} (h : KeepB n₀ Bs A B) (k : KeepB n₀ Bs B C) : KeepB n₀ Bs A C := ⟨h.1.trans k.1, k.2.trans h.2⟩
theorem keepB_b {n₀ Bs : Nat} {w : World} (h1 : n₀ ≤ w.heap.size) (h2 : Bs < w.heap.size) : ∀ (W : World) (l : Nat) (o o' : Obj), w.heap.size ≤ l → W.heap[l]? = some o → o.isCells = false → o.isWalk = false → KeepB n₀ Bs W (W.putObj l o') := fun W l o o' hl ho hc hk =>
  ⟨belowK_b h1 W l o o' hl ho hc hk, World.putObj_heap_other (by omega)⟩
set_option maxRecDepth 100000 in
set_option maxHeartbeats 2000000 in
theorem backward1_in (n : Nat) (hn : 1 ≤ n) (L Bs n₀ cap : Nat) (A : Option Addr) (l : List Nat) (hw : W64 l) (hl : l.length ≤ 1000) (J Jx : List BW → World → Prop)
    (hY : ∀ pre x W, J pre W → pre.length < l.length → YieldAt Fence.wide (n - 1) Tryz.prog L (bwEnc x) W fun e W' =>
      (e = .returned (.bool true) ∧ J (pre ++ [x]) W' ∧ KeepB n₀ Bs W W') ∨ (e = .returned (.bool false) ∧ Jx (pre ++ [x]) W'))
    (W : World) (hBs : W.heap[Bs]? = some (.cells #[.slice A l.length cap] 22 (0, 0))) (hR : Reads W n₀ 1 A l.length (u64s l)) (h0 : J [] W) :
    CallsIn Fence.wide n Tryz.prog 32 #[.func (.yield L) #[] #[], .pointer (some ⟨Bs, 0, none⟩)] W fun e W' => (∃ v, e = .returned v) ∧
      ((∃ ys, ys = bwUp l hw l.length ∧ J ys W') ∨ (∃ pre, (∃ k, k ≤ l.length ∧ pre = bwUp l hw k) ∧ Jx pre W')) := by
  refine callsIn_of_wp Tryz.func32 rfl trivial ?_ rfl
  simp only [Tryz.ntmps32, List.size_toArray, List.length_cons, List.length_nil, Nat.reduceAdd, Nat.reduceSub, Array.replicate_succ, Array.replicate_zero, List.push_toArray, List.append_toArray, List.nil_append, List.cons_append]
  have HR := Lib.hid hR
  have HBs := Lib.hid hBs
  have hc0 := Lib.cell_of_heap hBs 0
  have hJ0 : J (bwUp l hw (l.length - l.length)) W := by rw [Nat.sub_self]; exact h0
  clear hR hBs h0
  gi_wp2
  gi_loopw [3] (fun i wr => ∃ m : Nat, m ≤ l.length ∧ i = .int .i64 ((m : Int) - 1) ∧ J (bwUp l hw (l.length - m)) wr ∧ KeepB n₀ Bs W wr)
    (fun i _ => (intOf i + 1).toNat)
  case atStart => exact ⟨l.length, Nat.le_refl _, rfl, hJ0, KeepB.refl _ _ _⟩
  case round =>
    obtain ⟨m, hm, rfl, hJs, hnx⟩ := hrel
    clear hc0 hJ0
    have hc := Lib.cell_of_heap (hnx.2.trans HBs.out) 0
    have HN := Lib.hid hnx
    clear hnx
    by_cases hlt : 0 < m
    · obtain ⟨q, rfl⟩ : ∃ q, m = q + 1 := ⟨m - 1, by omega⟩
      obtain ⟨b, off, rfl, hb, d0⟩ := u64At HR.out (k := q) (by omega)
      have d1 := (HN.out.1.cell (p := ⟨b, off + q, none⟩) hb).trans d0
      obtain ⟨fn, tmps, assign, body, hy, hRr⟩ := hY _ ⟨(q, l.getD q 0), wget hw _⟩ wr hJs (by rw [bwUp_len]; omega)
      dsimp only [bwEnc] at hy
      rw [List.getD_eq_getElem?_getD] at hy
      have HJ := Lib.hid (bwUp_step l hw q (by omega))
      rw [show (((q + 1 : Nat) : Int) - 1) = (q : Int) by omega]
      have hq1 : (q : Int) < (l.length : Int) := by omega
      clear d0
      gi_wp2
      refine hRr.mono ?_
      rintro e W3 (⟨rfl, hJ3, hk3⟩ | ⟨rfl, hJx3⟩)
      · rw [HJ.out] at hJ3
        gi_wp2
        go_roundw
        case rel => exact ⟨q, by omega, rfl, hJ3, HN.out.trans hk3⟩
        case measure => simp [intOf]
      · rw [HJ.out] at hJx3
        gi_wp2
        refine bodyPost_ret (results_none rfl _ _ _) rfl ?_
        exact ⟨⟨_, rfl⟩, .inr ⟨_, ⟨l.length - q, by omega, rfl⟩, hJx3⟩⟩
    · obtain rfl : m = 0 := by omega
      rw [Nat.sub_zero] at hJs
      gi_wp2
      go_end0
      exact ⟨⟨_, rfl⟩, .inl ⟨_, rfl, hJs⟩⟩
set_option maxHeartbeats 1000000 in
theorem backward_in (n : Nat) (A : Option Addr) (len cap : Nat) (w : World) :
    CallsIn Fence.wide n Tryz.prog 17 #[.slice A len cap] w fun e w' => e = .returned (.func (.func 32) #[] #[.pointer (some ⟨w.heap.size, 0, none⟩)]) ∧ w' = w.alloc (.cells #[.slice A len cap] 22) := by
  refine callsIn_of_wp Tryz.func17 rfl trivial ?_ rfl
  simp only [Tryz.ntmps17, List.size_toArray, List.length_cons, List.length_nil, Nat.reduceAdd, Nat.reduceSub, Array.replicate_succ, Array.replicate_zero, List.push_toArray, List.append_toArray, List.nil_append, List.cons_append]
  gi_wp2
  go_ret
  exact ⟨rfl, rfl⟩
theorem backward_stops (n : Nat) (hn : 1 ≤ n) (Bs n₀ cap : Nat) (A : Option Addr) (l : List Nat) (hw : W64 l) (hl : l.length ≤ 1000) (w : World) (hn₀ : n₀ ≤ w.heap.size)
    (hBs : w.heap[Bs]? = some (.cells #[.slice A l.length cap] 22 (0, 0))) (hR : Reads w n₀ 1 A l.length (u64s l)) :
    SeqStopsK Fence.wide n Tryz.prog 32 #[.pointer (some ⟨Bs, 0, none⟩)] bwEnc (KeepB n₀ Bs) (fun ys => ys = bwUp l hw l.length) (fun pre => ∃ k, k ≤ l.length ∧ pre = bwUp l hw k) l.length w := fun L J Jx W hW _ _ hY h0 => by
  have hlt : Bs < w.heap.size := (Array.getElem?_eq_some_iff.1 hBs).1
  exact backward1_in n hn L Bs n₀ cap A l hw hl J Jx hY W ((hW.block Bs hlt).trans hBs) (hR.keep fun p hp => hW.cell (by omega)) h0
end Go.Proofs.YtaogplmcabbikaaGreatDoor
