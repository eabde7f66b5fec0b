/- words: Digits of the reference. No condition. -/
import Derived.Test.YtfleamgncodkpaaDoorDig
import Derived.Test.YtfleamgncodkpaaDoorW2
import Derived.RegionTactic
import Derived.Deep.RegionHeld3
import Derived.Test.YtfleamgncodkpaaDoorCmp
namespace Go.Proofs.YtfleamgncodkpaaDoor
open Go.RowKit
theorem itoa_one (i : Nat) (h : i < 10) : dgL (i : Int) = [UInt8.ofNat (48 + i)] := by
  unfold dgL; rw [Lib.itoa_nonneg, Lib.decDigits_one h]
theorem conv1 (W : World) (g : Nat) (x : Int) (d : Nat) (hx : x = (d : Int)) (hd : d < 256) (hg : W.heap[g]? = some (.cells #[.int .u8 x] 5 (0, 0))) :
    (convert 54 9 (.slice (some ⟨g, 0, none⟩) 1 1)).run Tryd.prog W = .ok (.string ⟨#[UInt8.ofNat d]⟩) W := by
  subst hx
  have h1 : (bs8 [UInt8.ofNat d]) = [.int .u8 (d : Int)] := by simp [bs8]; omega
  have hr := reads_blk (cs := [.int .u8 (d : Int)]) hg
  rw [← h1] at hr
  exact run_conv Tryd.underlying54 Tryd.underlying5 Tryd.underlying9 (l := [UInt8.ofNat d]) hr
theorem cf_dig (vs : Array Value) (W : World) : (callFunc 30 vs).run Tryd.prog W = .ok (.enter 30 vs) W := cf_of Tryd.func30 (by kernel_rfl) (by kernel_rfl) vs W
theorem itoa_big (N : Nat) (h : ¬ N < 10) : Lib.itoa (N : Int) = Lib.itoa ((N / 10 : Nat) : Int) ++ [UInt8.ofNat (48 + N % 10)] := by
  rw [Lib.itoa_nonneg, Lib.itoa_nonneg]
  conv => lhs; rw [Lib.decDigits]
  rw [dif_neg h]
theorem Dg_big (N : Nat) (h : ¬ N < 10) : Dg (N : Int) = Dg ((N / 10 : Nat) : Int) ++ ⟨#[UInt8.ofNat (48 + N % 10)]⟩ := by
  apply ByteArray.ext
  apply Array.toList_inj.1
  rw [ByteArray.data_append, Array.toList_append]
  exact itoa_big N h
set_option maxRecDepth 100000 in
set_option maxHeartbeats 2000000 in
theorem rdig_pos : ∀ N : Nat, N ≤ 9223372036854775807 → ∀ w : World,
    Calls Tryd.prog 30 #[.int .i64 (N : Int)] w fun e w' => e = .returned (.string (Dg (N : Int))) ∧ Below w.heap.size w w' := by
  intro N
  induction N using Nat.strongRecOn with
  | _ N ih =>
  intro hN w
  by_cases h9 : N < 10
  · have i1 : ¬ ((9 : Int) < (N : Int)) := by omega
    have i2 : ¬ ((N : Int) < -9) := by omega
    have i3 : ¬ ((N : Int) < 0) := by omega
    have hcv := conv1 (w.alloc (.cells #[.int .u8 (48 + (N : Int))] 5 (0, 0))) w.heap.size (48 + (N : Int)) (48 + N) (by omega) (by omega) (alloc1_new _ _)
    have hD0 : Dg (N : Int) = ⟨#[UInt8.ofNat (48 + N)]⟩ := by show (⟨(Lib.itoa (N : Int)).toArray⟩ : ByteArray) = _; have := itoa_one N h9; unfold dgL at this; rw [this]
    obtain ⟨b8, hb8⟩ : ∃ b8, b8 = UInt8.ofNat (48 + N) := ⟨_, rfl⟩
    rw [← hb8] at hD0 hcv
    have hD := Lib.hid hD0
    clear hb8 hD0
    clear ih
    go_enter Tryd.func30, Tryd.ntmps30
    go_wp2
    go_ret
    exact ⟨ret_str (by rw [hD.out]), ba (Below.refl _ _) _⟩
  · have i1 : (9 : Int) < (N : Int) := by omega
    have ht : Int.tdiv (N : Int) 10 = ((N / 10 : Nat) : Int) := by rfl
    have hm : Int.tmod (N : Int) 10 = ((N % 10 : Nat) : Int) := by rfl
    have hI := Lib.hid (ih (N / 10) (by omega) (by omega))
    have hD := Lib.hid (Dg_big N h9)
    have hm9 : N % 10 < 10 := Nat.mod_lt _ (by omega)
    clear ih
    obtain ⟨m, hmm⟩ : ∃ m, m = N % 10 := ⟨_, rfl⟩
    obtain ⟨q, hqq⟩ : ∃ q, q = N / 10 := ⟨_, rfl⟩
    rw [← hmm] at hm hm9 hD
    rw [← hqq] at ht hI hD
    have i3 : ¬ ((m : Int) < 0) := by omega
    have hq9 : q ≤ N := by omega
    have w1 : IntKind.i64.wrap (q : Int) = (q : Int) := IntWalk.i64_in _ (by omega)
    have w2 : IntKind.i64.wrap (48 + (m : Int)) = 48 + (m : Int) := IntWalk.i64_in _ (by omega)
    have w3 : IntKind.u8.wrap (48 + (m : Int)) = 48 + (m : Int) := IntWalk.u8_in _ (by omega)
    clear hmm hqq
    obtain ⟨b8, hb8⟩ : ∃ b8, b8 = UInt8.ofNat (48 + m) := ⟨_, rfl⟩
    rw [← hb8] at hD
    have hcC : ∀ (W : World) (g : Nat), W.heap[g]? = some (.cells #[.int .u8 (48 + (m : Int))] 5 (0, 0)) → (convert 54 9 (.slice (some ⟨g, 0, none⟩) 1 1)).run Tryd.prog W = .ok (.string ⟨#[b8]⟩) W := fun W g hg => by rw [hb8]; exact conv1 W g (48 + (m : Int)) (48 + m) (by omega) (by omega) hg
    have HcC := Lib.hid hcC
    have hcA := Lib.hid (fun W : World => hcC (W.alloc (.cells #[.int .u8 (48 + (m : Int))] 5 (0, 0))) W.heap.size (alloc1_new _ _))
    have hDs := Dg_size (q : Int) (by omega) (by omega)
    obtain ⟨D, hDD⟩ : ∃ D, D = Dg (q : Int) := ⟨_, rfl⟩
    rw [← hDD] at hDs hD hI
    have j1 : ¬ (9223372036854775807 < D.size + 1) := by omega
    have hcA2 := hcA.out
    have hcD := hcC (w.alloc (.cells #[.int .u8 (48 + (m : Int))] 5 (0, 0))).drew w.heap.size (alloc1_new w _)
    clear hDD hcC hb8
    go_enter Tryd.func30, Tryd.ntmps30
    go_wp2
    go_region_law ((first
      | (refine step_fn1 30 (.int .i64 (q : Int)) cf_dig (hI.out _) ?_; intro e w' hh; obtain ⟨rfl, hb⟩ := hh; (try (have hcB := HcC.out w' w.heap.size (below_blk hb (by simp) (alloc1_new w _)))); refine ⟨_, rfl, ?_⟩)))
    all_goals
      go_wp2
      go_ret
      exact ⟨ret_str (by rw [hD.out]), by first | exact ba (bt (below_drewN' _ 1) hb) _ | exact bt (bd (ba (Below.refl _ _) _) 1) hb⟩
theorem itoa_bigN (N : Nat) (h : ¬ N < 10) : Lib.itoa (-(N : Int)) = Lib.itoa (-((N / 10 : Nat) : Int)) ++ [UInt8.ofNat (48 + N % 10)] := by
  rw [Lib.itoa_neg N (by omega), Lib.itoa_neg (N / 10) (by omega)]
  conv => lhs; rw [Lib.decDigits]
  rw [dif_neg h]; rfl
theorem Dg_bigN (N : Nat) (h : ¬ N < 10) : Dg (-(N : Int)) = Dg (-((N / 10 : Nat) : Int)) ++ ⟨#[UInt8.ofNat (48 + N % 10)]⟩ := by
  apply ByteArray.ext
  apply Array.toList_inj.1
  rw [ByteArray.data_append, Array.toList_append]
  exact itoa_bigN N h
theorem Dg_neg (N : Nat) (h : 1 ≤ N) : Dg (-(N : Int)) = ⟨#[45]⟩ ++ Dg (N : Int) := by
  apply ByteArray.ext
  apply Array.toList_inj.1
  rw [ByteArray.data_append, Array.toList_append]
  show Lib.itoa (-(N : Int)) = [45] ++ Lib.itoa (N : Int)
  rw [Lib.itoa_neg N h, Lib.itoa_nonneg]; rfl
set_option maxRecDepth 100000 in
set_option maxHeartbeats 2000000 in
theorem rdig_neg : ∀ N : Nat, 1 ≤ N → N ≤ 9223372036854775808 → ∀ w : World,
    Calls Tryd.prog 30 #[.int .i64 (-(N : Int))] w fun e w' => e = .returned (.string (Dg (-(N : Int)))) ∧ Below w.heap.size w w' := by
  intro N
  induction N using Nat.strongRecOn with
  | _ N ih =>
  intro hN0 hN w
  by_cases h9 : N < 10
  · have i1 : ¬ ((9 : Int) < -(N : Int)) := by omega
    have i2 : ¬ (-(N : Int) < -9) := by omega
    have i3 : -(N : Int) < 0 := by omega
    have e1 : IntKind.i64.wrap (- -(N : Int)) = (N : Int) := by rw [Int.neg_neg]; exact IntWalk.i64_in _ (by omega)
    have e2 : - -(N : Int) = (N : Int) := Int.neg_neg _
    have hD := Lib.hid (Dg_neg N hN0)
    have hs := Dg_size (N : Int) (by omega) (by omega)
    have hC := Lib.hid (rdig_pos N (by omega))
    obtain ⟨D, hDD⟩ : ∃ D, D = Dg (N : Int) := ⟨_, rfl⟩
    rw [← hDD] at hD hs hC
    have j1 : ¬ (9223372036854775807 < (⟨#[45]⟩ : ByteArray).size + D.size) := by show ¬ (9223372036854775807 < 1 + D.size); omega
    clear ih hDD
    go_enter Tryd.func30, Tryd.ntmps30
    go_wp2_with fail
    (with_reducible refine (hC.out _).mono ?_); rintro e w1 ⟨rfl, hb1⟩
    go_wp2
    go_ret
    exact ⟨ret_str (by rw [hD.out]), hb1⟩
  · have i1 : ¬ ((9 : Int) < -(N : Int)) := by omega
    have i2 : -(N : Int) < -9 := by omega
    have ht : Int.tdiv (-(N : Int)) 10 = -((N / 10 : Nat) : Int) := by rw [Int.neg_tdiv]; rfl
    have hm : Int.tmod (-(N : Int)) 10 = -((N % 10 : Nat) : Int) := by rw [Int.neg_tmod]; rfl
    have hI := Lib.hid (ih (N / 10) (by omega) (by omega) (by omega))
    have hD := Lib.hid (Dg_bigN N h9)
    have hm9 : N % 10 < 10 := Nat.mod_lt _ (by omega)
    clear ih
    obtain ⟨m, hmm⟩ : ∃ m, m = N % 10 := ⟨_, rfl⟩
    obtain ⟨q, hqq⟩ : ∃ q, q = N / 10 := ⟨_, rfl⟩
    rw [← hmm] at hm hm9 hD
    rw [← hqq] at ht hI hD
    have hq9 : q ≤ N := by omega
    have w1 : IntKind.i64.wrap (-(q : Int)) = -(q : Int) := IntWalk.i64_in _ (by omega)
    have w2 : IntKind.i64.wrap (48 + (m : Int)) = 48 + (m : Int) := IntWalk.i64_in _ (by omega)
    have w3 : IntKind.u8.wrap (48 + (m : Int)) = 48 + (m : Int) := IntWalk.u8_in _ (by omega)
    have w5 : IntKind.i64.wrap (- -(m : Int)) = (m : Int) := by rw [Int.neg_neg]; exact IntWalk.i64_in _ (by omega)
    have w6 : - -(m : Int) = (m : Int) := Int.neg_neg _
    clear hmm hqq
    obtain ⟨b8, hb8⟩ : ∃ b8, b8 = UInt8.ofNat (48 + m) := ⟨_, rfl⟩
    rw [← hb8] at hD
    have hcC : ∀ (W : World) (g : Nat), W.heap[g]? = some (.cells #[.int .u8 (48 + (m : Int))] 5 (0, 0)) → (convert 54 9 (.slice (some ⟨g, 0, none⟩) 1 1)).run Tryd.prog W = .ok (.string ⟨#[b8]⟩) W := fun W g hg => by rw [hb8]; exact conv1 W g (48 + (m : Int)) (48 + m) (by omega) (by omega) hg
    have HcC := Lib.hid hcC
    have hcA := Lib.hid (fun W : World => hcC (W.alloc (.cells #[.int .u8 (48 + (m : Int))] 5 (0, 0))) W.heap.size (alloc1_new _ _))
    have hDs := Dg_size (-(q : Int)) (by omega) (by omega)
    obtain ⟨D, hDD⟩ : ∃ D, D = Dg (-(q : Int)) := ⟨_, rfl⟩
    rw [← hDD] at hDs hD hI
    have j1 : ¬ (9223372036854775807 < D.size + 1) := by omega
    have hcA2 := hcA.out
    have hcD := hcC (w.alloc (.cells #[.int .u8 (48 + (m : Int))] 5 (0, 0))).drew w.heap.size (alloc1_new w _)
    clear hDD hcC hb8
    by_cases hm0 : m = 0
    · have i3 : ¬ (-(m : Int) < 0) := by omega
      have w7 : IntKind.i64.wrap (48 + -(m : Int)) = 48 + (m : Int) := by rw [hm0]; rfl
      have hm1 := Lib.hid hm0
      clear hm0
      go_enter Tryd.func30, Tryd.ntmps30
      go_wp2
      go_region_law ((first
        | (refine step_fn1 30 (.int .i64 (-(q : Int))) cf_dig (hI.out _) ?_; intro e w' hh; obtain ⟨rfl, hb⟩ := hh; (try (have hcB := HcC.out w' w.heap.size (below_blk hb (by simp) (alloc1_new w _)))); refine ⟨_, rfl, ?_⟩)))
      all_goals
        go_wp2
        go_ret
        exact ⟨ret_str (by rw [hD.out]), by first | exact ba (bt (below_drewN' _ 1) hb) _ | exact bt (bd (ba (Below.refl _ _) _) 1) hb⟩
    · have i3 : -(m : Int) < 0 := by omega
      go_enter Tryd.func30, Tryd.ntmps30
      go_wp2
      go_region_law ((first
        | (refine step_fn1 30 (.int .i64 (-(q : Int))) cf_dig (hI.out _) ?_; intro e w' hh; obtain ⟨rfl, hb⟩ := hh; (try (have hcB := HcC.out w' w.heap.size (below_blk hb (by simp) (alloc1_new w _)))); refine ⟨_, rfl, ?_⟩)))
      all_goals
        go_wp2
        go_ret
        exact ⟨ret_str (by rw [hD.out]), by first | exact ba (bt (below_drewN' _ 1) hb) _ | exact bt (bd (ba (Below.refl _ _) _) 1) hb⟩
end Go.Proofs.YtfleamgncodkpaaDoor
