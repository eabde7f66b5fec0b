/- words: Digits of the reference. No condition. Sets of bytes: Runs of the reference. No condition. Sets of bytes: the text of a byte by the reference. No condition. Sets of bytes: items and Print of the reference. No condition. Lexer: Print of sets and the text of tokens by the reference. No condition. -/
import Derived.Test.YtcopnpllaoahaaaGreatDoorDig
import Derived.Test.YtcopnpllaoahaaaGreatDoorW2
import Derived.RegionTactic
import Derived.Deep.RegionHeld3
import Derived.Test.YtcopnpllaoahaaaGreatDoorCmp
import Derived.Test.YtcopnpllaoahaaaGreatDoorL1
import Derived.Test.YtcopnpllaoahaaaGreatDoorB26
import Derived.BigQuiet
import Derived.Deep.DeepCutAuto
import Derived.Test.YtcopnpllaoahaaaGreatDoorG7
import Derived.Test.YtcopnpllaoahaaaGreatDoorJ8
namespace Go.Proofs.YtcopnpllaoahaaaGreatDoor
open Go.RowKit
theorem itoa_one (i : Nat) (h : i < 10) : dgL (i : Int) = [UInt8.ofNat (48 + i)] := by
  unfold dgL; rw [Lib.itoa_nonneg, Lib.decDigits_one h]
theorem conv1 (W : World) (g : Nat) (x : Int) (d : Nat) (hx : x = (d : Int)) (hd : d < 256) (hg : W.heap[g]? = some (.cells #[.int .u8 x] 5 (0, 0))) :
    (convert 81 9 (.slice (some ⟨g, 0, none⟩) 1 1)).run Tryz.prog W = .ok (.string ⟨#[UInt8.ofNat d]⟩) W := by
  subst hx
  have h1 : (bs8 [UInt8.ofNat d]) = [.int .u8 (d : Int)] := by simp [bs8]; omega
  have hr := reads_blk (cs := [.int .u8 (d : Int)]) hg
  rw [← h1] at hr
  exact run_conv Tryz.underlying81 Tryz.underlying5 Tryz.underlying9 (l := [UInt8.ofNat d]) hr
theorem cf_dig (vs : Array Value) (W : World) : (callFunc 69 vs).run Tryz.prog W = .ok (.enter 69 vs) W := cf_of Tryz.func69 (by kernel_rfl) (by kernel_rfl) vs W
theorem itoa_big (N : Nat) (h : ¬ N < 10) : Lib.itoa (N : Int) = Lib.itoa ((N / 10 : Nat) : Int) ++ [UInt8.ofNat (48 + N % 10)] := by
  rw [Lib.itoa_nonneg, Lib.itoa_nonneg]
  conv => lhs; rw [Lib.decDigits]
  rw [dif_neg h]
theorem Dg_big (N : Nat) (h : ¬ N < 10) : Dg (N : Int) = Dg ((N / 10 : Nat) : Int) ++ ⟨#[UInt8.ofNat (48 + N % 10)]⟩ := by
  apply ByteArray.ext
  apply Array.toList_inj.1
  rw [ByteArray.data_append, Array.toList_append]
  exact itoa_big N h
set_option maxRecDepth 100000 in
set_option maxHeartbeats 2000000 in
theorem rdig_pos : ∀ N : Nat, N ≤ 9223372036854775807 → ∀ w : World,
    Calls Tryz.prog 69 #[.int .i64 (N : Int)] w fun e w' => e = .returned (.string (Dg (N : Int))) ∧ Below w.heap.size w w' := by
  intro N
  induction N using Nat.strongRecOn with
  | _ N ih =>
  intro hN w
  by_cases h9 : N < 10
  · have i1 : ¬ ((9 : Int) < (N : Int)) := by omega
    have i2 : ¬ ((N : Int) < -9) := by omega
    have i3 : ¬ ((N : Int) < 0) := by omega
    have hcv := conv1 (w.alloc (.cells #[.int .u8 (48 + (N : Int))] 5 (0, 0))) w.heap.size (48 + (N : Int)) (48 + N) (by omega) (by omega) (alloc1_new _ _)
    have hD0 : Dg (N : Int) = ⟨#[UInt8.ofNat (48 + N)]⟩ := by show (⟨(Lib.itoa (N : Int)).toArray⟩ : ByteArray) = _; have := itoa_one N h9; unfold dgL at this; rw [this]
    obtain ⟨b8, hb8⟩ : ∃ b8, b8 = UInt8.ofNat (48 + N) := ⟨_, rfl⟩
    rw [← hb8] at hD0 hcv
    have hD := Lib.hid hD0
    clear hb8 hD0
    clear ih
    go_enter Tryz.func69, Tryz.ntmps69
    go_wp2
    go_ret
    exact ⟨ret_str (by rw [hD.out]), ba (Below.refl _ _) _⟩
  · have i1 : (9 : Int) < (N : Int) := by omega
    have ht : Int.tdiv (N : Int) 10 = ((N / 10 : Nat) : Int) := by rfl
    have hm : Int.tmod (N : Int) 10 = ((N % 10 : Nat) : Int) := by rfl
    have hI := Lib.hid (ih (N / 10) (by omega) (by omega))
    have hD := Lib.hid (Dg_big N h9)
    have hm9 : N % 10 < 10 := Nat.mod_lt _ (by omega)
    clear ih
    obtain ⟨m, hmm⟩ : ∃ m, m = N % 10 := ⟨_, rfl⟩
    obtain ⟨q, hqq⟩ : ∃ q, q = N / 10 := ⟨_, rfl⟩
    rw [← hmm] at hm hm9 hD
    rw [← hqq] at ht hI hD
    have i3 : ¬ ((m : Int) < 0) := by omega
    have hq9 : q ≤ N := by omega
    have w1 : IntKind.i64.wrap (q : Int) = (q : Int) := IntWalk.i64_in _ (by omega)
    have w2 : IntKind.i64.wrap (48 + (m : Int)) = 48 + (m : Int) := IntWalk.i64_in _ (by omega)
    have w3 : IntKind.u8.wrap (48 + (m : Int)) = 48 + (m : Int) := IntWalk.u8_in _ (by omega)
    clear hmm hqq
    obtain ⟨b8, hb8⟩ : ∃ b8, b8 = UInt8.ofNat (48 + m) := ⟨_, rfl⟩
    rw [← hb8] at hD
    have hcC : ∀ (W : World) (g : Nat), W.heap[g]? = some (.cells #[.int .u8 (48 + (m : Int))] 5 (0, 0)) → (convert 81 9 (.slice (some ⟨g, 0, none⟩) 1 1)).run Tryz.prog W = .ok (.string ⟨#[b8]⟩) W := fun W g hg => by rw [hb8]; exact conv1 W g (48 + (m : Int)) (48 + m) (by omega) (by omega) hg
    have HcC := Lib.hid hcC
    have hcA := Lib.hid (fun W : World => hcC (W.alloc (.cells #[.int .u8 (48 + (m : Int))] 5 (0, 0))) W.heap.size (alloc1_new _ _))
    have hDs := Dg_size (q : Int) (by omega) (by omega)
    obtain ⟨D, hDD⟩ : ∃ D, D = Dg (q : Int) := ⟨_, rfl⟩
    rw [← hDD] at hDs hD hI
    have j1 : ¬ (9223372036854775807 < D.size + 1) := by omega
    have hcA2 := hcA.out
    have hcD := hcC (w.alloc (.cells #[.int .u8 (48 + (m : Int))] 5 (0, 0))).drew w.heap.size (alloc1_new w _)
    clear hDD hcC hb8
    go_enter Tryz.func69, Tryz.ntmps69
    go_wp2
    go_region_law ((first
      | (refine step_fn1 69 (.int .i64 (q : Int)) cf_dig (hI.out _) ?_; intro e w' hh; obtain ⟨rfl, hb⟩ := hh; (try (have hcB := HcC.out w' w.heap.size (below_blk hb (by simp) (alloc1_new w _)))); refine ⟨_, rfl, ?_⟩)))
    all_goals
      go_wp2
      go_ret
      exact ⟨ret_str (by rw [hD.out]), by first | exact ba (bt (below_drewN' _ 1) hb) _ | exact bt (bd (ba (Below.refl _ _) _) 1) hb⟩
theorem itoa_bigN (N : Nat) (h : ¬ N < 10) : Lib.itoa (-(N : Int)) = Lib.itoa (-((N / 10 : Nat) : Int)) ++ [UInt8.ofNat (48 + N % 10)] := by
  rw [Lib.itoa_neg N (by omega), Lib.itoa_neg (N / 10) (by omega)]
  conv => lhs; rw [Lib.decDigits]
  rw [dif_neg h]; rfl
theorem Dg_bigN (N : Nat) (h : ¬ N < 10) : Dg (-(N : Int)) = Dg (-((N / 10 : Nat) : Int)) ++ ⟨#[UInt8.ofNat (48 + N % 10)]⟩ := by
  apply ByteArray.ext
  apply Array.toList_inj.1
  rw [ByteArray.data_append, Array.toList_append]
  exact itoa_bigN N h
theorem Dg_neg (N : Nat) (h : 1 ≤ N) : Dg (-(N : Int)) = ⟨#[45]⟩ ++ Dg (N : Int) := by
  apply ByteArray.ext
  apply Array.toList_inj.1
  rw [ByteArray.data_append, Array.toList_append]
  show Lib.itoa (-(N : Int)) = [45] ++ Lib.itoa (N : Int)
  rw [Lib.itoa_neg N h, Lib.itoa_nonneg]; rfl
set_option maxRecDepth 100000 in
set_option maxHeartbeats 2000000 in
theorem rdig_neg : ∀ N : Nat, 1 ≤ N → N ≤ 9223372036854775808 → ∀ w : World,
    Calls Tryz.prog 69 #[.int .i64 (-(N : Int))] w fun e w' => e = .returned (.string (Dg (-(N : Int)))) ∧ Below w.heap.size w w' := by
  intro N
  induction N using Nat.strongRecOn with
  | _ N ih =>
  intro hN0 hN w
  by_cases h9 : N < 10
  · have i1 : ¬ ((9 : Int) < -(N : Int)) := by omega
    have i2 : ¬ (-(N : Int) < -9) := by omega
    have i3 : -(N : Int) < 0 := by omega
    have e1 : IntKind.i64.wrap (- -(N : Int)) = (N : Int) := by rw [Int.neg_neg]; exact IntWalk.i64_in _ (by omega)
    have e2 : - -(N : Int) = (N : Int) := Int.neg_neg _
    have hD := Lib.hid (Dg_neg N hN0)
    have hs := Dg_size (N : Int) (by omega) (by omega)
    have hC := Lib.hid (rdig_pos N (by omega))
    obtain ⟨D, hDD⟩ : ∃ D, D = Dg (N : Int) := ⟨_, rfl⟩
    rw [← hDD] at hD hs hC
    have j1 : ¬ (9223372036854775807 < (⟨#[45]⟩ : ByteArray).size + D.size) := by show ¬ (9223372036854775807 < 1 + D.size); omega
    clear ih hDD
    go_enter Tryz.func69, Tryz.ntmps69
    go_wp2_with fail
    (with_reducible refine (hC.out _).mono ?_); rintro e w1 ⟨rfl, hb1⟩
    go_wp2
    go_ret
    exact ⟨ret_str (by rw [hD.out]), hb1⟩
  · have i1 : ¬ ((9 : Int) < -(N : Int)) := by omega
    have i2 : -(N : Int) < -9 := by omega
    have ht : Int.tdiv (-(N : Int)) 10 = -((N / 10 : Nat) : Int) := by rw [Int.neg_tdiv]; rfl
    have hm : Int.tmod (-(N : Int)) 10 = -((N % 10 : Nat) : Int) := by rw [Int.neg_tmod]; rfl
    have hI := Lib.hid (ih (N / 10) (by omega) (by omega) (by omega))
    have hD := Lib.hid (Dg_bigN N h9)
    have hm9 : N % 10 < 10 := Nat.mod_lt _ (by omega)
    clear ih
    obtain ⟨m, hmm⟩ : ∃ m, m = N % 10 := ⟨_, rfl⟩
    obtain ⟨q, hqq⟩ : ∃ q, q = N / 10 := ⟨_, rfl⟩
    rw [← hmm] at hm hm9 hD
    rw [← hqq] at ht hI hD
    have hq9 : q ≤ N := by omega
    have w1 : IntKind.i64.wrap (-(q : Int)) = -(q : Int) := IntWalk.i64_in _ (by omega)
    have w2 : IntKind.i64.wrap (48 + (m : Int)) = 48 + (m : Int) := IntWalk.i64_in _ (by omega)
    have w3 : IntKind.u8.wrap (48 + (m : Int)) = 48 + (m : Int) := IntWalk.u8_in _ (by omega)
    have w5 : IntKind.i64.wrap (- -(m : Int)) = (m : Int) := by rw [Int.neg_neg]; exact IntWalk.i64_in _ (by omega)
    have w6 : - -(m : Int) = (m : Int) := Int.neg_neg _
    clear hmm hqq
    obtain ⟨b8, hb8⟩ : ∃ b8, b8 = UInt8.ofNat (48 + m) := ⟨_, rfl⟩
    rw [← hb8] at hD
    have hcC : ∀ (W : World) (g : Nat), W.heap[g]? = some (.cells #[.int .u8 (48 + (m : Int))] 5 (0, 0)) → (convert 81 9 (.slice (some ⟨g, 0, none⟩) 1 1)).run Tryz.prog W = .ok (.string ⟨#[b8]⟩) W := fun W g hg => by rw [hb8]; exact conv1 W g (48 + (m : Int)) (48 + m) (by omega) (by omega) hg
    have HcC := Lib.hid hcC
    have hcA := Lib.hid (fun W : World => hcC (W.alloc (.cells #[.int .u8 (48 + (m : Int))] 5 (0, 0))) W.heap.size (alloc1_new _ _))
    have hDs := Dg_size (-(q : Int)) (by omega) (by omega)
    obtain ⟨D, hDD⟩ : ∃ D, D = Dg (-(q : Int)) := ⟨_, rfl⟩
    rw [← hDD] at hDs hD hI
    have j1 : ¬ (9223372036854775807 < D.size + 1) := by omega
    have hcA2 := hcA.out
    have hcD := hcC (w.alloc (.cells #[.int .u8 (48 + (m : Int))] 5 (0, 0))).drew w.heap.size (alloc1_new w _)
    clear hDD hcC hb8
    by_cases hm0 : m = 0
    · have i3 : ¬ (-(m : Int) < 0) := by omega
      have w7 : IntKind.i64.wrap (48 + -(m : Int)) = 48 + (m : Int) := by rw [hm0]; rfl
      have hm1 := Lib.hid hm0
      clear hm0
      go_enter Tryz.func69, Tryz.ntmps69
      go_wp2
      go_region_law ((first
        | (refine step_fn1 69 (.int .i64 (-(q : Int))) cf_dig (hI.out _) ?_; intro e w' hh; obtain ⟨rfl, hb⟩ := hh; (try (have hcB := HcC.out w' w.heap.size (below_blk hb (by simp) (alloc1_new w _)))); refine ⟨_, rfl, ?_⟩)))
      all_goals
        go_wp2
        go_ret
        exact ⟨ret_str (by rw [hD.out]), by first | exact ba (bt (below_drewN' _ 1) hb) _ | exact bt (bd (ba (Below.refl _ _) _) 1) hb⟩
    · have i3 : -(m : Int) < 0 := by omega
      go_enter Tryz.func69, Tryz.ntmps69
      go_wp2
      go_region_law ((first
        | (refine step_fn1 69 (.int .i64 (-(q : Int))) cf_dig (hI.out _) ?_; intro e w' hh; obtain ⟨rfl, hb⟩ := hh; (try (have hcB := HcC.out w' w.heap.size (below_blk hb (by simp) (alloc1_new w _)))); refine ⟨_, rfl, ?_⟩)))
      all_goals
        go_wp2
        go_ret
        exact ⟨ret_str (by rw [hD.out]), by first | exact ba (bt (below_drewN' _ 1) hb) _ | exact bt (bd (ba (Below.refl _ _) _) 1) hb⟩
end Go.Proofs.YtcopnpllaoahaaaGreatDoor
namespace Go.Proofs.YtcopnpllaoahaaaGreatDoor
open Go.RowKit
theorem b8At {w : World} {B k : Nat} {A : Option Addr} {l : List Nat} (h : Reads w B 1 A l.length (b8s l)) (hk : k < l.length) :
    ∃ b off, A = some ⟨b, off, none⟩ ∧ b < B ∧ ∀ j (hj : j < l.length), w.cell? ⟨b, off + j, none⟩ = some (.int .u8 ((l[j] : Nat) : Int)) := by
  obtain ⟨b, off, e, hb, hc⟩ := h.2 (by omega)
  exact ⟨b, off, e, hb, fun j hj => hc j _ (by rw [List.getElem?_map, List.getElem?_eq_getElem hj]; rfl)⟩
theorem mb_asc (f : Nat → Bool) : ∀ i j (hi : i < (mbK f).length) (hj : j < (mbK f).length), i < j → (mbK f)[i] < (mbK f)[j] := by
  have h : List.Pairwise (· < ·) (mbK f) := List.Pairwise.filter _ List.pairwise_lt_range
  exact fun i j hi hj hij => List.pairwise_iff_getElem.1 h i j hi hj hij
theorem mb_lt (f : Nat → Bool) : ∀ i (hi : i < (mbK f).length), (mbK f)[i] < 256 := fun i hi => by
  have := (List.mem_filter.1 (List.getElem_mem hi : (mbK f)[i] ∈ mbK f)).1
  simpa using this
theorem stK_last (out : List (Nat × Nat)) (b : Nat) : ∃ ini x, stK out b = ini ++ [(x, b)] := by
  unfold stK
  rcases out.getLast? with _ | q
  · exact ⟨[], b, rfl⟩
  · simp only
    by_cases h : q.2 + 1 = b
    · rw [if_pos h]; exact ⟨_, _, rfl⟩
    · rw [if_neg h]; exact ⟨_, _, rfl⟩
theorem rn_take {l : List Nat} {k : Nat} (h : k < l.length) : rnK (l.take (k + 1)) = stK (rnK (l.take k)) l[k] := by
  rw [List.take_add_one, List.getElem?_eq_getElem h, ← rnK_snoc]; rfl
theorem rn_last {l : List Nat} {j : Nat} (h : j < l.length) : ∃ ini x, rnK (l.take (j + 1)) = ini ++ [(x, l[j])] := by
  rw [rn_take h]; exact stK_last _ _
theorem rn_add {l : List Nat} {k : Nat} (h : k < l.length) (hn : ∀ j (hj : j < l.length), k = j + 1 → l[j] + 1 ≠ l[k]) : rnK (l.take (k + 1)) = rnK (l.take k) ++ [(l[k], l[k])] := by
  rw [rn_take h]
  refine stK_add fun q hq => ?_
  cases k with
  | zero => simp [rnK] at hq
  | succ j =>
    obtain ⟨ini, x, e⟩ := rn_last (l := l) (j := j) (by omega)
    rw [e, List.getLast?_concat] at hq
    injection hq with hq
    subst hq
    exact hn j (by omega) rfl
/-- what Runs answers -/
def RetRn (l : List (Nat × Nat)) (w : World) (e : Ending) (w' : World) : Prop :=
  ∃ A c, e = .returned (.slice A l.length c) ∧ Below w.heap.size w w' ∧ Reads w' w'.heap.size 2 A l.length (rrs l)
set_option maxRecDepth 100000 in
set_option maxHeartbeats 4000000 in
theorem rruns_ (f : Nat → Bool) (w : World) : Calls Tryz.prog 116 #[stV f] w (RetRn (rnK (mbK f)) w) := by
  have HF0 := Lib.hid ((Fr.start w).newN (g := w.heap.size) rfl (stO f))
  have HL := Lib.hid (rlist_ f)
  have hasc := mb_asc f
  have hlt8 := mb_lt f
  have hmk : (mbK f).length ≤ 256 := mbT_len f 256
  go_enter Tryz.func116, Tryz.ntmps116
  go_upto_region 1 with fail
  generalize (w.alloc (stO f)) = W0 at *
  obtain ⟨⟨c0, c1, c2, c3⟩, _, _⟩ := bx4 (HF0.out.at (g := w.heap.size) (o := stO f) (by simp))
  go_wp2_with fail
  (with_reducible refine (HL.out _).mono ?_); rintro e w1 ⟨A, c, rfl, hb1, hr1⟩
  have HB1 := Lib.hid (HF0.out.go hb1).bel
  have HR1 := Lib.hid hr1
  clear hb1 hr1 HL HF0 c0 c1 c2 c3
  generalize mbK f = l at *
  go_wp2
  go_loopw [3, 5] (fun v i wr => ∃ k : Nat, k ≤ l.length ∧ i = .int .i64 (k : Int) ∧ wr.ownsRow w1.heap.size 142 2 v (rnK (l.take k)).length (rrs (rnK (l.take k))) ∧ Hid (Below w1.heap.size w1 wr)) (fun _ i _ => l.length - (intOf i).toNat)
  case atStart => exact ⟨0, by omega, rfl, World.ownsRow_nil _ _ _ _, Lib.hid (Below.refl _ _)⟩
  case round =>
    obtain ⟨k, hk, rfl, hown, HB⟩ := hrel
    by_cases hlt : k < l.length
    case neg =>
      have i1 : ¬ ((k : Int) < (l.length : Int)) := by omega
      rw [List.take_of_length_le (by omega)] at hown
      obtain ⟨A2, c2, rfl, hrd, hcp, hcm⟩ := own_sl hown
      have hB := bt HB1.out HB.out
      have HRd := Lib.hid hrd
      clear hown hrd
      go_wp2
      go_ret
      exact ⟨A2, c2, rfl, hB, HRd.out⟩
    have i1 : (k : Int) < (l.length : Int) := by omega
    have i0 : (0 : Int) ≤ (k : Int) := by omega
    have hol : (rnK (l.take k)).length ≤ k := Nat.le_trans (rnK_len _) (by rw [List.length_take]; omega)
    obtain ⟨bk, off, rfl, hbk, hcell⟩ := b8At (HR1.out.below HB.out) hlt
    have ck := hcell k hlt
    have hbkw : bk < wr.heap.size := Nat.lt_of_lt_of_le hbk HB.out.size
    obtain ⟨T, hT⟩ : ∃ T : Bool, T = true ↔ ∃ j, ∃ hj : j < l.length, k = j + 1 ∧ l[j] + 1 = l[k] := by
      by_cases h : ∃ j, ∃ hj : j < l.length, k = j + 1 ∧ l[j] + 1 = l[k]
      · exact ⟨true, ⟨fun _ => h, fun _ => rfl⟩⟩
      · exact ⟨false, ⟨fun e => (by cases e), fun e => absurd e h⟩⟩
    have HT := Lib.hid hT
    have HO := Lib.hid hown
    have Hcell := Lib.hid hcell
    clear hT hown hcell
    go_upto_region 6 with fail
    go_cut [28] (fun s wx => s = .bool T ∧ Below wr.heap.size wr wx)
    case first =>
      rcases k with _ | j
      · have g0 : decide ((0 : Int) < ((0 : Nat) : Int)) = false := by decide
        have hTf : T = false := by
          cases T with
          | false => rfl
          | true =>
            obtain ⟨j, hj, e, _⟩ := HT.out.1 rfl
            omega
        go_quiet (fail)
        go_wp2
        go_meet
        exact ⟨by rw [hTf], drewN_below _ _⟩
      · have hj : j < l.length := by omega
        have cj := Hcell.out j hj
        have g0 : decide ((0 : Int) < ((j + 1 : Nat) : Int)) = true := by rw [decide_eq_true_eq]; omega
        have g1 : (((j + 1 : Nat) : Int) - 1) = (j : Int) := by omega
        have g2 : (j : Int) < (l.length : Int) := by omega
        have g3 : (0 : Int) ≤ (j : Int) := by omega
        have ha := hasc j (j + 1) hj hlt (by omega)
        have h8 := hlt8 (j + 1) hlt
        have g4 : IntKind.u8.wrap (((l[j] : Nat) : Int) + 1) = ((l[j] : Nat) : Int) + 1 := by simp [IntKind.wrap, IntKind.bits, IntKind.signed]; omega
        have hTe : (((l[j + 1] : Nat) : Int) == ((l[j] : Nat) : Int) + 1) = T := by
          rw [Bool.eq_iff_iff, HT.out]
          constructor
          · intro e
            exact ⟨j, hj, rfl, by have := eq_of_beq e; omega⟩
          · rintro ⟨j2, hj2, e, e2⟩
            obtain rfl : j2 = j := by omega
            rw [beq_iff_eq]; omega
        generalize l[j + 1] = x at *
        generalize l[j] = y at *
        clear ha h8
        go_quiet (fail)
        go_wp2
        go_meet
        exact ⟨rfl, drewN_below _ _⟩
    case rest =>
    obtain ⟨rfl, hbw⟩ := hcut
    have ckc := (hbw.cell (p := ⟨bk, off + k, none⟩) hbkw).trans ck
    have HB2 := Lib.hid (bt HB.out hbw)
    have HO2 := Lib.hid (own_below HO.out hbw)
    have hx8 := hlt8 k hlt
    cases T with
    | true =>
      obtain ⟨j, hj, rfl, he⟩ := HT.out.1 rfl
      obtain ⟨ini, x, hrn⟩ := rn_last hj
      have HS := Lib.hid (show rnK (l.take (j + 1 + 1)) = ini ++ [(x, l[j + 1])] by rw [rn_take hlt, hrn]; exact stK_go he)
      have hown := HO2.out
      rw [hrn] at hown
      have hlen : (ini ++ [(x, l[j])]).length = ini.length + 1 := by simp
      rw [hlen] at hown
      obtain ⟨g, cap, rfl, hgb, hgl⟩ := hown.form (by omega)
      have hfg := hown.frozenAt (ini.length * 2 + 1)
      have hcz : wc.cell? ⟨g, ini.length * 2 + 1, none⟩ = some (.int .u8 ((l[j] : Nat) : Int)) := by
        rw [hown.cellAt (ini.length * 2 + 1) (by omega)]
        have := (flat2_at (f := rr0) (g := rr1) (ini ++ [(x, l[j])]) ini.length (by simp)).2
        rw [this]; simp
      have hl5 : ini.length + 1 ≤ j + 1 := by rw [hrn] at hol; rw [hlen] at hol; exact hol
      obtain ⟨hst, hgw⟩ := hown.stored (ini.length * 2 + 1) (.int .u8 ((l[j + 1] : Nat) : Int))
      have Hst := Lib.hid hst
      have HB3 := Lib.hid (HB2.out.setCell (p := ⟨g, ini.length * 2 + 1, none⟩) hgb (.int .u8 ((l[j + 1] : Nat) : Int))).drew
      clear hst hgw hown he hrn HO HO2 HT Hcell ck hbw HB2
      have e1 : (((ini.length + 1 : Nat) : Int) - 1) = (ini.length : Int) := by omega
      have e2 : (ini.length : Int) < ((ini.length + 1 : Nat) : Int) := by omega
      have e3 : (0 : Int) ≤ (ini.length : Int) := by omega
      have HOw := Lib.hid (show (wc.setCell ⟨g, ini.length * 2 + 1, none⟩ (.int .u8 ((l[j + 1] : Nat) : Int))).drew.ownsRow w1.heap.size 142 2 (.slice (some ⟨g, 0, none⟩) (ini.length + 1) cap) (rnK (l.take (j + 1 + 1))).length (rrs (rnK (l.take (j + 1 + 1)))) by
        have e : rrs (ini ++ [(x, l[j + 1])]) = (rrs (ini ++ [(x, l[j])])).set (ini.length * 2 + 1) (.int .u8 ((l[j + 1] : Nat) : Int)) := by
          rw [rrs_snoc, rrs_snoc, List.set_append_right _ _ (by rw [flat2_length]; omega), flat2_length, show ini.length * 2 + 1 - ini.length * 2 = 1 by omega]; rfl
        have el : (ini ++ [(x, l[j + 1])]).length = ini.length + 1 := by simp
        rw [HS.out, e, el]
        exact Hst.out)
      clear HS Hst hlen
      go_wp2
      go_region
      all_goals
        go_wp2
        go_roundw
        case rel => exact ⟨j + 1 + 1, by omega, by go_num, HOw.out, HB3⟩
        case measure => (simp [intOf]) <;> omega
    | false =>
      have HS := Lib.hid (rn_add hlt (fun j hj e e2 => by
        have := HT.out.2 ⟨j, hj, e, e2⟩
        cases this))
      clear HO HT Hcell ck hbw HB
      generalize l[k] = b at *
      generalize hout : rnK (l.take k) = out at *
      clear hout
      go_upto_region 8 with fail
      go_region_law ((refine step_ap rnEl (w0 := w1) (by exact HO2.out.alloc _) (by exact (ba HB2.out _).drew) [.int .u8 (b : Int), .int .u8 (b : Int)] (by exact alloc1_new _ _) ?_; intro g4 cap4 w4 hO4 hb4 hg4))
      all_goals
        have HO5 := Lib.hid (show w4.ownsRow w1.heap.size 142 2 (.slice (some ⟨g4, 0, none⟩) (out.length + 1) cap4) (rnK (l.take (k + 1))).length (rrs (rnK (l.take (k + 1)))) by
          rw [HS.out, rrs_snoc, List.length_append]; exact hO4)
        have HB5 := Lib.hid hb4
        clear hO4 hb4 hg4
        simp only [Act.put, List.getElem_toArray, List.getElem_cons_succ, List.getElem_cons_zero, List.setIfInBounds_toArray, List.set_cons_zero, List.set_cons_succ]
        go_wp2
        go_roundw
        case rel => exact ⟨k + 1, by omega, by go_num, HO5.out, HB5⟩
        case measure => (simp [intOf]) <;> omega
end Go.Proofs.YtcopnpllaoahaaaGreatDoor
namespace Go.Proofs.YtcopnpllaoahaaaGreatDoor
open Go.RowKit
theorem bK_eq {b c : Nat} (hb : b < 256) (hc : c < 256) : (bK b == bK c) = decide (b = c) := by
  rw [Bool.eq_iff_iff, beq_iff_eq, decide_eq_true_eq]
  constructor
  · intro e
    have := congrArg UInt8.toNat e
    rwa [bK_nat hb, bK_nat hc] at this
  · rintro rfl; rfl
theorem spK_nat {b : Nat} (hb : b < 256) : spK (bK b) = (decide (b = 91) || decide (b = 93) || decide (b = 92) || decide (b = 94) || decide (b = 45)) := by
  unfold spK
  rw [← bK_eq hb (by decide), ← bK_eq hb (by decide), ← bK_eq hb (by decide), ← bK_eq hb (by decide), ← bK_eq hb (by decide)]
  rfl
set_option maxHeartbeats 1000000 in
theorem rspecial_ (b : Nat) (hb : b < 256) (v : Bool) (hv : Hid (spK (bK b) = v)) (w : World) : Calls Tryz.prog 127 #[.int .u8 (b : Int)] w fun e w' => e = .returned (.bool v) ∧ w' = w := by
  have HV := Lib.hid (show v = (decide (b = 91) || decide (b = 93) || decide (b = 92) || decide (b = 94) || decide (b = 45)) by rw [← hv.out, spK_nat hb])
  clear hv
  have key : ∀ c : Nat, ((b : Int) == (c : Int)) = decide (b = c) := fun c => by rw [Bool.eq_iff_iff, beq_iff_eq, decide_eq_true_eq]; omega
  have m1 : ((b : Int) == 91) = decide (b = 91) := key 91
  have m2 : ((b : Int) == 93) = decide (b = 93) := key 93
  have m3 : ((b : Int) == 92) = decide (b = 92) := key 92
  have m4 : ((b : Int) == 94) = decide (b = 94) := key 94
  have m5 : ((b : Int) == 45) = decide (b = 45) := key 45
  clear key
  rcases h1 : decide (b = 91) with _ | _
  · rcases h2 : decide (b = 93) with _ | _
    · rcases h3 : decide (b = 92) with _ | _
      · rcases h4 : decide (b = 94) with _ | _
        · rw [h1] at m1; rw [h2] at m2; rw [h3] at m3; rw [h4] at m4
          rw [h1, h2, h3, h4] at HV
          clear h1 h2 h3 h4
          go_enter Tryz.func127, Tryz.ntmps127
          go_wp2
          go_ret
          exact ⟨ret_bool (by rw [HV.out]; simp), rfl⟩
        · rw [h1] at m1; rw [h2] at m2; rw [h3] at m3; rw [h4] at m4
          rw [h1, h2, h3, h4] at HV
          clear h1 h2 h3 h4
          go_enter Tryz.func127, Tryz.ntmps127
          go_wp2
          go_ret
          exact ⟨ret_bool (by rw [HV.out]; simp), rfl⟩
      · rw [h1] at m1; rw [h2] at m2; rw [h3] at m3
        rw [h1, h2, h3] at HV
        clear h1 h2 h3
        go_enter Tryz.func127, Tryz.ntmps127
        go_wp2
        go_ret
        exact ⟨ret_bool (by rw [HV.out]; simp), rfl⟩
    · rw [h1] at m1; rw [h2] at m2
      rw [h1, h2] at HV
      clear h1 h2
      go_enter Tryz.func127, Tryz.ntmps127
      go_wp2
      go_ret
      exact ⟨ret_bool (by rw [HV.out]; simp), rfl⟩
  · rw [h1] at m1
    rw [h1] at HV
    clear h1
    go_enter Tryz.func127, Tryz.ntmps127
    go_wp2
    go_ret
    exact ⟨ret_bool (by rw [HV.out]; simp), rfl⟩
theorem hx_ext : ∀ n : Fin 16, (⟨#[48, 49, 50, 51, 52, 53, 54, 55, 56, 57, 97, 98, 99, 100, 101, 102]⟩ : ByteArray).extract n.val (n.val + 1) = ⟨#[hxK n.val]⟩ := by decide
set_option maxHeartbeats 1000000 in
theorem rdigit_ (n : Nat) (hn : n < 16) (w : World) : Calls Tryz.prog 128 #[.int .u8 (n : Int)] w fun e w' => e = .returned (.string ⟨#[hxK n]⟩) ∧ w' = w := by
  have HX := Lib.hid (hx_ext ⟨n, hn⟩)
  have i0 : (0 : Int) ≤ (n : Int) := by omega
  have i1 : (n : Int) ≤ (n : Int) + 1 := by omega
  have i2 : (n : Int) + 1 ≤ 16 := by omega
  go_enter Tryz.func128, Tryz.ntmps128
  go_wp2
  go_ret
  exact ⟨by rw [← HX.out]; rfl, rfl⟩
theorem ba2 (a b : List UInt8) : (⟨a.toArray⟩ : ByteArray) ++ ⟨b.toArray⟩ = ⟨(a ++ b).toArray⟩ := by
  apply ByteArray.ext
  apply Array.toList_inj.1
  rw [ByteArray.data_append, Array.toList_append]
theorem ba11 (a b : UInt8) : (⟨#[a]⟩ : ByteArray) ++ ⟨#[b]⟩ = ⟨[a, b].toArray⟩ := ba2 [a] [b]
theorem ba211 (a b c d : UInt8) : (⟨#[a, b]⟩ : ByteArray) ++ ⟨#[c]⟩ ++ ⟨#[d]⟩ = ⟨[a, b, c, d].toArray⟩ := by
  have h1 := ba2 [a, b] [c]
  have h2 := ba2 [a, b, c] [d]
  exact (congrArg (· ++ (⟨#[d]⟩ : ByteArray)) h1).trans h2
set_option maxRecDepth 100000 in
set_option maxHeartbeats 1000000 in
theorem rtextb_ (b : Nat) (hb : b < 256) (w : World) : Calls Tryz.prog 117 #[.int .u8 (b : Int)] w fun e w' => e = .returned (.string ⟨(txK (bK b)).toArray⟩) ∧ Below w.heap.size w w' := by
  have hpl : plK (bK b) = decide (33 ≤ b ∧ b ≤ 126) := by unfold plK; rw [bK_nat hb]
  have hcv := conv1 (w.alloc (.cells #[.int .u8 (b : Int)] 5 (0, 0))) w.heap.size (b : Int) b rfl hb (alloc1_new _ _)
  have hB : Below w.heap.size w (w.alloc (.cells #[.int .u8 (b : Int)] 5 (0, 0))) := (Below.refl _ _).alloc (Nat.le_refl _) _
  have HB := Lib.hid hB
  clear hB
  rcases hs : spK (bK b) with _ | _
  · have HS := Lib.hid (rspecial_ b hb false (Lib.hid hs) w)
    by_cases hp : 33 ≤ b ∧ b ≤ 126
    · have HT := Lib.hid (show txK (bK b) = [bK b] by unfold txK; rw [hs, hpl, decide_eq_true hp]; rfl)
      have i1 : (33 : Int) ≤ (b : Int) := by omega
      have i2 : (b : Int) ≤ 126 := by omega
      clear hpl hs
      go_enter Tryz.func117, Tryz.ntmps117
      go_wp2_with fail
      (with_reducible refine HS.out.mono ?_); rintro e w1 ⟨rfl, rfl⟩
      go_wp2
      go_ret
      exact ⟨by rw [HT.out]; rfl, HB.out⟩
    · have HT := Lib.hid (show txK (bK b) = [92, 120, hxK (b / 16), hxK (b % 16)] by unfold txK; rw [hs, hpl, decide_eq_false hp, bK_nat hb]; rfl)
      have HD1 := Lib.hid (show ∀ w, Calls Tryz.prog 128 #[.int .u8 ((b : Int) / 16)] w fun e w' => e = .returned (.string ⟨#[hxK (b / 16)]⟩) ∧ w' = w from fun w => rdigit_ (b / 16) (by omega) w)
      have HD2 := Lib.hid (show ∀ w, Calls Tryz.prog 128 #[.int .u8 ((b : Int) % 16)] w fun e w' => e = .returned (.string ⟨#[hxK (b % 16)]⟩) ∧ w' = w from fun w => rdigit_ (b % 16) (by omega) w)
      generalize hxK (b / 16) = x at *
      generalize hxK (b % 16) = y at *
      clear hpl hs hcv
      by_cases i1 : 33 ≤ b
      · have i2 : (33 : Int) ≤ (b : Int) := by omega
        have i3 : ¬ ((b : Int) ≤ 126) := by omega
        go_enter Tryz.func117, Tryz.ntmps117
        go_wp2_with fail
        (with_reducible refine HS.out.mono ?_); rintro e w1 ⟨rfl, rfl⟩
        go_wp2_with fail
        (with_reducible refine (HD1.out _).mono ?_); rintro e w2 ⟨rfl, rfl⟩
        go_wp2_with fail
        (with_reducible refine (HD2.out _).mono ?_); rintro e w3 ⟨rfl, rfl⟩
        go_wp2
        go_ret
        exact ⟨ret_str (by rw [HT.out]; exact ba211 _ _ _ _), Below.refl _ _⟩
      · have i2 : ¬ ((33 : Int) ≤ (b : Int)) := by omega
        go_enter Tryz.func117, Tryz.ntmps117
        go_wp2_with fail
        (with_reducible refine HS.out.mono ?_); rintro e w1 ⟨rfl, rfl⟩
        go_wp2_with fail
        (with_reducible refine (HD1.out _).mono ?_); rintro e w2 ⟨rfl, rfl⟩
        go_wp2_with fail
        (with_reducible refine (HD2.out _).mono ?_); rintro e w3 ⟨rfl, rfl⟩
        go_wp2
        go_ret
        exact ⟨ret_str (by rw [HT.out]; exact ba211 _ _ _ _), Below.refl _ _⟩
  · have HS := Lib.hid (rspecial_ b hb true (Lib.hid hs) w)
    have HT := Lib.hid (show txK (bK b) = [92, bK b] by unfold txK; rw [hs]; rfl)
    clear hpl hs
    go_enter Tryz.func117, Tryz.ntmps117
    go_wp2_with fail
    (with_reducible refine HS.out.mono ?_); rintro e w1 ⟨rfl, rfl⟩
    go_wp2
    go_ret
    exact ⟨ret_str (by rw [HT.out]; exact ba11 _ _), HB.out⟩
end Go.Proofs.YtcopnpllaoahaaaGreatDoor
namespace Go.Proofs.YtcopnpllaoahaaaGreatDoor
open Go.RowKit
theorem r2At {w : World} {B k : Nat} {A : Option Addr} {l : List (Nat × Nat)} (h : Reads w B 2 A l.length (rrs l)) (hk : k < l.length) :
    ∃ b off, A = some ⟨b, off, none⟩ ∧ b < B ∧ w.cell? ⟨b, off + k * 2, none⟩ = some (.int .u8 ((l[k].1 : Nat) : Int)) ∧ w.cell? ⟨b, off + k * 2 + 1, none⟩ = some (.int .u8 ((l[k].2 : Nat) : Int)) := by
  obtain ⟨b, off, e, hb, hc⟩ := h.2 (by omega)
  obtain ⟨f1, f2⟩ := flat2_at (f := rr0) (g := rr1) l k hk
  exact ⟨b, off, e, hb, hc (k * 2) _ f1, (congrArg (fun x => w.cell? ⟨b, x, none⟩) (Nat.add_assoc _ _ _)).trans (hc (k * 2 + 1) _ f2)⟩
theorem txK_len (b : UInt8) : (txK b).length ≤ 4 := by
  unfold txK
  split
  · simp
  · split <;> simp
set_option maxRecDepth 100000 in
set_option maxHeartbeats 4000000 in
theorem ritems_ (f : Nat → Bool) (w : World) : Calls Tryz.prog 90 #[stV f] w fun e w' => e = .returned (.string ⟨((rnK (mbK f)).flatMap itK).toArray⟩) ∧ Below w.heap.size w w' := by
  have HF0 := Lib.hid ((Fr.start w).newN (g := w.heap.size) rfl (stO f))
  have HR := Lib.hid (rruns_ f)
  have hok := (runs_in f).1
  have hln : (rnK (mbK f)).length ≤ 256 := Nat.le_trans (rnK_len _) (mbT_len f 256)
  generalize rnK (mbK f) = l at *
  go_enter Tryz.func90, Tryz.ntmps90
  go_upto_region 1 with fail
  generalize (w.alloc (stO f)) = W0 at *
  obtain ⟨⟨c0, c1, c2, c3⟩, _, _⟩ := bx4 (HF0.out.at (g := w.heap.size) (o := stO f) (by simp))
  go_wp2_with fail
  (with_reducible refine (HR.out _).mono ?_); rintro e w1 ⟨A, c, rfl, hb1, hr1⟩
  have HB1 := Lib.hid (HF0.out.go hb1).bel
  have HR1 := Lib.hid hr1
  clear hb1 hr1 HR HF0 c0 c1 c2 c3
  go_wp2
  go_loopw [3, 5] (fun s i wr => ∃ (k : Nat) (S : ByteArray), k ≤ l.length ∧ i = .int .i64 (k : Int) ∧ s = .string S ∧ Hid (S = ⟨((l.take k).flatMap itK).toArray⟩) ∧ Hid (Below w1.heap.size w1 wr)) (fun _ i _ => l.length - (intOf i).toNat)
  case atStart => exact ⟨0, ⟨#[]⟩, Nat.zero_le _, rfl, rfl, Lib.hid rfl, Lib.hid (Below.refl _ _)⟩
  case round =>
    obtain ⟨k, S, hk, rfl, rfl, hS, HB⟩ := hrel
    by_cases hlt : k < l.length
    case neg =>
      have i1 : ¬ ((k : Int) < (l.length : Int)) := by omega
      have hB := bt HB1.out HB.out
      go_wp2
      go_ret
      exact ⟨ret_str (by rw [hS.out, List.take_of_length_le (by omega)]), hB⟩
    have i1 : (k : Int) < (l.length : Int) := by omega
    have i0 : (0 : Int) ≤ (k : Int) := by omega
    obtain ⟨bk, off, rfl, hbk, c0, c1⟩ := r2At (HR1.out.below HB.out) hlt
    have hxy := hok l[k] (List.getElem_mem hlt)
    have hst : (l.take (k + 1)).flatMap itK = (l.take k).flatMap itK ++ itK l[k] := by
      rw [List.take_add_one, List.getElem?_eq_getElem hlt, List.flatMap_append]; simp
    have hbkw : bk < wr.heap.size := Nat.lt_of_lt_of_le hbk HB.out.size
    obtain ⟨x, y, hq⟩ : ∃ x y, l[k] = (x, y) := ⟨_, _, rfl⟩
    rw [hq] at c0 c1 hxy hst
    simp only at c0 c1 hxy
    have hsz : S.size ≤ 3000 := by
      rw [hS.out]
      show (((l.take k).flatMap itK).toArray).size ≤ 3000
      rw [List.size_toArray]
      have h1 := its_len (l.take k)
      have h2 : (l.take k).length ≤ 256 := by rw [List.length_take]; omega
      omega
    obtain ⟨X, hX⟩ : ∃ X : ByteArray, X = ⟨(txK (bK x)).toArray⟩ := ⟨_, rfl⟩
    obtain ⟨Y, hY⟩ : ∃ X : ByteArray, X = ⟨(txK (bK y)).toArray⟩ := ⟨_, rfl⟩
    have hXs : X.size ≤ 4 := by rw [hX]; show ((txK (bK x)).toArray).size ≤ 4; rw [List.size_toArray]; exact txK_len _
    have hYs : Y.size ≤ 4 := by rw [hY]; show ((txK (bK y)).toArray).size ≤ 4; rw [List.size_toArray]; exact txK_len _
    have tX := rtextb_ x (by omega)
    have tY := rtextb_ y hxy.2
    rw [← hX] at tX
    rw [← hY] at tY
    have HX := Lib.hid tX
    have HY := Lib.hid tY
    have Hst := Lib.hid hst
    have HXe := Lib.hid hX
    have HYe := Lib.hid hY
    clear hst hq hok tX tY hX hY
    go_wp2_with fail
    (with_reducible refine (HX.out _).mono ?_); rintro e w2 ⟨rfl, hb2⟩
    have d0 := (hb2.cell (p := ⟨bk, off + k * 2, none⟩) hbkw).trans c0
    have d1 := (hb2.cell (p := ⟨bk, off + k * 2 + 1, none⟩) hbkw).trans c1
    have HB2 := Lib.hid (bt HB.out hb2)
    have hbk2 : bk < w2.heap.size := Nat.lt_of_lt_of_le hbkw hb2.size
    have g4 : IntKind.u8.wrap ((y : Int) - (x : Int)) = (y : Int) - (x : Int) := by simp [IntKind.wrap, IntKind.bits, IntKind.signed]; omega
    clear c0 c1 hb2 HB hbkw HX
    have zf : ∀ u : List UInt8, itK (x, y) = u → ∀ V : ByteArray, V.data.toList = u → S ++ V = ⟨((l.take (k + 1)).flatMap itK).toArray⟩ := fun u hu V hV => by
      apply ByteArray.ext
      apply Array.toList_inj.1
      rw [ByteArray.data_append, Array.toList_append, hS.out, Hst.out, hu, hV]
    have ZF := Lib.hid zf
    have hXd : X.data.toList = txK (bK x) := by rw [HXe.out]
    have hYd : Y.data.toList = txK (bK y) := by rw [HYe.out]
    have HXd := Lib.hid hXd
    have HYd := Lib.hid hYd
    clear zf hXd hYd
    by_cases hxy2 : 2 ≤ y - x
    · have j1 : (2 : Int) ≤ (y : Int) - (x : Int) := by omega
      have j2 : (x : Int) < (y : Int) := by omega
      have HZ := Lib.hid (show itK (x, y) = txK (bK x) ++ ([45] ++ txK (bK y)) by unfold itK; rw [if_pos hxy2, if_pos (show x < y by omega)])
      have m1 : decide ((2 : Int) ≤ (y : Int) - (x : Int)) = true := decide_eq_true j1
      have m2 : decide ((x : Int) < (y : Int)) = true := decide_eq_true j2
      go_upto_region 7 with fail
      go_quiet (fail)
      go_upto_region 9 with fail
      go_quiet (fail)
      go_wp2_with fail
      (with_reducible refine (HY.out _).mono ?_); rintro e w3 ⟨rfl, hb3⟩
      have HB3 := Lib.hid (bt (Go.RowKit.Below.trans HB2.out (drewN_below _ _)) hb3)
      clear hb3
      go_wp2
      go_roundw
      case rel => exact ⟨k + 1, _, by omega, by go_num, rfl, Lib.hid (by
        rw [ByteArray.append_assoc, ByteArray.append_assoc]
        refine ZF.out _ HZ.out _ ?_
        rw [ByteArray.data_append, Array.toList_append, ByteArray.data_append, Array.toList_append, HXd.out, HYd.out]), HB3⟩
      case measure => (simp [intOf]) <;> omega
    · have j1 : ¬ ((2 : Int) ≤ (y : Int) - (x : Int)) := by omega
      have m1 : decide ((2 : Int) ≤ (y : Int) - (x : Int)) = false := decide_eq_false j1
      by_cases hxy3 : x < y
      · have j2 : (x : Int) < (y : Int) := by omega
        have m2 : decide ((x : Int) < (y : Int)) = true := decide_eq_true j2
        have HZ := Lib.hid (show itK (x, y) = txK (bK x) ++ txK (bK y) by unfold itK; rw [if_neg hxy2, if_pos hxy3]; rfl)
        go_upto_region 7 with fail
        go_quiet (fail)
        go_upto_region 9 with fail
        go_quiet (fail)
        go_wp2_with fail
        (with_reducible refine (HY.out _).mono ?_); rintro e w3 ⟨rfl, hb3⟩
        have HB3 := Lib.hid (bt (Go.RowKit.Below.trans HB2.out (drewN_below _ _)) hb3)
        clear hb3
        go_wp2
        go_roundw
        case rel => exact ⟨k + 1, _, by omega, by go_num, rfl, Lib.hid (by
          rw [ByteArray.append_assoc]
          refine ZF.out _ HZ.out _ ?_
          rw [ByteArray.data_append, Array.toList_append, HXd.out, HYd.out]), HB3⟩
        case measure => (simp [intOf]) <;> omega
      · have j2 : ¬ ((x : Int) < (y : Int)) := by omega
        have m2 : decide ((x : Int) < (y : Int)) = false := decide_eq_false j2
        have HZ := Lib.hid (show itK (x, y) = txK (bK x) by unfold itK; rw [if_neg hxy2, if_neg hxy3]; simp)
        go_upto_region 7 with fail
        go_quiet (fail)
        go_upto_region 9 with fail
        go_quiet (fail)
        go_wp2
        go_roundw
        case rel => exact ⟨k + 1, _, by omega, by go_num, rfl, Lib.hid (ZF.out _ HZ.out _ HXd.out), Lib.hid (Go.RowKit.Below.trans HB2.out (drewN_below _ _))⟩
        case measure => (simp [intOf]) <;> omega
end Go.Proofs.YtcopnpllaoahaaaGreatDoor
namespace Go.Proofs.YtcopnpllaoahaaaGreatDoor
open Go.RowKit
theorem sz_of (l : List UInt8) : (⟨l.toArray⟩ : ByteArray).size = l.length := by show l.toArray.size = _; rw [List.size_toArray]
theorem ba3 (a b c : List UInt8) : (⟨a.toArray⟩ : ByteArray) ++ ⟨b.toArray⟩ ++ ⟨c.toArray⟩ = ⟨(a ++ b ++ c).toArray⟩ := by
  rw [ba2, ba2]
set_option maxRecDepth 100000 in
set_option maxHeartbeats 2000000 in
theorem rprints_ (f : Nat → Bool) (w : World) : Calls Tryz.prog 71 #[stV f] w fun e w' => e = .returned (.string ⟨(prK f).toArray⟩) ∧ Below w.heap.size w w' := by
  have HF0 := Lib.hid ((Fr.start w).newN (g := w.heap.size) rfl (stO f))
  have key : ∀ g : Nat → Bool, ((rnK (mbK g)).flatMap itK).length ≤ 2304 := fun g => by
    have h1 := its_len (rnK (mbK g))
    have h2 := rnK_len (mbK g)
    have h3 := mbT_len g 256
    rw [mbT_all] at h3
    omega
  by_cases hc : 128 < (mbK f).length
  · have i1 : (128 : Int) < ((mbK f).length : Int) := by omega
    have HC := Lib.hid (fun w => rcount_ f (mbK f).length (Lib.hid rfl) w)
    have HN := Lib.hid (rnot_ f)
    have HI := ritems_ (fun i => !f i)
    obtain ⟨fn, hfn⟩ : ∃ g : Nat → Bool, g = fun i => !f i := ⟨_, rfl⟩
    rw [← hfn] at HN HI
    have hz : prK f = [91, 94] ++ (rnK (mbK fn)).flatMap itK ++ [93] := by unfold prK; rw [if_pos hc, hfn]; simp
    obtain ⟨U, hU⟩ : ∃ U : ByteArray, U = ⟨((rnK (mbK fn)).flatMap itK).toArray⟩ := ⟨_, rfl⟩
    have hUs : U.size ≤ 2304 := by rw [hU, sz_of]; exact key fn
    have HZ := Lib.hid (show (⟨#[91, 94]⟩ : ByteArray) ++ U ++ ⟨#[93]⟩ = ⟨(prK f).toArray⟩ by rw [hU, hz]; exact ba3 [91, 94] _ [93])
    rw [← hU] at HI
    have HIt := Lib.hid HI
    have y1 : ¬ (9223372036854775807 < 2 + U.size) := by omega
    have y2 : ¬ (9223372036854775807 < 2 + U.size + 1) := by omega
    generalize (mbK f).length = n at *
    clear hU hz hfn HI key hc
    go_enter Tryz.func71, Tryz.ntmps71
    go_upto_region 1 with fail
    generalize (w.alloc (stO f)) = W0 at *
    obtain ⟨⟨c0, c1, c2, c3⟩, _, _⟩ := bx4 (HF0.out.at (g := w.heap.size) (o := stO f) (by simp))
    go_wp2_with fail
    (with_reducible refine (HC.out _).mono ?_); rintro e w1 ⟨rfl, hb1⟩
    have HF1 := Lib.hid (HF0.out.go hb1)
    clear hb1 HF0 HC c0 c1 c2 c3
    obtain ⟨⟨c0, c1, c2, c3⟩, _, _⟩ := bx4 (HF1.out.at (g := w.heap.size) (o := stO f) (by simp))
    go_wp2_with fail
    (with_reducible refine (HN.out _).mono ?_); rintro e w2 ⟨rfl, hb2⟩
    have HB2 := Lib.hid (HF1.out.go hb2).bel
    clear hb2 HF1 HN c0 c1 c2 c3
    go_wp2_with fail
    (with_reducible refine (HIt.out _).mono ?_); rintro e w3 ⟨rfl, hb3⟩
    have HB3 := Lib.hid (bt HB2.out hb3)
    clear hb3
    go_wp2
    go_ret
    exact ⟨ret_str HZ.out, HB3.out⟩
  · have i1 : ¬ ((128 : Int) < ((mbK f).length : Int)) := by omega
    have HC := Lib.hid (fun w => rcount_ f (mbK f).length (Lib.hid rfl) w)
    have HI := ritems_ f
    have hz : prK f = [91] ++ (rnK (mbK f)).flatMap itK ++ [93] := by unfold prK; rw [if_neg hc]; simp
    obtain ⟨U, hU⟩ : ∃ U : ByteArray, U = ⟨((rnK (mbK f)).flatMap itK).toArray⟩ := ⟨_, rfl⟩
    have hUs : U.size ≤ 2304 := by rw [hU, sz_of]; exact key f
    have HZ := Lib.hid (show (⟨#[91]⟩ : ByteArray) ++ U ++ ⟨#[93]⟩ = ⟨(prK f).toArray⟩ by rw [hU, hz]; exact ba3 [91] _ [93])
    rw [← hU] at HI
    have HIt := Lib.hid HI
    have y1 : ¬ (9223372036854775807 < 1 + U.size) := by omega
    have y2 : ¬ (9223372036854775807 < 1 + U.size + 1) := by omega
    generalize (mbK f).length = n at *
    clear hU hz HI key hc
    go_enter Tryz.func71, Tryz.ntmps71
    go_upto_region 1 with fail
    generalize (w.alloc (stO f)) = W0 at *
    obtain ⟨⟨c0, c1, c2, c3⟩, _, _⟩ := bx4 (HF0.out.at (g := w.heap.size) (o := stO f) (by simp))
    go_wp2_with fail
    (with_reducible refine (HC.out _).mono ?_); rintro e w1 ⟨rfl, hb1⟩
    have HF1 := Lib.hid (HF0.out.go hb1)
    clear hb1 HF0 HC c0 c1 c2 c3
    obtain ⟨⟨c0, c1, c2, c3⟩, _, _⟩ := bx4 (HF1.out.at (g := w.heap.size) (o := stO f) (by simp))
    go_wp2_with fail
    (with_reducible refine (HIt.out _).mono ?_); rintro e w3 ⟨rfl, hb3⟩
    have HB3 := Lib.hid (HF1.out.go hb3).bel
    clear hb3
    go_wp2
    go_ret
    exact ⟨ret_str HZ.out, HB3.out⟩
set_option maxRecDepth 100000 in
set_option maxHeartbeats 8000000 in
theorem rtx_ (K F T N : Int) (S : ByteArray) (f : Nat → Bool) (hK : 1 ≤ K ∧ K ≤ 6) (hN : 0 ≤ N ∧ N ≤ 9223372036854775807) (hS : S.size ≤ 100000) (u : ByteArray) (hu : Hid (tx9 K N S f = u)) (w : World) :
    Calls Tryz.prog 54 #[tkV K F T N S f] w fun e w' => e = .returned (.string u) ∧ Below w.heap.size w w' := by
  obtain ⟨hN0, hN1⟩ := hN
  have HF := Lib.hid ((Fr.start w).newN (g := w.heap.size) rfl (tkO K F T N S f))
  have hu0 := hu.out
  unfold tx9 at hu0
  have HN := Lib.hid (And.intro hN0 hN1)
  clear hu hN0 hN1
  by_cases h1 : K = 1
  · subst h1
    have HU := Lib.hid (show (⟨#[114, 117, 108, 101]⟩ : ByteArray) = u by rw [← hu0]; rfl)
    clear hu0
    go_enter Tryz.func54, Tryz.ntmps54
    go_wp2
    go_ret
    exact ⟨by rw [← HU.out]; rfl, HF.out.bel⟩
  rw [if_neg h1] at hu0
  by_cases h2 : K = 2
  · subst h2
    have HU := Lib.hid (show (⟨#[103, 97, 112]⟩ : ByteArray) = u by rw [← hu0]; rfl)
    clear hu0
    go_enter Tryz.func54, Tryz.ntmps54
    go_wp2
    go_ret
    exact ⟨by rw [← HU.out]; rfl, HF.out.bel⟩
  rw [if_neg h2] at hu0
  by_cases h3 : K = 3
  · subst h3
    have HU := Lib.hid (show Dg N = u by rw [← hu0]; rfl)
    have hnd := rdig_pos N.toNat (by have := HN.out; omega)
    rw [show ((N.toNat : Nat) : Int) = N by have := HN.out; omega] at hnd
    have HNd := Lib.hid hnd
    clear hnd
    clear hu0
    go_enter Tryz.func54, Tryz.ntmps54
    go_wp2_with fail
    (with_reducible refine (HNd.out _).mono ?_); rintro e w1 ⟨rfl, hb1⟩
    have HB := Lib.hid (bt HF.out.bel hb1)
    clear hb1
    go_wp2
    go_ret
    exact ⟨by rw [← HU.out]; rfl, HB.out⟩
  rw [if_neg h3] at hu0
  by_cases h4 : K = 4
  · subst h4
    have HU := Lib.hid (show (⟨(quoteB S.data.toList).toArray⟩ : ByteArray) = u by rw [← hu0]; rfl)
    clear hu0
    go_enter Tryz.func54, Tryz.ntmps54
    go_wp2_with fail
    (with_reducible refine (rquote S _ (by omega)).mono ?_); rintro e w1 ⟨rfl, hb1⟩
    have HB := Lib.hid (bt HF.out.bel hb1)
    clear hb1
    rw [HU.out]
    go_wp2
    go_ret
    exact ⟨rfl, HB.out⟩
  rw [if_neg h4] at hu0
  by_cases h5 : K = 5
  · subst h5
    have hql : (quoteB S.data.toList).length ≤ 500000 := by
      have := qB_len S.data.toList
      unfold qB at this
      unfold quoteB
      simp only [List.length_cons, List.length_append, List.length_nil] at *
      have h9 : S.data.toList.length = S.size := by simp
      omega
    have hqs : (⟨(quoteB S.data.toList).toArray⟩ : ByteArray).size ≤ 500000 := by show (quoteB S.data.toList).toArray.size ≤ _; simpa using hql
    have HU := Lib.hid (show (⟨#[105]⟩ : ByteArray) ++ ⟨(quoteB S.data.toList).toArray⟩ = u by rw [← hu0]; rfl)
    have HQ := Lib.hid (fun W => rquote S W (by omega))
    generalize (⟨(quoteB S.data.toList).toArray⟩ : ByteArray) = qs at *
    have j1 : ¬ (9223372036854775807 < 1 + qs.size) := by omega
    clear hu0 hql
    go_enter Tryz.func54, Tryz.ntmps54
    go_wp2_with fail
    (with_reducible refine (HQ.out _).mono ?_); rintro e w1 ⟨rfl, hb1⟩
    have HB := Lib.hid (bt HF.out.bel hb1)
    clear hb1
    go_wp2
    go_ret
    exact ⟨by rw [← HU.out]; rfl, HB.out⟩
  rw [if_neg h5] at hu0
  obtain rfl : K = 6 := by omega
  have hst := stQ_sets f (fun _ => true)
  have hT : T8 w f (w.alloc (tkO 6 F T N S f)) := T8.of (ba (Below.refl _ _) _) (alloc1_new _ _)
  have Hal := Lib.hid (fun W => rall_ W)
  have HP := Lib.hid (fun W => rprints_ f W)
  generalize (fun _ => true : Nat → Bool) = fa at *
  rcases hq : sQ f fa with _ | _
  · rw [hq] at hst hu0
    have HU := Lib.hid (show (⟨(prK f).toArray⟩ : ByteArray) = u by rw [← hu0]; rfl)
    generalize (⟨(prK f).toArray⟩ : ByteArray) = ps at *
    clear hq hu0
    go_enter Tryz.func54, Tryz.ntmps54
    go_wp2
    generalize w.alloc (tkO 6 F T N S f) = W1 at *
    go_region_held3 (fun w' => T8 w f w')
      (with_reducible (first | exact T8.drew hT | exact T8.go (by assumption) hb2 | assumption))
      ((go_at_call 12; refine (Hal.out _).mono ?_; rintro e w2 ⟨rfl, hb2⟩))
    obtain ⟨hB, hl, c5, c6, c7, c8⟩ : T8 w f w2 := by assumption
    have HB := Lib.hid hB
    clear hB hT HF
    go_wp2_with fail
    (with_reducible refine (HP.out _).mono ?_); rintro e w3 ⟨rfl, hb3⟩
    have HB3 := Lib.hid (bt HB.out hb3)
    clear hb3
    go_wp2
    go_ret
    exact ⟨by rw [← HU.out]; rfl, HB3.out⟩
  · rw [hq] at hst hu0
    have HU := Lib.hid (show (⟨#[46]⟩ : ByteArray) = u by rw [← hu0]; rfl)
    clear hq hu0
    go_enter Tryz.func54, Tryz.ntmps54
    go_wp2
    generalize w.alloc (tkO 6 F T N S f) = W1 at *
    go_region_held3 (fun w' => T8 w f w')
      (with_reducible (first | exact T8.drew hT | exact T8.go (by assumption) hb2 | assumption))
      ((go_at_call 12; refine (Hal.out _).mono ?_; rintro e w2 ⟨rfl, hb2⟩))
    obtain ⟨hB, hl, c5, c6, c7, c8⟩ : T8 w f w2 := by assumption
    have HB := Lib.hid hB
    clear hB hT HF
    go_wp2
    go_ret
    exact ⟨by rw [← HU.out]; rfl, HB.out⟩
end Go.Proofs.YtcopnpllaoahaaaGreatDoor
