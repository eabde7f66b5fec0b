/- Rows of bits: the bits that are 1, one after the other (ones). -/
import Derived.Test.YtaogplmcabbikaaGreatDoorB27
namespace Go.Proofs.YtaogplmcabbikaaGreatDoor
open Go.RowKit Go.Shelf
attribute [local go_sem] Oper.semAt_some
abbrev natEnc (x : Nat) : Array Value := #[.int .i64 (x : Int)]
theorem u64_and_pred (y : Nat) (hy0 : y ≠ 0) (hy : y < 18446744073709551616) : bits .and .u64 (y : Int) ((y : Int) - 1) = ((y &&& (y - 1) : Nat) : Int) := by
  have := u64_and_nat y (y - 1) hy (by omega)
  rw [show (((y - 1 : Nat)) : Int) = (y : Int) - 1 by omega] at this
  exact this
set_option maxRecDepth 100000 in
set_option maxHeartbeats 4000000 in
theorem ones1_in (n : Nat) (hn : 1 ≤ n) (L Bs n₀ cap : Nat) (A : Option Addr) (l : List Nat) (hw : W64 l) (hl : l.length ≤ 100) (J Jx : List Nat → World → Prop)
    (hY : ∀ pre x W, J pre W → pre.length < 64 * l.length → YieldAt Fence.wide (n - 1) Tryz.prog L (natEnc x) W fun e W' =>
      (e = .returned (.bool true) ∧ J (pre ++ [x]) W' ∧ Below n₀ W W') ∨ (e = .returned (.bool false) ∧ Jx (pre ++ [x]) W'))
    (W : World) (hBs : W.cell? ⟨Bs, 0, none⟩ = some (.slice A l.length cap)) (hR : Reads W n₀ 1 A l.length (u64s l)) (hT : ∀ W', Below n₀ W W' → Tzt W') (h0 : J [] W) :
    CallsIn Fence.wide n Tryz.prog 41 #[.func (.yield L) #[] #[], .pointer (some ⟨Bs, 0, none⟩)] W fun e W' => (∃ v, e = .returned v) ∧
      ((∃ ys, ys = onN l (64 * l.length) ∧ J ys W') ∨ (∃ pre, (∃ k, k ≤ 64 * l.length ∧ pre = onN l k) ∧ Jx pre W')) := by
  refine callsIn_of_wp Tryz.func41 rfl trivial ?_ rfl
  simp only [Tryz.ntmps41, List.size_toArray, List.length_cons, List.length_nil, Nat.reduceAdd, Nat.reduceSub, Array.replicate_succ, Array.replicate_zero, List.push_toArray, List.append_toArray, List.nil_append, List.cons_append]
  have HR := Lib.hid hR
  have HT := Lib.hid hT
  have Hw := Lib.hid hw
  clear hR hT hw
  gi_wp2
  gi_loopw [7] (fun i wr => ∃ k : Nat, k ≤ l.length ∧ i = .int .i64 k ∧ J (onN l (64 * k)) wr ∧ Below n₀ W wr)
    (fun i _ => l.length - (intOf i).toNat)
  case atStart => exact ⟨0, Nat.zero_le _, rfl, h0, Below.refl _ _⟩
  case round =>
    obtain ⟨k, hk, rfl, hJs, hnx⟩ := hrel
    clear h0
    by_cases hlt : k < l.length
    · obtain ⟨b, off, rfl, hb, d0⟩ := u64At HR.out hlt
      have d1 := (hnx.cell (p := ⟨b, off + k, none⟩) hb).trans d0
      have hX := wget Hw.out k
      have hcut := CutAt.start hX
      have hJ0 : J (onN l (64 * k + 0)) wr := hJs
      obtain ⟨X, hXX⟩ : ∃ X, X = l.getD k 0 := ⟨_, rfl⟩
      rw [← hXX] at d1 hcut hX
      have HX := Lib.hid hXX
      have HN := Lib.hid hnx
      obtain ⟨wo, rfl⟩ : ∃ wo : World, wo = wr := ⟨_, rfl⟩
      clear hJs d0 hXX hnx
      gi_wp2
      gi_loopw [4] (fun x wi => ∃ (y r : Nat), x = .int .u64 y ∧ CutAt y r X ∧ r ≤ 64 ∧ J (onN l (64 * k + r)) wi ∧ Hid (Below n₀ W wi))
        (fun x _ => (intOf x).toNat)
      case atStart => exact ⟨X, 0, rfl, hcut, by omega, hJ0, HN⟩
      case round =>
        obtain ⟨y, r, rfl, hc, hr, hJs, HB⟩ := hrel
        clear hcut hJ0 d1
        by_cases hy : y = 0
        · subst hy
          rw [HX.out] at hc
          have HD := Lib.hid (CutAt.done hc hr)
          clear hc
          gi_wp2
          go_roundw
          case rel => exact ⟨k + 1, by omega, by go_num, by rw [HD.out]; exact hJs, HB.out⟩
          case measure => simp [intOf]; omega
        · have hc2 := hc
          rw [HX.out] at hc2
          obtain ⟨ht, hrt, hext, hcut2⟩ := hc2.step hy
          rw [← HX.out] at hcut2
          have hlt2 := hc.lt
          obtain ⟨t, htt⟩ : ∃ t, t = Lib.ctz 64 y := ⟨_, rfl⟩
          have hTz := tz64_ wr y hy hc.lt (HT.out _ HB.out)
          rw [← htt] at ht hrt hext hcut2 hTz
          obtain ⟨fn, tmps, assign, body, hyy, hRr⟩ := hY _ (64 * k + t) wr hJs (by have := onN_le l (64 * k + r); omega)
          dsimp only [natEnc] at hyy
          rw [show ((64 * k + t : Nat) : Int) = 64 * (k : Int) + t by omega] at hyy
          have e1 : ((y : Int) != 0) = true := by simpa using hy
          have HP := Lib.hid (u64_and_pred y hy hlt2)
          have hy1 : 1 ≤ y := by omega
          have HE := Lib.hid hext
          have HLt := Lib.hid (and_pred_lt hy)
          have HTz := Lib.hid hTz
          clear hext hc2 hc htt hTz hy
          gi_wp2_with (refine ⟨trivial, ?_⟩; gi_at_call 42; refine (callsIn_wide.2 HTz.out).mono ?_; rintro e w' ⟨rfl, rfl⟩)
          refine hRr.mono ?_
          rintro e W3 (⟨rfl, hJ3, hk3⟩ | ⟨rfl, hJx3⟩)
          · rw [← HE.out] at hJ3
            gi_wp2
            go_roundw
            case rel => exact ⟨y &&& (y - 1), t + 1, by rw [HP.out], hcut2, by omega, hJ3, Lib.hid (HB.out.trans hk3)⟩
            case measure => have := HLt.out; simp [intOf, HP.out]; omega
          · rw [← HE.out] at hJx3
            gi_wp2
            refine bodyPost_ret (results_none rfl _ _ _) rfl ?_
            exact ⟨⟨_, rfl⟩, .inr ⟨_, ⟨64 * k + (t + 1), by omega, rfl⟩, hJx3⟩⟩
    · obtain rfl : k = l.length := by omega
      gi_wp2
      go_end0
      exact ⟨⟨_, rfl⟩, .inl ⟨_, rfl, hJs⟩⟩
end Go.Proofs.YtaogplmcabbikaaGreatDoor
