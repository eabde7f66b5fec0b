/- Rows of bits: which bits are 1; the table of trailing zeros. No condition. Rows of bits: the lowest bit of a word, and the word without it; TrailingZeros64. Sets of bytes: the bytes of a set, one after the other (members). No condition. Sets of bytes: the runs of a set (Runs of the program). No condition. -/
import Derived.Test.YtcopnpllaoahaaaGreatDoorB23
import Derived.Lib.TrailingZeros
import Derived.Test.YtcopnpllaoahaaaGreatDoorG3
import Derived.Test.YtcopnpllaoahaaaGreatDoorRnd
import Derived.Test.YtcopnpllaoahaaaGreatDoorApp
namespace Go.Proofs.YtcopnpllaoahaaaGreatDoor
open Go.RowKit
def onesTo (l : List Nat) (k : Nat) : List Int := ((List.range k).filter (rbit l)).map Int.ofNat
theorem onesTo_yes {l : List Nat} {k : Nat} (h : rbit l k = true) : onesTo l (k + 1) = onesTo l k ++ [(k : Int)] := by
  unfold onesTo
  rw [List.range_succ, List.filter_append, List.map_append]
  simp [h]
theorem onesTo_no {l : List Nat} {k : Nat} (h : rbit l k = false) : onesTo l (k + 1) = onesTo l k := by
  unfold onesTo
  rw [List.range_succ, List.filter_append, List.map_append]
  simp [h]
theorem onesTo_len (l : List Nat) (k : Nat) : (onesTo l k).length = bsum k (rbit l) := by
  induction k with
  | zero => rfl
  | succ k ih =>
    rw [bsum_succ]
    cases h : rbit l k
    · rw [onesTo_no h, ih]; rfl
    · rw [onesTo_yes h, List.length_append, ih]; rfl
theorem onesTo_le (l : List Nat) (k : Nat) : (onesTo l k).length ≤ k := by rw [onesTo_len]; exact bsum_le _ _
/-- the table of trailing zeros is as laid -/
def Tzt (w : World) : Prop := ∀ j, j < 64 → w.cell? ⟨6, j, none⟩ = some (.int .u8 ((Lib.deBruijn64tab.getD j 0 : Nat) : Int))
theorem Tzt.below {w w' : World} (h : Tzt w) (hb : Below w.heap.size w w') : Tzt w' := fun j hj => (hb.cell (p := ⟨6, j, none⟩) (World.block_lt_of_cell? _ _ (h j hj))).trans (h j hj)
end Go.Proofs.YtcopnpllaoahaaaGreatDoor
namespace Go.Proofs.YtcopnpllaoahaaaGreatDoor
open Go.RowKit
theorem low_split {x : Nat} (hx0 : x ≠ 0) (hx : x < 18446744073709551616) : ∃ m, Lib.ctz 64 x < 64 ∧ x = 2 ^ (Lib.ctz 64 x + 1) * m + 2 ^ Lib.ctz 64 x := by
  obtain ⟨m, hm, hk⟩ := Lib.ctzFrom_spec 64 x (by omega) hx
  have e : Lib.ctz 64 x = Lib.ctzFrom 64 x := by simp [Lib.ctz, hx0]
  rw [e]
  refine ⟨m, hk, ?_⟩
  conv => lhs; rw [hm]
  rw [Nat.mul_add, Nat.mul_one, Nat.pow_succ, Nat.mul_assoc]
theorem bit_low {m t : Nat} (j : Nat) : (2 ^ (t + 1) * m + 2 ^ t).testBit j = if j < t + 1 then decide (t = j) else m.testBit (j - (t + 1)) := by
  rw [Nat.testBit_two_pow_mul_add _ (Nat.pow_lt_pow_right (by omega) (by omega)), Nat.testBit_two_pow]
theorem bit_pred {m t : Nat} (j : Nat) : (2 ^ (t + 1) * m + 2 ^ t - 1).testBit j = if j < t + 1 then decide (j < t) else m.testBit (j - (t + 1)) := by
  have hp : 0 < 2 ^ t := Nat.pow_pos (by omega)
  rw [show 2 ^ (t + 1) * m + 2 ^ t - 1 = 2 ^ (t + 1) * m + (2 ^ t - 1) by omega, Nat.testBit_two_pow_mul_add _ (by rw [Nat.pow_succ]; omega), Nat.testBit_two_pow_sub_one]
/-- the word without its lowest bit -/
theorem and_pred {x : Nat} (hx0 : x ≠ 0) (hx : x < 18446744073709551616) (j : Nat) : (x &&& (x - 1)).testBit j = (x.testBit j && decide (j ≠ Lib.ctz 64 x)) := by
  obtain ⟨m, ht, e⟩ := low_split hx0 hx
  generalize Lib.ctz 64 x = t at *
  subst e
  rw [Nat.testBit_and, bit_low, bit_pred]
  by_cases h : j < t + 1
  · rw [if_pos h, if_pos h]
    by_cases e : t = j
    · subst e; simp
    · simp [e]
  · rw [if_neg h, if_neg h]
    have : decide (j ≠ t) = true := by simp; omega
    rw [this]
    simp
theorem low_bit {x : Nat} (hx0 : x ≠ 0) (hx : x < 18446744073709551616) : x.testBit (Lib.ctz 64 x) = true ∧ ∀ j, j < Lib.ctz 64 x → x.testBit j = false := by
  obtain ⟨m, ht, e⟩ := low_split hx0 hx
  generalize Lib.ctz 64 x = t at *
  subst e
  refine ⟨?_, fun j hj => ?_⟩
  · rw [bit_low, if_pos (by omega)]; simp
  · rw [bit_low, if_pos (by omega)]; simp; omega
theorem and_pred_lt {x : Nat} (hx0 : x ≠ 0) : x &&& (x - 1) < x := Nat.lt_of_le_of_lt Nat.and_le_right (by omega)
/-- y is X without the bits below r -/
structure CutAt (y r X : Nat) : Prop where
  lt : y < 18446744073709551616
  bit : ∀ j, y.testBit j = (X.testBit j && decide (r ≤ j))
theorem CutAt.start {X : Nat} (hX : X < 18446744073709551616) : CutAt X 0 X := ⟨hX, fun j => by simp⟩
def onN (l : List Nat) (p : Nat) : List Nat := (List.range p).filter (rbit l)
theorem onN_int (l : List Nat) (p : Nat) : (onN l p).map Int.ofNat = onesTo l p := rfl
theorem onN_skip {l : List Nat} {p q : Nat} (hpq : p ≤ q) (h : ∀ i, p ≤ i → i < q → rbit l i = false) : onN l q = onN l p := by
  obtain ⟨d, rfl⟩ : ∃ d, q = p + d := ⟨q - p, by omega⟩
  clear hpq
  induction d with
  | zero => rfl
  | succ d ih =>
    unfold onN at ih ⊢
    rw [← Nat.add_assoc, List.range_succ, List.filter_append, ih fun i h1 h2 => h i h1 (by omega)]
    simp [h (p + d) (by omega) (by omega)]
theorem onN_yes {l : List Nat} {k : Nat} (h : rbit l k = true) : onN l (k + 1) = onN l k ++ [k] := by
  unfold onN
  rw [List.range_succ, List.filter_append]
  simp [h]
theorem onN_le (l : List Nat) (p : Nat) : (onN l p).length ≤ p := by
  have := onesTo_le l p
  rw [← onN_int, List.length_map] at this
  exact this
theorem rbit_word (l : List Nat) (k j : Nat) (hj : j < 64) : rbit l (64 * k + j) = (l.getD k 0).testBit j := by
  unfold rbit
  rw [show (64 * k + j) / 64 = k by omega, show (64 * k + j) % 64 = j by omega]
/-- one bit comes -/
theorem CutAt.step {l : List Nat} {k r y : Nat} (h : CutAt y r (l.getD k 0)) (hy : y ≠ 0) : Lib.ctz 64 y < 64 ∧ r ≤ Lib.ctz 64 y ∧ onN l (64 * k + (Lib.ctz 64 y + 1)) = onN l (64 * k + r) ++ [64 * k + Lib.ctz 64 y] ∧ CutAt (y &&& (y - 1)) (Lib.ctz 64 y + 1) (l.getD k 0) := by
  obtain ⟨m, ht, _⟩ := low_split hy h.lt
  obtain ⟨b1, b2⟩ := low_bit hy h.lt
  have b1' := h.bit (Lib.ctz 64 y)
  rw [b1] at b1'
  have hb := (Bool.and_eq_true _ _).mp b1'.symm
  have hr : r ≤ Lib.ctz 64 y := by simpa using hb.2
  refine ⟨ht, hr, ?_, Nat.lt_of_le_of_lt Nat.and_le_left h.lt, fun j => ?_⟩
  · rw [← Nat.add_assoc, onN_yes (by rw [rbit_word _ _ _ ht]; exact hb.1)]
    rw [onN_skip (p := 64 * k + r) (by omega)]
    intro i h1 h2
    obtain ⟨j, rfl⟩ : ∃ j, i = 64 * k + j := ⟨i - 64 * k, by omega⟩
    rw [rbit_word _ _ _ (by omega)]
    have := h.bit j
    rw [b2 j (by omega), decide_eq_true (show r ≤ j by omega), Bool.and_true] at this
    exact this.symm
  · rw [and_pred hy h.lt, h.bit j]
    by_cases hj : j < Lib.ctz 64 y + 1
    · have hn : decide (Lib.ctz 64 y + 1 ≤ j) = false := by simp; omega
      rw [hn, Bool.and_false]
      by_cases e : j = Lib.ctz 64 y
      · subst e; simp
      · have h2 := h.bit j
        rw [b2 j (by omega)] at h2
        rw [← h2]; rfl
    · have h1 : decide (Lib.ctz 64 y + 1 ≤ j) = true := by simp; omega
      have h2 : decide (r ≤ j) = true := by simp; omega
      have h3 : decide (j ≠ Lib.ctz 64 y) = true := by simp; omega
      rw [h1, h2, h3, Bool.and_true, Bool.and_true]
/-- no bit is left -/
theorem CutAt.done {l : List Nat} {k r : Nat} (h : CutAt 0 r (l.getD k 0)) (hr : r ≤ 64) : onN l (64 * (k + 1)) = onN l (64 * k + r) := by
  refine onN_skip (by omega) fun i h1 h2 => ?_
  obtain ⟨j, rfl⟩ : ∃ j, i = 64 * k + j := ⟨i - 64 * k, by omega⟩
  rw [rbit_word _ _ _ (by omega)]
  have := h.bit j
  rw [Nat.zero_testBit, decide_eq_true (show r ≤ j by omega), Bool.and_true] at this
  exact this.symm
theorem tz_key (x a : Nat) (hx : x < 18446744073709551616) (hx0 : x ≠ 0) (hlow : x &&& (18446744073709551616 - x) = a) :
    IntKind.u64.wrap (bits BinOp.and IntKind.u64 (x : Int) (IntKind.u64.wrap (-(x : Int))) * 285870213051353865) / 288230376151711744 = ((a * 285870213051353865 % 18446744073709551616 / 288230376151711744 : Nat) : Int) := by
  have hw : ∀ z : Int, IntKind.u64.wrap z = z % 18446744073709551616 := fun z => by simp [IntKind.wrap, IntKind.bits, IntKind.signed]
  have e1 : IntKind.u64.wrap (-(x : Int)) = ((18446744073709551616 - x : Nat) : Int) := by rw [hw]; omega
  rw [e1, u64_and_nat x _ hx (by omega), hlow, hw]
  omega
set_option maxHeartbeats 1000000 in
theorem tz64_core (x k idx : Nat) (w : World) (hx0 : ((x : Int) == 0) = false)
    (key : IntKind.u64.wrap (bits BinOp.and IntKind.u64 (x : Int) (IntKind.u64.wrap (-(x : Int))) * 285870213051353865) / 288230376151711744 = (idx : Int))
    (hi : idx < 64) (hk : k < 64) (hcell : w.cell? ⟨6, idx, none⟩ = some (.int .u8 (k : Int))) :
    Calls Tryz.prog 135 #[.int .u64 x] w fun e w' => e = .returned (.int .i64 (k : Int)) ∧ w = w' := by
  go_enter Tryz.func135, Tryz.ntmps135
  go_wp2_with (simp only [key])
  go_ret
  exact ⟨rfl, rfl⟩
theorem tz64_ (w : World) (x : Nat) (hx0 : x ≠ 0) (hx : x < 18446744073709551616) (hT : Tzt w) :
    Calls Tryz.prog 135 #[.int .u64 x] w fun e w' => e = .returned (.int .i64 (Lib.ctz 64 x : Nat)) ∧ w = w' := by
  obtain ⟨hlow, hk⟩ := Lib.lowest_bit 64 x hx0 hx
  obtain ⟨hi, htab⟩ := Lib.deBruijn64_at _ hk
  have hcell := hT _ hi
  rw [htab] at hcell
  exact tz64_core x _ _ w (by simpa using hx0) (tz_key x _ hx hx0 hlow) hi hk hcell
end Go.Proofs.YtcopnpllaoahaaaGreatDoor
namespace Go.Proofs.YtcopnpllaoahaaaGreatDoor
open Go.RowKit Go.Shelf
attribute [local go_sem] Oper.semAt_some
abbrev byEnc (x : Fin 256) : Array Value := #[.int .u8 ((x.val : Nat) : Int)]
/-- the words of a set as a row -/
def l4K (f : Nat → Bool) : List Nat := [wK f 0, wK f 1, wK f 2, wK f 3]
theorem l4K_get (f : Nat → Bool) {k : Nat} (hk : k < 4) : (l4K f).getD k 0 = wK f k := by
  rcases (show k = 0 ∨ k = 1 ∨ k = 2 ∨ k = 3 by omega) with rfl | rfl | rfl | rfl <;> rfl
theorem l4K_bit (f : Nat → Bool) {i : Nat} (hi : i < 256) : rbit (l4K f) i = f i := by
  unfold rbit
  rw [l4K_get f (by omega), wK_bit f _ _ (by omega), show 64 * (i / 64) + i % 64 = i by omega]
theorem onN_mb (f : Nat → Bool) : onN (l4K f) 256 = mbK f := by
  unfold onN mbK
  refine List.filter_congr fun i hi => ?_
  exact l4K_bit f (by simpa using hi)
theorem stIx (f : Nat → Bool) {k : Nat} (hk : k < 4) (w : World) : (Instr.index 36 (stV f) (.int .i64 (k : Int))).run Tryz.prog w = .ok (.int .u64 ((wK f k : Nat) : Int)) w := by
  rcases (show k = 0 ∨ k = 1 ∨ k = 2 ∨ k = 3 by omega) with rfl | rfl | rfl | rfl
  · exact stAt0 _ _ _ _ w
  · exact stAt1 _ _ _ _ w
  · exact stAt2 _ _ _ _ w
  · exact stAt3 _ _ _ _ w
theorem and_predU (y : Nat) (hy0 : y ≠ 0) (hy : y < 18446744073709551616) : bits .and .u64 (y : Int) ((y : Int) - 1) = ((y &&& (y - 1) : Nat) : Int) := by
  have := u64_and_nat y (y - 1) hy (by omega)
  rw [show (((y - 1 : Nat)) : Int) = (y : Int) - 1 by omega] at this
  exact this
set_option maxRecDepth 100000 in
set_option maxHeartbeats 4000000 in
theorem members1_in (n : Nat) (hn : 1 ≤ n) (L Bs n₀ : Nat) (f : Nat → Bool) (J Jx : List (Fin 256) → World → Prop)
    (hY : ∀ pre x W, J pre W → pre.length < 256 → YieldAt Fence.wide (n - 1) Tryz.prog L (byEnc x) W fun e W' =>
      (e = .returned (.bool true) ∧ J (pre ++ [x]) W' ∧ Below n₀ W W') ∨ (e = .returned (.bool false) ∧ Jx (pre ++ [x]) W'))
    (W : World) (hBs : W.heap[Bs]? = some (stO f)) (hT : ∀ W', Below n₀ W W' → Tzt W') (h0 : J [] W) :
    CallsIn Fence.wide n Tryz.prog 134 #[.func (.yield L) #[] #[], .pointer (some ⟨Bs, 0, none⟩)] W fun e W' => (∃ v, e = .returned v) ∧
      ((∃ ys, ys.map (·.val) = mbK f ∧ J ys W') ∨ (∃ pre, True ∧ Jx pre W')) := by
  refine callsIn_of_wp Tryz.func134 rfl trivial ?_ rfl
  simp only [Tryz.ntmps134, List.size_toArray, List.length_cons, List.length_nil, Nat.reduceAdd, Nat.reduceSub, Array.replicate_succ, Array.replicate_zero, List.push_toArray, List.append_toArray, List.nil_append, List.cons_append]
  obtain ⟨⟨c0, c1, c2, c3⟩, _⟩ := bx4 hBs
  have HT := Lib.hid hT
  clear hT hBs
  gi_wp2
  clear c0 c1 c2 c3
  gi_loopw [6] (fun i wr => ∃ k : Nat, k ≤ 4 ∧ i = .int .i64 k ∧ (∃ pre, Hid (pre.map (·.val) = onN (l4K f) (64 * k)) ∧ J pre wr) ∧ Below n₀ W wr)
    (fun i _ => 4 - (intOf i).toNat)
  case atStart => exact ⟨0, Nat.zero_le _, rfl, ⟨[], Lib.hid rfl, h0⟩, Below.refl _ _⟩
  case round =>
    obtain ⟨k, hk, rfl, ⟨pre, hpre, hJs⟩, hnx⟩ := hrel
    clear h0
    by_cases hlt : k < 4
    · have hix := stIx f hlt
      have i1 : decide ((k : Int) < 4) = true := by simp; omega
      have i2 : (k : Int) < 4 := by omega
      have hX := wK_lt f k
      have hcut := CutAt.start hX
      have hp0 : Hid (pre.map (·.val) = onN (l4K f) (64 * k + 0)) := hpre
      have hJ0 := hJs
      have HX := Lib.hid (l4K_get f hlt)
      generalize wK f k = X at *
      have HN := Lib.hid hnx
      obtain ⟨wo, rfl⟩ : ∃ wo : World, wo = wr := ⟨_, rfl⟩
      clear hJs hnx hpre
      gi_wp2
      gi_loopw [4] (fun x wi => ∃ (y r : Nat), x = .int .u64 y ∧ CutAt y r X ∧ r ≤ 64 ∧ (∃ pre, Hid (pre.map (·.val) = onN (l4K f) (64 * k + r)) ∧ J pre wi) ∧ Hid (Below n₀ W wi))
        (fun x _ => (intOf x).toNat)
      case atStart => exact ⟨X, 0, rfl, hcut, by omega, ⟨_, hp0, hJ0⟩, HN⟩
      case round =>
        obtain ⟨y, r, rfl, hc, hr, ⟨pre, hpre, hJs⟩, HB⟩ := hrel
        clear hcut hJ0 hp0 hix
        by_cases hy : y = 0
        · subst hy
          rw [← HX.out] at hc
          have HD := Lib.hid (CutAt.done hc hr)
          clear hc
          gi_wp2
          go_roundw
          case rel => exact ⟨k + 1, by omega, by go_num, ⟨_, Lib.hid (hpre.out.trans HD.out.symm), hJs⟩, HB.out⟩
          case measure => simp [intOf]; omega
        · have hc2 := hc
          rw [← HX.out] at hc2
          obtain ⟨ht, hrt, hext, hcut2⟩ := hc2.step hy
          rw [HX.out] at hcut2
          have hlt2 := hc.lt
          obtain ⟨t, htt⟩ : ∃ t, t = Lib.ctz 64 y := ⟨_, rfl⟩
          have hTz := tz64_ wr y hy hc.lt (HT.out _ HB.out)
          rw [← htt] at ht hrt hext hcut2 hTz
          obtain ⟨x, hx⟩ : ∃ x : Fin 256, x.val = 64 * k + t := ⟨⟨64 * k + t, by omega⟩, rfl⟩
          obtain ⟨fn, tmps, assign, body, hyy, hRr⟩ := hY _ x wr hJs (by have h1 := onN_le (l4K f) (64 * k + r); have h2 := congrArg List.length hpre.out; rw [List.length_map] at h2; omega)
          dsimp only [byEnc] at hyy
          rw [hx, show ((64 * k + t : Nat) : Int) = 64 * (k : Int) + t by omega] at hyy
          have e1 : ((y : Int) != 0) = true := by simpa using hy
          have e2 : IntKind.u8.wrap (64 * (k : Int) + t) = 64 * (k : Int) + t := by simp [IntKind.wrap, IntKind.bits, IntKind.signed]; omega
          have HP := Lib.hid (and_predU y hy hlt2)
          have hy1 : 1 ≤ y := by omega
          have HE := Lib.hid (show (pre ++ [x]).map (·.val) = onN (l4K f) (64 * k + (t + 1)) by rw [hext, List.map_append, hpre.out, List.map_cons, List.map_nil, hx])
          have HLt := Lib.hid (and_pred_lt hy)
          have HTz := Lib.hid hTz
          clear hext hc2 hc htt hTz hy hx
          gi_wp2_with (refine ⟨trivial, ?_⟩; gi_at_call 135; refine (callsIn_wide.2 HTz.out).mono ?_; rintro e w' ⟨rfl, rfl⟩)
          refine hRr.mono ?_
          rintro e W3 (⟨rfl, hJ3, hk3⟩ | ⟨rfl, hJx3⟩)
          · gi_wp2
            go_roundw
            case rel => exact ⟨y &&& (y - 1), t + 1, by rw [HP.out], hcut2, by omega, ⟨_, HE, hJ3⟩, Lib.hid (HB.out.trans hk3)⟩
            case measure => have := HLt.out; simp [intOf, HP.out]; omega
          · gi_wp2
            refine bodyPost_ret (results_none rfl _ _ _) rfl ?_
            exact ⟨⟨_, rfl⟩, .inr ⟨_, trivial, hJx3⟩⟩
    · obtain rfl : k = 4 := by omega
      gi_wp2
      go_end0
      exact ⟨⟨_, rfl⟩, .inl ⟨_, hpre.out.trans (onN_mb f), hJs⟩⟩
theorem Tzt.lt {w : World} (h : Tzt w) : 6 < w.heap.size := World.block_lt_of_cell? _ ⟨6, 0, none⟩ (h 0 (by decide))
theorem Tzt.keep {n₀ : Nat} {w w' : World} (h : Tzt w) (hb : Below n₀ w w') (hg : 6 < n₀) : Tzt w' := fun j hj => (hb.cell (p := ⟨6, j, none⟩) hg).trans (h j hj)
theorem members_stops (n : Nat) (hn : 1 ≤ n) (Bs n₀ : Nat) (f : Nat → Bool) (w : World) (hBs : w.heap[Bs]? = some (stO f)) (hT : Tzt w) (hg : 6 < n₀) :
    SeqStopsK Fence.wide n Tryz.prog 134 #[.pointer (some ⟨Bs, 0, none⟩)] byEnc (Below n₀) (fun ys => ys.map (·.val) = mbK f) (fun _ => True) 256 w := fun L J Jx W hW _ _ hY h0 =>
  members1_in n hn L Bs n₀ f J Jx hY W ((hW.block Bs (heap_lt hBs)).trans hBs) (fun _ hb' => (hT.below hW).keep hb' hg) h0
set_option maxHeartbeats 1000000 in
theorem members_in (n : Nat) (f : Nat → Bool) (w : World) :
    CallsIn Fence.wide n Tryz.prog 124 #[stV f] w fun e w' => e = .returned (.func (.func 134) #[] #[.pointer (some ⟨w.heap.size, 0, none⟩)]) ∧ w' = w.alloc (stO f) := by
  refine callsIn_of_wp Tryz.func124 rfl trivial ?_ rfl
  simp only [Tryz.ntmps124, List.size_toArray, List.length_cons, List.length_nil, Nat.reduceAdd, Nat.reduceSub, Array.replicate_succ, Array.replicate_zero, List.push_toArray, List.append_toArray, List.nil_append, List.cons_append]
  gi_wp2
  go_ret
  exact ⟨rfl, rfl⟩
end Go.Proofs.YtcopnpllaoahaaaGreatDoor
namespace Go.Proofs.YtcopnpllaoahaaaGreatDoor
open Go.RowKit Go.Shelf
attribute [local go_sem] Oper.semAt_some
/-- the cells of runs -/
abbrev rr0 (q : Nat × Nat) : Value := .int .u8 ((q.1 : Nat) : Int)
abbrev rr1 (q : Nat × Nat) : Value := .int .u8 ((q.2 : Nat) : Int)
abbrev rrs (l : List (Nat × Nat)) : List Value := flat2 rr0 rr1 l
theorem rrs_snoc (l : List (Nat × Nat)) (a b : Nat) : rrs (l ++ [(a, b)]) = rrs l ++ [.int .u8 (a : Int), .int .u8 (b : Int)] := by
  rw [rrs, flat2_append]; rfl
theorem rnEl : Elem Tryz.prog 140 142 (.agg #[.int .u8 0, .int .u8 0]) 2 2 := ⟨Tryz.underlying140, by kernel_rfl, rfl, by decide⟩
theorem stK_len (out : List (Nat × Nat)) (b : Nat) : (stK out b).length ≤ out.length + 1 := by
  unfold stK
  rcases out.getLast? with _ | q
  · simp
  · simp only
    split
    · simp <;> omega
    · simp
theorem rnK_snoc (l : List Nat) (b : Nat) : rnK (l ++ [b]) = stK (rnK l) b := by unfold rnK; rw [List.foldl_append]; rfl
theorem rnK_len (l : List Nat) : (rnK l).length ≤ l.length := by
  have key : ∀ (l : List Nat) (out : List (Nat × Nat)), (l.foldl stK out).length ≤ out.length + l.length := by
    intro l
    induction l with
    | nil => intro out; simp
    | cons b t ih => intro out; have h1 := ih (stK out b); have h2 := stK_len out b; simp only [List.foldl_cons, List.length_cons]; omega
  have := key l []
  simpa [rnK] using this
theorem stK_add {out : List (Nat × Nat)} {b : Nat} (h : ∀ q, out.getLast? = some q → q.2 + 1 ≠ b) : stK out b = out ++ [(b, b)] := by
  unfold stK
  rcases hl : out.getLast? with _ | q
  · rw [List.getLast?_eq_none_iff.1 hl]; rfl
  · simp only; rw [if_neg (h q hl)]
theorem stK_go {ini : List (Nat × Nat)} {x y b : Nat} (h : y + 1 = b) : stK (ini ++ [(x, y)]) b = ini ++ [(x, b)] := by
  unfold stK
  simp only [List.getLast?_concat, List.dropLast_concat]
  rw [if_pos h]
theorem two_new (w : World) (a b : Value) (t : TypeId) : ∀ j u, [a, b][j]? = some u → (w.alloc (.cells #[a, b] t)).cell? ((⟨w.heap.size, 0, none⟩ : Addr).add j) = some u := by
  intro j u hu
  rw [add_lit, Nat.zero_add]
  rw [Lib.cell_of_heap (alloc1_new w (.cells #[a, b] t)) j]
  simpa using hu
/-- what a round keeps, and the row of runs -/
def RnI (w : World) (B : Nat) (pre : List (Fin 256)) (W : World) : Prop := (∃ v, Boxed W B 140 v ∧ W.ownsRow w.heap.size 142 2 v (rnK (pre.map (·.val))).length (rrs (rnK (pre.map (·.val)))) ∧ True) ∧ Below w.heap.size w W
theorem rnI_own (w : World) (B K : Nat) (hK : w.heap.size ≤ K) : OwnFrom K (RnI w B) :=
  OwnFrom.and (Own.from (holdsRow_own w.heap.size B 140 142 2 (fun pre : List (Fin 256) => (rnK (pre.map (·.val))).length) (fun pre => rrs (rnK (pre.map (·.val)))) (fun _ _ => True)) _) (ownFrom_below (Nat.le_refl _) hK)
set_option maxRecDepth 100000 in
set_option maxHeartbeats 4000000 in
theorem runs_in_ (f : Nat → Bool) (w : World) (hT : Tzt w) :
    CallsIn Fence.wide 5 Tryz.prog 110 #[stV f] w fun e W' =>
      ∃ v, e = .returned v ∧ W'.ownsRow w.heap.size 142 2 v (rnK (mbK f)).length (rrs (rnK (mbK f))) ∧ Below w.heap.size w W' := by
  obtain ⟨i0, hi, hz0, hz1, hz2⟩ := info_parts rnEl.hi
  have HT := Lib.hid hT
  clear hT
  refine callsIn_of_wp_marks Tryz.func110 rfl trivial ?_ rfl
  simp only [Tryz.ntmps110, List.size_toArray, List.length_cons, List.length_nil, Nat.reduceAdd, Nat.reduceSub, Array.replicate_succ, Array.replicate_zero, List.push_toArray, List.append_toArray, List.nil_append, List.cons_append]
  have HM := Lib.hid (fun n W => members_in n f W)
  gi_wp2_with (refine ⟨trivial, ?_⟩; gi_at_call 124; refine (HM.out _ _).mono ?_; rintro e w1 ⟨rfl, hw1⟩; have HW1 := Lib.hid hw1; clear hw1)
  have hF0 : Fr w [(w.heap.size + 2, stO f)] w1 := by
    rw [HW1.out]
    exact ((((Fr.start w).newN (g := w.heap.size) rfl (stO f)).newN (g := w.heap.size + 1) (by simp) (.cells #[.slice none 0 0] 140 (0, 0))).newN (g := w.heap.size + 2) (by simp) (stO f)).sub (by simp)
  have bO : Boxed w1 (w.heap.size + 1) 140 (.slice none 0 0) := by
    rw [HW1.out]
    have := (Boxed.new (w.alloc (stO f)) 140 (.slice none 0 0)).alloc (stO f)
    simpa using this
  have hs1 : w1.heap.size = w.heap.size + 3 := by rw [HW1.out]; simp
  clear HW1
  have HF0 := Lib.hid hF0
  clear hF0
  refine wpIn_rangeFunc_ownG rfl (by omega) (gf := 134) (lb := #[.pointer (some ⟨w.heap.size + 2, 0, none⟩)]) rfl trivial (enters_of Tryz.func134 (by kernel_rfl) rfl)
    (members_stops _ (by omega) (w.heap.size + 2) w.heap.size f w1 (HF0.out.at (by simp)) (HT.out.below HF0.out.bel) HT.out.lt) belowK_t (belowK_b (by omega)) (Below.refl _ _) (fun _ => rfl)
    (RnI w (w.heap.size + 1)) (fun _ _ _ => False) (rnI_own w _ _ (by omega))
    (fun _ _ _ _ _ hs _ _ => hs)
    ⟨⟨_, bO, World.ownsRow_nil _ _ _ _, trivial⟩, HF0.out.bel⟩
    (fun x => { tmps := #[stV f, .pointer (some ⟨w.heap.size, 0, none⟩), .slice none 0 0, .pointer (some ⟨w.heap.size + 1, 0, none⟩), .int .u8 ((x.val : Nat) : Int), undef, stV f, .func (.func 134) #[] #[.pointer (some ⟨w.heap.size + 2, 0, none⟩)], .int .u8 ((x.val : Nat) : Int), undef, undef, undef, undef, undef, undef, undef, undef, undef, undef, undef, undef, undef, undef, undef, undef, undef, undef, undef, undef, undef, undef, undef, undef, undef, undef, undef, undef, undef], defers := [] }) ?assign ?body ?done ?stop
  case assign =>
    intro l x W K hK
    gi_wp2
    exact hK
  case body =>
    rintro L pre x W ⟨⟨v, hv, hrow, _⟩, hB⟩ hlt
    have hc := hv.cell
    have hfz := hv.frozen
    have hx := x.isLt
    have hpl : (rnK (pre.map (·.val))).length ≤ pre.length := by have := rnK_len (pre.map (·.val)); rwa [List.length_map] at this
    have hI2 : ∀ W', (∃ v, Boxed W' (w.heap.size + 1) 140 v ∧ W'.ownsRow w.heap.size 142 2 v (stK (rnK (pre.map (·.val))) x.val).length (rrs (stK (rnK (pre.map (·.val))) x.val)) ∧ True) → Below w.heap.size w W' → RnI w (w.heap.size + 1) (pre ++ [x]) W' := fun W' h1 h2 => by
      unfold RnI
      rw [List.map_append, List.map_cons, List.map_nil, rnK_snoc]
      exact ⟨h1, h2⟩
    have HI2 := Lib.hid hI2
    have HO := Lib.hid (show OkK (rnK (pre.map (·.val))) from (rnK_ok _ [] (fun _ h => by cases h) (fun c hc' => by obtain ⟨q, _, rfl⟩ := List.mem_map.1 hc'; exact q.isLt)).1)
    clear hI2
    generalize rnK (pre.map (·.val)) = out at *
    generalize x.val = b at *
    rcases hl : out.getLast? with _ | ⟨y, z⟩
    · obtain rfl := List.getLast?_eq_none_iff.1 hl
      have HS := Lib.hid (show stK [] b = [(b, b)] from rfl)
      obtain ⟨A, c, rfl, _⟩ := own_sl hrow
      gi_wp2_with (gi_at_builtin; refine wpListIn_append_own _ rfl _ _ 140 rfl w.heap.size 142 i0 (.agg #[.int .u8 0, .int .u8 0]) 2 2 Tryz.underlying140 hi hz0 hz1 hz2 rfl (by decide) _ _ _ rfl (hrow.alloc _) ⟨W.heap.size, 0, none⟩ 1 1 [.int .u8 (b : Int), .int .u8 (b : Int)] rfl rfl (two_new _ _ _ _) (by simp [Value.oneCell']) (by unfold maxLen; omega) (by omega) (by have := hB.size; simp; omega) ?_; intro v' w1 hown' hgrow _; obtain ⟨g', cap', rfl⟩ := ownsRow_succ hown'; obtain ⟨hv1, hv2, hr2, hk2, hb2⟩ := hv.appended (by decide) hrow hB.size (by omega) hown' hgrow; have hc1 := hv1.cell; have hf1 := hv1.frozen)
      exact ⟨hk2.from _, hb2, HI2.out _ ⟨_, hv2, by rw [HS.out]; exact hr2, trivial⟩ (hB.trans hb2)⟩
    · obtain ⟨ini, rfl⟩ := List.getLast?_eq_some_iff.1 hl
      obtain ⟨g, cap, hvv, hgb, hgl⟩ := hrow.form (by simp)
      have hz8 : z < 256 := (HO.out (y, z) (by simp)).2
      subst hvv
      have hcz : W.cell? ⟨g, ini.length * 2 + 1, none⟩ = some (.int .u8 (z : Int)) := by
        rw [hrow.cellAt (ini.length * 2 + 1) (by simp; omega)]
        have := (flat2_at (f := rr0) (g := rr1) (ini ++ [(y, z)]) ini.length (by simp)).2
        rw [this]; simp
      have hlen : (ini ++ [(y, z)]).length = ini.length + 1 := by simp
      have hfg := hrow.frozenAt (ini.length * 2 + 1)
      have hne := Lib.hid (hv.not_row (by decide) hrow)
      have HR := Lib.hid hrow
      have HL := Lib.hid hlen
      have hl5 : ini.length < 255 := by omega
      clear hrow hl hlen
      rw [HL.out] at HR hpl hv hc
      by_cases hz : z + 1 = b
      · have HS := Lib.hid (show stK (ini ++ [(y, z)]) b = ini ++ [(y, b)] from stK_go hz)
        have e1 : ((z : Int) + 1 == (b : Int)) = true := by simp; omega
        obtain ⟨hst, hgw⟩ := HR.out.stored (ini.length * 2 + 1) (.int .u8 (b : Int))
        have Hst := Lib.hid hst
        have Hgw := Lib.hid hgw
        clear hst hgw hz
        gi_wp2
        refine ⟨(KeepsOthers.setCell _ _ _).from _, (Below.refl _ _).setCell hgb _, HI2.out _ ⟨_, hv.kept Hgw.out hne.out, ?_, trivial⟩ (hB.setCell hgb _)⟩
        rw [HS.out]
        have e : rrs (ini ++ [(y, b)]) = (rrs (ini ++ [(y, z)])).set (ini.length * 2 + 1) (.int .u8 (b : Int)) := by
          rw [rrs_snoc, rrs_snoc, List.set_append_right _ _ (by rw [flat2_length]; omega), flat2_length, show ini.length * 2 + 1 - ini.length * 2 = 1 by omega]; rfl
        have el : (ini ++ [(y, b)]).length = ini.length + 1 := by simp
        rw [e, el]
        exact Hst.out
      · have HS := Lib.hid (show stK (ini ++ [(y, z)]) b = ini ++ [(y, z)] ++ [(b, b)] from stK_add (by simpa using hz))
        have e1 : ((z : Int) + 1 == (b : Int)) = false := by rw [beq_eq_false_iff_ne]; omega
        clear hz
        gi_wp2_with (gi_at_builtin; refine wpListIn_append_own _ rfl _ _ 140 rfl w.heap.size 142 i0 (.agg #[.int .u8 0, .int .u8 0]) 2 2 Tryz.underlying140 hi hz0 hz1 hz2 rfl (by decide) _ _ _ rfl (HR.out.alloc _) ⟨W.heap.size, 0, none⟩ 1 1 [.int .u8 (b : Int), .int .u8 (b : Int)] rfl rfl (two_new _ _ _ _) (by simp [Value.oneCell']) (by unfold maxLen; omega) (by omega) (by have := hB.size; simp; omega) ?_; intro v' w1 hown' hgrow _; obtain ⟨g', cap', rfl⟩ := ownsRow_succ hown'; obtain ⟨hv1, hv2, hr2, hk2, hb2⟩ := hv.appended (by decide) HR.out hB.size (by omega) hown' hgrow; have hc1 := hv1.cell; have hf1 := hv1.frozen)
        refine ⟨hk2.from _, hb2, HI2.out _ ⟨_, hv2, ?_, trivial⟩ (hB.trans hb2)⟩
        rw [HS.out, rrs_snoc, List.length_append, HL.out]
        exact hr2
  case done =>
    rintro D ys W hD hys ⟨⟨v, hv, hrow, _⟩, hB⟩ hK
    have hc := hv.cell
    rw [hys] at hrow
    have HR := Lib.hid hrow
    clear hrow
    gi_wp2
    refine ⟨by simp, .inl ⟨_, _, rfl, run_takeDeferred hK, ?_⟩⟩
    exact ⟨_, results_tmp rfl _ _ _, v, rfl, ownsRow_putObj HR.out _ hK rfl, hB.trans (belowK_b (w := w) (Nat.le_refl _) W D _ _ (by omega) hK rfl rfl)⟩
  case stop =>
    rintro D c pre W _ _ h _
    exact h.elim
end Go.Proofs.YtcopnpllaoahaaaGreatDoor
