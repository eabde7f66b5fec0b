/- Traces: Count and Cut of the program and of its reference. -/
import Derived.Test.YtpgojecldmcopaaGreatDoorT1
namespace Go.Proofs.YtpgojecldmcopaaGreatDoor
open Go.RowKit
theorem evEl : Elem Tryz.prog 22 39 (.agg #[.int .i32 0, .int .i32 0]) 2 8 := ⟨Tryz.underlying22, by kernel_rfl, rfl, by decide⟩
theorem own_empty (w : World) (t : TypeId) (size : Nat) : (w.alloc (.cells #[] t)).ownsRow w.heap.size t size (.slice (some ⟨w.heap.size, 0, none⟩) 0 0) 0 [] :=
  ⟨by simp, .inr ⟨w.heap.size, 0, #[], rfl, Nat.le_refl _, alloc1_new _ _, Nat.le_refl _, by unfold maxLen; omega, by simp, by simp⟩⟩
/-- x[i:j] -/
theorem sl_mid {P : Program} {t e : TypeId} {z : Value} {size bytes : Nat} (E : Elem P t e z size bytes) (he : P.elem t = e) {w : World} {B : Nat} {A : Option Addr} {len cap : Nat} {xs : List Value} (h : Reads w B size A len xs) (p q : Int) (i j : Nat) (hp : p = i) (hq : q = j) (hij : i ≤ j) (hj : j ≤ len) (hc : len ≤ cap) :
    ∃ A', (∀ W : World, (Instr.sliceAt t (.slice A len cap) (some (.int .i64 p)) (some (.int .i64 q)) none).run P W = .ok (.slice A' (j - i) (cap - i)) W) ∧ Reads w B size A' (j - i) ((xs.drop (i * size)).take ((j - i) * size)) := by
  subst hp hq
  refine ⟨_, fun W => ?_, (h.cut (k := i) (by omega) hc).firsts (k := j - i) (by omega)⟩
  have ht : P.underlying t = some (.slice (P.elem t)) := by rw [he]; exact E.ht
  obtain ⟨n, hi, _, hs, _⟩ := info_parts E.hi
  rw [run_sliceAt_slice W t _ _ _ _ ht, run_slice_lh W t A len cap ht .i64 .i64 (i : Int) (j : Int) (by omega) (by omega) (by omega), he]
  simp [sizeOf, typeInfo, hi, sliced, Result.andThen, hs]
theorem far_ (w : World) (A : Option Addr) (c n : Nat) (v : Bool) (hv : Hid (v = decide (400 < n ∧ n ≤ 5000 ∨ 5100 < n))) :
    Calls Tryz.prog 6 #[.slice A n c] w fun e w' => e = .returned (.bool v) ∧ w' = w := by
  go_enter Tryz.func6, Tryz.ntmps6
  go_wp2
  all_goals
    go_ret
    go_light
    exact ⟨ret_bool (by rw [hv.out, Bool.eq_iff_iff]; simp; try omega), rfl⟩
set_option maxRecDepth 100000 in
set_option maxHeartbeats 1000000 in
theorem count_ (w : World) (A : Option Addr) (c : Nat) (l : List Ev) (h : Reads w w.heap.size 2 A l.length (evs l)) (ho : Ok32 l) (hl : l.length ≤ 140737488355328) (kind : Int) :
    Calls Tryz.prog 17 #[.slice A l.length c, .int .i64 kind] w fun e w' => e = .returned (.tuple #[.int .i64 (cntT l kind).1, .int .i64 (cntT l kind).2]) ∧ Below w.heap.size w w' := by
  by_cases hk : badK kind
  · have HS := Lib.hid (show cntT l kind = (0, 2) from if_pos hk)
    obtain ⟨k1, k2⟩ := hk
    have e1 : (kind != 1) = true := by simp [k1]
    have e2 : (kind != 2) = true := by simp [k2]
    clear k1 k2 h
    go_enter Tryz.func17, Tryz.ntmps17
    go_wp2
    go_ret2
    exact ⟨by rw [HS.out]; rfl, Below.refl _ _⟩
  · have HS := Lib.hid (show cntT l kind = (((cntN kind l : Nat) : Int), 0) from if_neg hk)
    have hk2 : kind = 1 ∨ kind = 2 := by unfold badK at hk; omega
    clear hk
    rcases hk2 with rfl | rfl
    all_goals
      go_enter Tryz.func17, Tryz.ntmps17
      go_wp2
    · go_loopw [17, 6] (fun i n wr => ∃ k : Nat, k ≤ l.length ∧ i = .int .i64 k ∧ n = .int .i64 (cntN 1 (l.take k) : Nat) ∧ Below w.heap.size w wr) (fun i _ _ => l.length - (intOf i).toNat)
      case atStart => exact ⟨0, Nat.zero_le _, rfl, rfl, Below.refl _ _⟩
      case round =>
        obtain ⟨k, hk, rfl, rfl, hbl⟩ := hrel
        by_cases hlt : k < l.length
        · have hR := h.go hbl
          obtain ⟨b, off, K, a, rfl, hb, d1, d2, hd⟩ := evAt hR hlt
          have hw := wrap_i32 (ho _ (mem_dropE hd)).1
          simp only at hw
          have hB := ba hbl (evO (K, a))
          have hN := cntN_le 1 l k
          have hst := Lib.hid (cntN_step (kind := 1) hd)
          generalize cntN 1 (l.take k) = N at *
          by_cases hK : K = 1
          · subst hK
            have e1 : ((1 : Int) == 1) = true := by simp
            clear hd
            go_wp2
            go_roundw
            case rel => exact ⟨k + 1, by omega, by go_num, by rw [hst.out]; simp, hB⟩
            case measure => simp [intOf]; omega
          · have e1 : (K == 1) = false := by simp [hK]
            have hst2 := Lib.hid (show cntN 1 (l.take (k + 1)) = N by rw [hst.out]; simp [hK])
            clear hd hst hK
            go_wp2
            go_roundw
            case rel => exact ⟨k + 1, by omega, by go_num, by rw [hst2.out], hB⟩
            case measure => simp [intOf]; omega
        · obtain rfl : k = l.length := by omega
          rw [List.take_of_length_le (Nat.le_refl _)] at *
          go_wp2
          go_ret2
          exact ⟨by rw [HS.out]; rfl, hbl⟩
    · go_loopw [17, 6] (fun i n wr => ∃ k : Nat, k ≤ l.length ∧ i = .int .i64 k ∧ n = .int .i64 (cntN 2 (l.take k) : Nat) ∧ Below w.heap.size w wr) (fun i _ _ => l.length - (intOf i).toNat)
      case atStart => exact ⟨0, Nat.zero_le _, rfl, rfl, Below.refl _ _⟩
      case round =>
        obtain ⟨k, hk, rfl, rfl, hbl⟩ := hrel
        by_cases hlt : k < l.length
        · have hR := h.go hbl
          obtain ⟨b, off, K, a, rfl, hb, d1, d2, hd⟩ := evAt hR hlt
          have hw := wrap_i32 (ho _ (mem_dropE hd)).1
          simp only at hw
          have hB := ba hbl (evO (K, a))
          have hN := cntN_le 2 l k
          have hst := Lib.hid (cntN_step (kind := 2) hd)
          generalize cntN 2 (l.take k) = N at *
          by_cases hK : K = 2
          · subst hK
            have e1 : ((2 : Int) == 2) = true := by simp
            clear hd
            go_wp2
            go_roundw
            case rel => exact ⟨k + 1, by omega, by go_num, by rw [hst.out]; simp, hB⟩
            case measure => simp [intOf]; omega
          · have e1 : (K == 2) = false := by simp [hK]
            have hst2 := Lib.hid (show cntN 2 (l.take (k + 1)) = N by rw [hst.out]; simp [hK])
            clear hd hst hK
            go_wp2
            go_roundw
            case rel => exact ⟨k + 1, by omega, by go_num, by rw [hst2.out], hB⟩
            case measure => simp [intOf]; omega
        · obtain rfl : k = l.length := by omega
          rw [List.take_of_length_le (Nat.le_refl _)] at *
          go_wp2
          go_ret2
          exact ⟨by rw [HS.out]; rfl, hbl⟩
/-- what comes back: a slice that reads as xs -/
def RetS (w : World) (size : Nat) (xs : List Value) (n : Nat) (e : Ending) (w' : World) : Prop :=
  ∃ A c, e = .returned (.slice A n c) ∧ Below w.heap.size w w' ∧ Reads w' w'.heap.size size A n xs ∧ n ≤ c ∧ c ≤ 9223372036854775807
theorem evs_mid (l : List Ev) (i j : Nat) : ((evs l).drop (i * 2)).take (j * 2) = evs ((l.drop i).take j) := by rw [flat2_drop, flat2_take]
end Go.Proofs.YtpgojecldmcopaaGreatDoor
