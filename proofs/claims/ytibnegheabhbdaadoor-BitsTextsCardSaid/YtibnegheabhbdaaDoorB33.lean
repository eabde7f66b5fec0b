/- Rows of bits: internal/strconv.ParseUint at base 16. -/
import Derived.Test.YtibnegheabhbdaaDoorB32
import Derived.Lib.Strings
import Derived.Lib.ConvBytes
import Derived.Lib.AtoiAllMem
import Derived.Laws.Strings3
import Derived.BigCall
import Derived.BigGuard
namespace Go.Proofs.YtibnegheabhbdaaDoor
open Go.RowKit
def digH (c : Nat) : Nat := if 48 ≤ c ∧ c ≤ 57 then c - 48 else if 97 ≤ (c ||| 32) ∧ (c ||| 32) ≤ 122 then (c ||| 32) - 87 else 99
def puH (acc : Nat) : List UInt8 → Lib.NumEnd Nat
  | [] => .ok acc
  | c :: r => if digH c.toNat < 16 then (if 1152921504606846976 ≤ acc then .range else puH (acc * 16 + digH c.toNat) r) else Lib.NumEnd.syntax
theorem or32_fin : ∀ n : Fin 256, bits .or .u8 (n.val : Int) 32 = ((n.val ||| 32 : Nat) : Int) ∧ (n.val ||| 32) < 256 ∧ (97 ≤ (n.val ||| 32) ∧ (n.val ||| 32) ≤ 122 → n.val ≠ 95) := by decide +kernel
theorem lower_ (c : Nat) (hc : c < 256) (w : World) : Calls Tryd.prog 92 #[.int .u8 (c : Int)] w fun e w' => e = .returned (.int .u8 ((c ||| 32 : Nat) : Int)) ∧ w = w' := by
  have h := (or32_fin ⟨c, hc⟩).1
  simp only at h
  go_enter Tryd.func92, Tryd.ntmps92
  go_wp2
  go_ret
  exact ⟨rfl, rfl⟩
set_option maxHeartbeats 32000000 in
set_option maxRecDepth 100000 in
theorem iparse_ (t : ByteArray) (hne : t.size ≠ 0) (hmax : t.size ≤ 9223372036854775806) (w : World) :
    Calls Tryd.prog 75 #[.string t, .int .i64 16, .int .i64 64] w fun e w' => e = .returned (Lib.uintTuple 119 (puH 0 t.data.toList)) ∧ w' = Lib.bytesWorld w 5 t := by
  have hemp : t.toList.isEmpty = false := by
    rw [← decide_eq_emptyBytes]
    exact decide_eq_false (fun h => hne (by rw [h]; rfl))
  have hcv := Lib.run_convert_string_bytes (P := Tryd.prog) w 9 76 5 t (u := .string) Tryd.underlying9 Tryd.underlying76 Tryd.underlying5
  have hB : ∀ j, j < t.size → (Lib.bytesWorld w 5 t).cell? ⟨w.heap.size, j, none⟩ = some (.int .u8 (t.data.toList.getD j 0).toNat) := fun j hj => Lib.bytesWorld_cell w 5 t j hj
  obtain ⟨W1, hW1⟩ : ∃ W1, W1 = Lib.bytesWorld w 5 t := ⟨_, rfl⟩
  rw [← hW1] at hcv hB ⊢
  clear hW1
  obtain ⟨bs, hL⟩ : ∃ bs, bs = t.data.toList := ⟨_, rfl⟩
  have hLn : bs.length = t.size := by rw [hL, Lib.size_eq]
  rw [← hL] at hB ⊢
  clear hL
  have hmv : IntKind.u64.wrap (IntKind.u64.wrap 18446744073709551616 - 1) = 18446744073709551615 := by decide
  go_enter Tryd.func75, Tryd.ntmps75
  go_wp2
  go_loop [12, 13, 101] (fun vu vn vi => ∃ (k acc : Nat) (a : Int), vu = .bool false ∧ vn = .int .u64 a ∧ vi = .int .i64 k ∧ k ≤ t.size ∧ Hid (a = (acc : Int) ∧ acc < 18446744073709551616 ∧ puH 0 bs = puH acc (bs.drop k)))
    (fun _ _ vi => t.size - (intOf vi).toNat)
  case atStart => exact ⟨0, 0, 0, rfl, rfl, rfl, by omega, rfl, by omega, rfl⟩
  case round =>
    obtain ⟨k, acc, a, rfl, rfl, rfl, hk, hh⟩ := hrel
    obtain ⟨ha, hacc, hdec⟩ := hh.out
    clear hh
    have a0 : 0 ≤ a := by omega
    have a1 : a < 18446744073709551616 := by omega
    by_cases hkn : k < t.size
    · have hc := hB k hkn
      have hdrop : bs.drop k = bs[k]'(by omega) :: bs.drop (k + 1) := List.drop_eq_getElem_cons (by omega)
      have hget : bs.getD k 0 = bs[k]'(by omega) := by simp [List.getD, List.getElem?_eq_getElem (show k < bs.length by omega)]
      rw [hdrop] at hdec
      rw [hget] at hc
      generalize bs[k]'(by omega) = c8 at hc hdec
      have hc256 : c8.toNat < 256 := c8.toNat_lt
      have hstep : puH acc (c8 :: bs.drop (k + 1)) = if digH c8.toNat < 16 then (if 1152921504606846976 ≤ acc then .range else puH (acc * 16 + digH c8.toNat) (bs.drop (k + 1))) else Lib.NumEnd.syntax := rfl
      rw [hstep] at hdec
      clear hB hdrop hget hstep
      generalize c8.toNat = c at *
      obtain ⟨_, hl2, hl3⟩ := or32_fin ⟨c, hc256⟩
      simp only at hl2 hl3
      have HL := Lib.hid (fun W => lower_ c hc256 W)
      by_cases hA : 48 ≤ c ∧ c ≤ 57
      · obtain ⟨hA0, hA1⟩ := hA
        have hd : digH c = c - 48 := if_pos ⟨hA0, hA1⟩
        rw [hd, if_pos (by omega)] at hdec
        have h95 : ((c : Int) == 95) = false := by simp; omega
        by_cases hcut : 1152921504606846976 ≤ acc
        · rw [if_pos hcut] at hdec
          have icut : 1152921504606846976 ≤ a := by omega
          clear hcut hacc ha hl2 hl3 hd HL
          go_wp2
          go_ret2
          exact ⟨rfl, rfl⟩
        · rw [if_neg hcut] at hdec
          have HN : Hid (a * 16 + ((c : Int) - 48) = ((acc * 16 + (c - 48) : Nat) : Int) ∧ acc * 16 + (c - 48) < 18446744073709551616 ∧ puH 0 bs = puH (acc * 16 + (c - 48)) (bs.drop (k + 1))) := Lib.hid ⟨by omega, by omega, hdec⟩
          have icut : a < 1152921504606846976 := by omega
          have iov : a * 16 + ((c : Int) - 48) < 18446744073709551616 := by omega
          clear hcut hacc hdec ha hl2 hl3 hd HL
          go_wp2
          go_round
          case rel => exact ⟨k + 1, acc * 16 + (c - 48), a * 16 + ((c : Int) - 48), rfl, (by first | rfl | (congr 1; omega)), (by first | rfl | (congr 1; omega)), by omega, HN⟩
          case measure => simp [intOf]; omega
      · by_cases hBc : 97 ≤ (c ||| 32) ∧ (c ||| 32) ≤ 122
        · have hd : digH c = (c ||| 32) - 87 := by unfold digH; rw [if_neg hA, if_pos hBc]
          have hn95 := hl3 hBc
          obtain ⟨hB0, hB1⟩ := hBc
          rw [hd] at hdec
          have h95 : ((c : Int) == 95) = false := by simp; omega
          have hAn : ¬ (48 ≤ c) ∨ ¬ (c ≤ 57) := by omega
          generalize (c ||| 32) = m at *
          clear hl3 hd hl2 hA hn95
          by_cases hd16 : m - 87 < 16
          · rw [if_pos hd16] at hdec
            by_cases hcut : 1152921504606846976 ≤ acc
            · rw [if_pos hcut] at hdec
              have icut : 1152921504606846976 ≤ a := by omega
              have im : (m : Int) < 103 := by omega
              clear hcut hacc ha hd16
              rcases hAn with hAn | hAn
              all_goals
                go_wp2_with (go_at_call 92; (with_reducible refine (HL.out _).mono ?_); rintro e w' ⟨rfl, rfl⟩)
                go_ret2
                exact ⟨by rw [hdec]; rfl, rfl⟩
            · rw [if_neg hcut] at hdec
              have HN : Hid (a * 16 + ((m : Int) - 97 + 10) = ((acc * 16 + (m - 87) : Nat) : Int) ∧ acc * 16 + (m - 87) < 18446744073709551616 ∧ puH 0 bs = puH (acc * 16 + (m - 87)) (bs.drop (k + 1))) := Lib.hid ⟨by omega, by omega, hdec⟩
              have icut : a < 1152921504606846976 := by omega
              have im : (m : Int) < 103 := by omega
              have iov : a * 16 + ((m : Int) - 97 + 10) < 18446744073709551616 := by omega
              clear hcut hacc hdec ha hd16
              rcases hAn with hAn | hAn
              all_goals
                go_wp2_with (go_at_call 92; (with_reducible refine (HL.out _).mono ?_); rintro e w' ⟨rfl, rfl⟩)
                go_round
                case rel => exact ⟨k + 1, acc * 16 + (m - 87), a * 16 + ((m : Int) - 97 + 10), rfl, (by first | rfl | (congr 1; omega)), (by first | rfl | (congr 1; omega)), by omega, HN⟩
                case measure => simp [intOf]; omega
          · rw [if_neg hd16] at hdec
            have im : 103 ≤ (m : Int) := by omega
            clear hacc ha hd16
            rcases hAn with hAn | hAn
            all_goals
              go_wp2_with (go_at_call 92; (with_reducible refine (HL.out _).mono ?_); rintro e w' ⟨rfl, rfl⟩)
              go_ret2
              exact ⟨by rw [hdec]; rfl, rfl⟩
        · have hd : digH c = 99 := by unfold digH; rw [if_neg hA, if_neg hBc]
          rw [hd, if_neg (by omega)] at hdec
          have hAn : ¬ (48 ≤ c) ∨ ¬ (c ≤ 57) := by omega
          generalize (c ||| 32) = m at *
          have hBn : ¬ (97 ≤ m) ∨ ¬ (m ≤ 122) := by omega
          clear hl3 hd hA hBc hacc ha
          rcases Bool.eq_false_or_eq_true ((c : Int) == 95) with h95 | h95 <;> rcases hAn with hAn | hAn <;> rcases hBn with hBn | hBn
          all_goals
            go_wp2_with (go_at_call 92; (with_reducible refine (HL.out _).mono ?_); rintro e w' ⟨rfl, rfl⟩)
          all_goals go_ret2
          all_goals first | exact ⟨rfl, rfl⟩ | exact ⟨by rw [hdec]; rfl, rfl⟩
    · have hkk : k = t.size := by omega
      subst hkk
      have hF : puH acc (bs.drop t.size) = .ok acc := by rw [List.drop_eq_nil_of_le (by omega)]; rfl
      rw [hF] at hdec
      subst ha
      clear hacc hF a0 a1
      go_wp2
      go_ret2
      exact ⟨rfl, rfl⟩
end Go.Proofs.YtibnegheabhbdaaDoor
