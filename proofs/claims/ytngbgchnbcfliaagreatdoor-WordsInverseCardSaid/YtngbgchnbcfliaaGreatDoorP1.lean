/- words: the last byte that is no 9 (strings.LastIndexFunc as follows calls it). No condition. -/
import Derived.Test.YtngbgchnbcfliaaGreatDoorN5
import Derived.Test.YtngbgchnbcfliaaGreatDoorN2
import Derived.Test.YtngbgchnbcfliaaGreatDoorFr
namespace Go.Proofs.YtngbgchnbcfliaaGreatDoor
open Go.RowKit
/-- the last rune of a string whose last byte is ASCII -/
theorem decLast_ (s : ByteArray) (w : World) (h0 : 0 < s.size) (hs : s.size ≤ 1099511627776) (ha : (s[s.size - 1]'(by omega)).toNat < 128) :
    Calls Tryz.prog 90 #[.string s] w fun e w' => e = .returned (.tuple #[.int .i32 ((s[s.size - 1]'(by omega)).toNat : Int), .int .i64 1]) ∧ w' = w := by
  have j0 : ((s.size : Int) == 0) = false := by rw [beq_eq_false_iff_ne]; omega
  have e1 : (s.size : Int) - 1 = ((s.size - 1 : Nat) : Int) := by omega
  have hlt : s.size - 1 < s.size := by omega
  have i0 : ((s.size - 1 : Nat) : Int) < (s.size : Int) := by omega
  have i00 : (0 : Int) ≤ ((s.size - 1 : Nat) : Int) := by omega
  have i1 : ((s[s.size - 1].toNat : Int)) < 128 := by omega
  go_enter Tryz.func90, Tryz.ntmps90
  go_wp2
  go_ret2
  exact ⟨rfl, rfl⟩
/-- the closure of follows -/
theorem not9_ (r : Int) (w : World) : Calls Tryz.prog 54 #[.int .i32 r] w fun e w' => e = .returned (.bool (r != 57)) ∧ w' = w := by
  go_enter Tryz.func54, Tryz.ntmps54
  go_wp2
  go_ret
  exact ⟨rfl, rfl⟩
/-- how many bytes 9 stand at the end -/
def k9 (l : List UInt8) : Nat := (l.reverse.takeWhile fun c => c == 57).length
theorem k9_le (l : List UInt8) : k9 l ≤ l.length := by
  unfold k9
  have := (show (l.reverse.takeWhile fun c => c == 57) <+: l.reverse from List.takeWhile_prefix _).length_le
  simpa using this
theorem k9_nil : k9 [] = 0 := rfl
theorem k9_hit (l : List UInt8) : k9 (l ++ [57]) = k9 l + 1 := by simp [k9]
theorem k9_stop (l : List UInt8) {c : UInt8} (h : c ≠ 57) : k9 (l ++ [c]) = 0 := by
  have : (c == 57) = false := by simpa using h
  simp [k9, this]
/-- bytes 9 from k on: the number so far -/
theorem k9_step {l : List UInt8} {k : Nat} (hk : k < l.length) (h : k9 l = k9 (l.take (k + 1)) + (l.length - (k + 1))) (hc : l[k] = 57) : k9 l = k9 (l.take k) + (l.length - k) := by
  have e : l.take (k + 1) = l.take k ++ [57] := by rw [List.take_add_one, List.getElem?_eq_getElem hk, hc]; rfl
  rw [h, e, k9_hit]; omega
theorem k9_at {l : List UInt8} {k : Nat} (hk : k < l.length) (h : k9 l = k9 (l.take (k + 1)) + (l.length - (k + 1))) (hc : l[k] ≠ 57) : k9 l = l.length - (k + 1) := by
  have e : l.take (k + 1) = l.take k ++ [l[k]] := by rw [List.take_add_one, List.getElem?_eq_getElem hk]; rfl
  rw [h, e, k9_stop _ hc]; omega
theorem digs_ascii {s : ByteArray} (h : s.data.toList.all digB = true) {k : Nat} (hk : k < s.size) : 48 ≤ s[k].toNat ∧ s[k].toNat ≤ 57 := by
  have hm : s[k] ∈ s.data.toList := List.mem_of_getElem? (at_data s k hk)
  exact (digB_iff _).1 (List.all_eq_true.1 h _ hm)
set_option maxRecDepth 100000 in
set_option maxHeartbeats 1000000 in
theorem lastIdx_ (s : ByteArray) (w : World) (hs : s.size ≤ 1099511627776) (hd : s.data.toList.all digB = true) :
    Calls Tryz.prog 78 #[.string s, .func (.func 54) #[] #[], .bool true] w fun e w' => e = .returned (.int .i64 ((s.size : Int) - 1 - (k9 s.data.toList : Int))) ∧ w' = w := by
  have hl : s.data.toList.length = s.size := rfl
  have HD := Lib.hid hd
  clear hd
  go_enter Tryz.func78, Tryz.ntmps78
  go_wp2
  go_loopw [7] (fun i wr => ∃ k : Nat, k ≤ s.size ∧ i = .int .i64 k ∧ w = wr ∧ Hid (k9 s.data.toList = k9 (s.data.toList.take k) + (s.data.toList.length - k))) (fun i _ => (intOf i).toNat)
  case atStart => exact ⟨s.size, Nat.le_refl _, rfl, rfl, Lib.hid (by rw [← hl, List.take_length]; omega)⟩
  case round =>
    obtain ⟨k, hk, rfl, rfl, hr⟩ := hrel
    by_cases h0 : k = 0
    · have i1 : ¬ ((0 : Int) < (k : Int)) := by omega
      have hR := hr.out
      rw [h0, List.take_zero, k9_nil, hl] at hR
      go_wp2
      go_ret
      exact ⟨ret_int (by omega), rfl⟩
    · obtain ⟨j, rfl⟩ : ∃ j, k = j + 1 := ⟨k - 1, by omega⟩
      have i1 : (0 : Int) < ((j + 1 : Nat) : Int) := by omega
      have hjs : j < s.size := by omega
      have hdg := digs_ascii HD.out hjs
      have hez : (s.extract 0 (j + 1)).size = j + 1 := by rw [ByteArray.size_extract]; omega
      have hlast : (s.extract 0 (j + 1))[(s.extract 0 (j + 1)).size - 1]'(by omega) = s[j] := by
        rw [ByteArray.getElem_extract]; congr 1; omega
      have hcl := decLast_ (s.extract 0 (j + 1)) w (by omega) (by omega) (by rw [hlast]; omega)
      rw [hlast] at hcl
      have HC := Lib.hid hcl
      have hget : s.data.toList[j]'(by rw [hl]; exact hjs) = s[j] := rfl
      have e1 : ((j + 1 : Nat) : Int) - 1 = (j : Int) := by omega
      by_cases h9 : s[j] = 57
      · have hr2 := Lib.hid (k9_step (l := s.data.toList) (k := j) hjs hr.out (by rw [hget]; exact h9))
        have m1 : ((s[j].toNat : Int) != 57) = false := by rw [h9]; rfl
        clear hez hlast hcl hr h9 hget hdg
        go_wp2_with fail
        (with_reducible refine HC.out.mono ?_); rintro e w1 ⟨rfl, hw1⟩; subst hw1
        go_wp2_with fail
        (with_reducible refine (not9_ _ _).mono ?_); rintro e w1 ⟨rfl, hw1⟩; subst hw1
        rw [m1]
        go_wp2
        go_roundw
        case rel => exact ⟨j, by omega, by go_num, trivial, hr2⟩
        case measure => simp [intOf]
      · have hr2 := Lib.hid (k9_at (l := s.data.toList) (k := j) hjs hr.out (by rw [hget]; exact h9))
        have m1 : ((s[j].toNat : Int) != 57) = true := by rw [bne_iff_ne]; exact fun e => h9 (UInt8.toNat_inj.1 (by have : (57 : UInt8).toNat = 57 := rfl; omega))
        clear hez hlast hcl hr h9 hget hdg
        go_wp2_with fail
        (with_reducible refine HC.out.mono ?_); rintro e w1 ⟨rfl, hw1⟩; subst hw1
        go_wp2_with fail
        (with_reducible refine (not9_ _ _).mono ?_); rintro e w1 ⟨rfl, hw1⟩; subst hw1
        rw [m1]
        go_wp2
        go_ret
        refine ⟨ret_int ?_, rfl⟩
        have h2 := hr2.out
        rw [hl] at h2
        omega
end Go.Proofs.YtngbgchnbcfliaaGreatDoor
