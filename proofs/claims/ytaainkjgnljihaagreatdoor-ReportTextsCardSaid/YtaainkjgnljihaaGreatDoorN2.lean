/- words: isBare; the reference's bare. No condition. -/
import Derived.Test.YtaainkjgnljihaaGreatDoorN1
import Derived.Test.YtaainkjgnljihaaGreatDoorW2
namespace Go.Proofs.YtaainkjgnljihaaGreatDoor
open Go.RowKit
theorem bareL_yes {l : List UInt8} (h : l.all bareC = true) (h0 : l ≠ []) : bareL l = true := by
  unfold bareL; rw [h]; cases l with
  | nil => exact absurd rfl h0
  | cons x r => rfl
theorem bareL_nil : bareL [] = false := rfl
theorem bareL_no {l : List UInt8} {k : Nat} {c : UInt8} (h : l[k]? = some c) (hc : bareC c = false) : bareL l = false := by
  have : l.all bareC = false := by
    rw [List.all_eq_false]
    exact ⟨c, List.mem_of_getElem? h, by rw [hc]; decide⟩
  unfold bareL; rw [this]; rfl
theorem ne_nil {s : ByteArray} (h : s.size ≠ 0) : s.data.toList ≠ [] := by
  intro e
  have h2 : s.data.toList.length = s.size := by simp
  rw [e] at h2
  exact h h2.symm
theorem at_data (s : ByteArray) (k : Nat) (h : k < s.size) : s.data.toList[k]? = some s[k] := by
  rw [List.getElem?_eq_getElem (by simpa using h)]; rfl
theorem all_take {l : List UInt8} {k : Nat} {c : UInt8} (hk : l[k]? = some c) (h : (l.take k).all bareC = true) (hc : bareC c = true) : (l.take (k + 1)).all bareC = true := by
  rw [List.take_add_one, hk, List.all_append, h]; simp [hc]
theorem bareC_of {c : UInt8} {p q : Bool} (hp : plainB c = p) (hq : ((c.toNat : Int) == 32) = q) : bareC c = (p && !q) := by
  unfold bareC
  have : (c == 32) = q := by
    rw [← hq, Bool.eq_iff_iff]
    simp only [beq_iff_eq]
    constructor
    · intro h; rw [h]; rfl
    · intro h; exact UInt8.toNat_inj.1 (by have : (32 : UInt8).toNat = 32 := rfl; omega)
  rw [hp, this]
set_option maxRecDepth 100000 in
set_option maxHeartbeats 400000 in
theorem isBare (s : ByteArray) (w : World) (hsz : s.size ≤ 1099511627776) :
    Calls Tryz.prog 69 #[.string s] w fun e w' => e = .returned (.bool (bareL s.data.toList)) ∧ Below w.heap.size w w' := by
  go_enter Tryz.func69, Tryz.ntmps69
  go_wp2
  go_loopw [6] (fun i wr => ∃ k : Nat, k ≤ s.size ∧ i = .int .i64 k ∧ Below w.heap.size w wr ∧ (s.data.toList.take k).all bareC = true) (fun i _ => s.size - (intOf i).toNat)
  case atStart => exact ⟨0, Nat.zero_le _, rfl, Below.refl _ _, rfl⟩
  case round =>
    obtain ⟨k, hk, rfl, hbl, hall⟩ := hrel
    by_cases hlt : k < s.size
    · have hd := at_data s k hlt
      have hi1 : (k : Int) < (s.size : Int) := by omega
      rcases hp : plainB s[k] with _ | _
      · have hR := Lib.hid (bareL_no hd (by unfold bareC; rw [hp]; rfl))
        have Hp := Lib.hid hp
        clear hall hd hp
        go_wp2_with fail
        (with_reducible refine (isPlain s[k] _).mono ?_); rintro e w3 ⟨rfl, rfl⟩
        rw [Hp.out]
        go_wp2
        go_ret
        exact ⟨ret_bool hR.out.symm, hbl⟩
      · rcases hq : ((s[k].toNat : Int) == 32) with _ | _
        · have hn := Lib.hid (all_take hd hall (by rw [bareC_of hp hq]; rfl))
          have Hp := Lib.hid hp
          clear hall hd hp
          go_wp2_with fail
          (with_reducible refine (isPlain s[k] _).mono ?_); rintro e w3 ⟨rfl, rfl⟩
          rw [Hp.out]
          go_wp2
          go_roundw
          case rel => exact ⟨k + 1, by omega, by go_num, hbl, hn.out⟩
          case measure => simp [intOf]; omega
        · have hR := Lib.hid (bareL_no hd (by rw [bareC_of hp hq]; rfl))
          have Hp := Lib.hid hp
          clear hall hd hp
          go_wp2_with fail
          (with_reducible refine (isPlain s[k] _).mono ?_); rintro e w3 ⟨rfl, rfl⟩
          rw [Hp.out]
          go_wp2
          go_ret
          exact ⟨ret_bool hR.out.symm, hbl⟩
    · have hks : k = s.size := by omega
      rw [hks, List.take_of_length_le (by simp)] at hall
      have hi1 : ¬ ((k : Int) < (s.size : Int)) := by omega
      by_cases hz : s.size = 0
      · have hR := Lib.hid (show bareL s.data.toList = false by rw [List.eq_nil_of_length_eq_zero (by simpa using hz : s.data.toList.length = 0)]; rfl)
        clear hall
        have hz2 : s.toList = [] := (toList_nil s).2 hz
        go_wp2
        go_ret
        exact ⟨ret_bool (by simp [hR.out]), hbl⟩
      · have hR := Lib.hid (bareL_yes hall (ne_nil hz))
        clear hall
        have hz2 : s.toList ≠ [] := fun e => hz ((toList_nil s).1 e)
        go_wp2
        go_ret
        exact ⟨ret_bool (by simp [hR.out, hz2]), hbl⟩
set_option maxRecDepth 100000 in
set_option maxHeartbeats 400000 in
theorem rbare (s : ByteArray) (w : World) (hsz : s.size ≤ 1099511627776) :
    Calls Tryz.prog 55 #[.string s] w fun e w' => e = .returned (.bool (bareL s.data.toList)) ∧ Below w.heap.size w w' := by
  go_enter Tryz.func55, Tryz.ntmps55
  go_wp2
  go_loopw [3] (fun i wr => ∃ k : Nat, k ≤ s.size ∧ i = .int .i64 k ∧ Below w.heap.size w wr ∧ (s.data.toList.take k).all bareC = true) (fun i _ => s.size - (intOf i).toNat)
  case atStart => exact ⟨0, Nat.zero_le _, rfl, Below.refl _ _, rfl⟩
  case round =>
    obtain ⟨k, hk, rfl, hbl, hall⟩ := hrel
    by_cases hlt : k < s.size
    · have hd := at_data s k hlt
      have hi1 : (k : Int) < (s.size : Int) := by omega
      rcases hp : plainB s[k] with _ | _
      · have hR := Lib.hid (bareL_no hd (by unfold bareC; rw [hp]; rfl))
        have Hp := Lib.hid hp
        clear hall hd hp
        go_wp2_with fail
        (with_reducible refine (rplain s[k] _).mono ?_); rintro e w3 ⟨rfl, rfl⟩
        rw [Hp.out]
        go_wp2
        go_ret
        exact ⟨ret_bool hR.out.symm, hbl⟩
      · rcases hq : ((s[k].toNat : Int) == 32) with _ | _
        · have hn := Lib.hid (all_take hd hall (by rw [bareC_of hp hq]; rfl))
          have Hp := Lib.hid hp
          clear hall hd hp
          go_wp2_with fail
          (with_reducible refine (rplain s[k] _).mono ?_); rintro e w3 ⟨rfl, rfl⟩
          rw [Hp.out]
          go_wp2
          go_roundw
          case rel => exact ⟨k + 1, by omega, by go_num, hbl, hn.out⟩
          case measure => simp [intOf]; omega
        · have hR := Lib.hid (bareL_no hd (by rw [bareC_of hp hq]; rfl))
          have Hp := Lib.hid hp
          clear hall hd hp
          go_wp2_with fail
          (with_reducible refine (rplain s[k] _).mono ?_); rintro e w3 ⟨rfl, rfl⟩
          rw [Hp.out]
          go_wp2
          go_ret
          exact ⟨ret_bool hR.out.symm, hbl⟩
    · have hks : k = s.size := by omega
      rw [hks, List.take_of_length_le (by simp)] at hall
      have hi1 : ¬ ((k : Int) < (s.size : Int)) := by omega
      by_cases hz : s.size = 0
      · have hR := Lib.hid (show bareL s.data.toList = false by rw [List.eq_nil_of_length_eq_zero (by simpa using hz : s.data.toList.length = 0)]; rfl)
        clear hall
        go_wp2
        go_ret
        exact ⟨ret_bool (by rw [hR.out]), hbl⟩
      · have hR := Lib.hid (bareL_yes hall (ne_nil hz))
        clear hall
        go_wp2
        go_ret
        exact ⟨ret_bool (by rw [hR.out]; simp; omega), hbl⟩
end Go.Proofs.YtaainkjgnljihaaGreatDoor
