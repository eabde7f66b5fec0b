/- words: Name, decimal, Int of the reference. No condition. -/
import Derived.Test.YtngbgchnbcfliaaDoorN9
namespace Go.Proofs.YtngbgchnbcfliaaDoor
open Go.RowKit
theorem rlower_c (c : UInt8) (w : World) : Calls Tryd.prog 35 #[.int .u8 (c.toNat : Int)] w fun e w' => e = .returned (.bool (lowB c)) ∧ w' = w := by
  by_cases h1 : 97 ≤ c.toNat
  · by_cases h2 : c.toNat ≤ 122
    · have hR := Lib.hid (show lowB c = true by simp [lowB, h1, h2])
      have i1 : (97 : Int) ≤ (c.toNat : Int) := by omega
      have i2 : (c.toNat : Int) ≤ 122 := by omega
      clear h1 h2
      go_enter Tryd.func35, Tryd.ntmps35
      go_wp2
      go_ret
      exact ⟨ret_bool hR.out.symm, rfl⟩
    · have hR := Lib.hid (show lowB c = false by simp [lowB]; omega)
      have i1 : (97 : Int) ≤ (c.toNat : Int) := by omega
      have i2 : ¬ ((c.toNat : Int) ≤ 122) := by omega
      clear h1 h2
      go_enter Tryd.func35, Tryd.ntmps35
      go_wp2
      go_ret
      exact ⟨ret_bool hR.out.symm, rfl⟩
  · have hR := Lib.hid (show lowB c = false by simp [lowB]; omega)
    have i1 : ¬ ((97 : Int) ≤ (c.toNat : Int)) := by omega
    clear h1
    go_enter Tryd.func35, Tryd.ntmps35
    go_wp2
    go_ret
    exact ⟨ret_bool hR.out.symm, rfl⟩
theorem rdigit_c (c : UInt8) (w : World) : Calls Tryd.prog 36 #[.int .u8 (c.toNat : Int)] w fun e w' => e = .returned (.bool (digB c)) ∧ w' = w := by
  by_cases h1 : 48 ≤ c.toNat
  · by_cases h2 : c.toNat ≤ 57
    · have hR := Lib.hid (show digB c = true by simp [digB, h1, h2])
      have i1 : (48 : Int) ≤ (c.toNat : Int) := by omega
      have i2 : (c.toNat : Int) ≤ 57 := by omega
      clear h1 h2
      go_enter Tryd.func36, Tryd.ntmps36
      go_wp2
      go_ret
      exact ⟨ret_bool hR.out.symm, rfl⟩
    · have hR := Lib.hid (show digB c = false by simp [digB]; omega)
      have i1 : (48 : Int) ≤ (c.toNat : Int) := by omega
      have i2 : ¬ ((c.toNat : Int) ≤ 57) := by omega
      clear h1 h2
      go_enter Tryd.func36, Tryd.ntmps36
      go_wp2
      go_ret
      exact ⟨ret_bool hR.out.symm, rfl⟩
  · have hR := Lib.hid (show digB c = false by simp [digB]; omega)
    have i1 : ¬ ((48 : Int) ≤ (c.toNat : Int)) := by omega
    clear h1
    go_enter Tryd.func36, Tryd.ntmps36
    go_wp2
    go_ret
    exact ⟨ret_bool hR.out.symm, rfl⟩
theorem all_step {p : UInt8 → Bool} {l : List UInt8} {k : Nat} {c : UInt8} (hk : l[k]? = some c) (h : (l.take k).all p = true) (hc : p c = true) : (l.take (k + 1)).all p = true := by
  rw [List.take_add_one, hk, List.all_append, h]; simp [hc]
theorem all_no {p : UInt8 → Bool} {l : List UInt8} {k : Nat} {c : UInt8} (hk : l[k]? = some c) (hc : p c = false) : l.all p = false := by
  rw [List.all_eq_false]; exact ⟨c, List.mem_of_getElem? hk, by rw [hc]; decide⟩
theorem nameC_of {c : UInt8} {a b d : Bool} (ha : lowB c = a) (hb : digB c = b) (hd : (c == 45) = d) : nameC c = (a || b || d) := by unfold nameC; rw [ha, hb, hd]
theorem eq45 (c : UInt8) : (c == 45) = ((c.toNat : Int) == 45) := by
  rw [Bool.eq_iff_iff]
  simp only [beq_iff_eq]
  constructor
  · intro h; rw [h]; rfl
  · intro h; exact UInt8.toNat_inj.1 (by have : (45 : UInt8).toNat = 45 := rfl; omega)
set_option maxRecDepth 100000 in
set_option maxHeartbeats 1000000 in
theorem rname_ (s : ByteArray) (w : World) :
    Calls Tryd.prog 16 #[.string s] w fun e w' => e = .returned (.bool (nameL s.data.toList)) ∧ Below w.heap.size w w' := by
  have hl : s.data.toList.length = s.size := by simp
  by_cases hz : s.size = 0
  · have hz1 : (s.size : Int) < 1 := by omega
    have hR := Lib.hid (show nameL s.data.toList = false by rw [List.eq_nil_of_length_eq_zero (by omega : s.data.toList.length = 0)]; rfl)
    clear hl hz
    go_enter Tryd.func16, Tryd.ntmps16
    go_wp2
    go_ret
    exact ⟨ret_bool hR.out.symm, Below.refl _ _⟩
  have hz1 : ¬ ((s.size : Int) < 1) := by omega
  have h0 : 0 < s.size := by omega
  obtain ⟨r, hr⟩ := data_cons s h0
  have hN : nameL s.data.toList = (decide (s.size ≤ 16) && lowB s[0] && s.data.toList.all nameC) := by
    conv => lhs; rw [hr]
    rw [nameL_cons, ← hr, hl]
  by_cases h16 : 16 < s.size
  · have hR := Lib.hid (show nameL s.data.toList = false by rw [hN]; simp; omega)
    have i1 : (16 : Int) < (s.size : Int) := by omega
    clear hl hN hr hz h16
    go_enter Tryd.func16, Tryd.ntmps16
    go_wp2
    go_ret
    exact ⟨ret_bool hR.out.symm, Below.refl _ _⟩
  have i1 : ¬ ((16 : Int) < (s.size : Int)) := by omega
  rcases hlo : lowB s[0] with _ | _
  · have hR := Lib.hid (show nameL s.data.toList = false by rw [hN, hlo]; simp)
    have Hlo := Lib.hid hlo
    clear hl hN hr hz h16 hlo
    go_enter Tryd.func16, Tryd.ntmps16
    go_wp2_with fail
    (with_reducible refine (rlower_c _ _).mono ?_); rintro e w ⟨rfl, hw1⟩; subst hw1
    rw [Hlo.out]
    go_wp2
    go_ret
    exact ⟨ret_bool hR.out.symm, Below.refl _ _⟩
  have hR := Lib.hid (show nameL s.data.toList = s.data.toList.all nameC by
    rw [hN, hlo, show decide (s.size ≤ 16) = true by simp; omega]; rfl)
  have Hlo := Lib.hid hlo
  have hs16 : s.size ≤ 16 := by omega
  clear hN hr hz h16 hlo hl
  go_enter Tryd.func16, Tryd.ntmps16
  go_wp2_with fail
  (with_reducible refine (rlower_c _ _).mono ?_); rintro e w ⟨rfl, hw1⟩; subst hw1
  rw [Hlo.out]
  clear i1 hz1
  go_wp2_with fail
  go_loopw [3] (fun i wr => ∃ k : Nat, k ≤ s.size ∧ i = .int .i64 k ∧ wr = w ∧ Hid ((s.data.toList.take k).all nameC = true)) (fun i _ => s.size - (intOf i).toNat)
  case atStart => exact ⟨0, Nat.zero_le _, rfl, rfl, Lib.hid rfl⟩
  case round =>
    obtain ⟨k, hk, rfl, rfl, hall⟩ := hrel
    by_cases hlt : k < s.size
    · have hd := Lib.hid (at_data s k hlt)
      have hi1 : (k : Int) < (s.size : Int) := by omega
      rcases hlo2 : lowB s[k] with _ | _
      · have Hl2 := Lib.hid hlo2
        rcases hdi : digB s[k] with _ | _
        · have Hd2 := Lib.hid hdi
          rcases he : ((s[k].toNat : Int) == 45) with _ | _
          · have hF := Lib.hid (show nameL s.data.toList = false by rw [hR.out]; exact all_no hd.out (by rw [nameC_of hlo2 hdi (show (s[k] == 45) = false by rw [eq45]; exact he)]; rfl))
            have hne : ((s[k].toNat : Int) != 45) = true := by unfold bne; rw [he]; rfl
            clear hlo2 hdi he
            go_wp2_with fail
            (with_reducible refine (rlower_c s[k] _).mono ?_); rintro e w ⟨rfl, hw1⟩; subst hw1
            rw [Hl2.out]
            go_wp2_with fail
            (with_reducible refine (rdigit_c s[k] _).mono ?_); rintro e w ⟨rfl, hw1⟩; subst hw1
            rw [Hd2.out]
            go_wp2
            go_ret
            exact ⟨ret_bool hF.out.symm, Below.refl _ _⟩
          · have hn := Lib.hid (all_step hd.out hall.out (by rw [nameC_of hlo2 hdi (show (s[k] == 45) = true by rw [eq45]; exact he)]; rfl))
            have hne : ((s[k].toNat : Int) != 45) = false := by unfold bne; rw [he]; rfl
            clear hlo2 hdi he
            go_wp2_with fail
            (with_reducible refine (rlower_c s[k] _).mono ?_); rintro e w ⟨rfl, hw1⟩; subst hw1
            rw [Hl2.out]
            go_wp2_with fail
            (with_reducible refine (rdigit_c s[k] _).mono ?_); rintro e w ⟨rfl, hw1⟩; subst hw1
            rw [Hd2.out]
            go_wp2
            go_roundw
            case rel => exact ⟨k + 1, by omega, by go_num, trivial, hn⟩
            case measure => simp [intOf]; omega
        · have Hd2 := Lib.hid hdi
          have hn := Lib.hid (all_step hd.out hall.out (by unfold nameC; rw [hlo2, hdi]; rfl))
          clear hlo2 hdi
          go_wp2_with fail
          (with_reducible refine (rlower_c s[k] _).mono ?_); rintro e w ⟨rfl, hw1⟩; subst hw1
          rw [Hl2.out]
          go_wp2_with fail
          (with_reducible refine (rdigit_c s[k] _).mono ?_); rintro e w ⟨rfl, hw1⟩; subst hw1
          rw [Hd2.out]
          go_wp2
          go_roundw
          case rel => exact ⟨k + 1, by omega, by go_num, trivial, hn⟩
          case measure => simp [intOf]; omega
      · have Hl2 := Lib.hid hlo2
        have hn := Lib.hid (all_step hd.out hall.out (by unfold nameC; rw [hlo2]; rfl))
        clear hlo2
        go_wp2_with fail
        (with_reducible refine (rlower_c s[k] _).mono ?_); rintro e w ⟨rfl, hw1⟩; subst hw1
        rw [Hl2.out]
        go_wp2
        go_roundw
        case rel => exact ⟨k + 1, by omega, by go_num, trivial, hn⟩
        case measure => simp [intOf]; omega
    · have hF := Lib.hid (show nameL s.data.toList = true by rw [hR.out]; have h2 := hall.out; rwa [List.take_of_length_le (by simp; omega)] at h2)
      have hi1 : ¬ ((k : Int) < (s.size : Int)) := by omega
      go_wp2
      go_ret
      exact ⟨ret_bool hF.out.symm, Below.refl _ _⟩
end Go.Proofs.YtngbgchnbcfliaaDoor
