/- words: decimal of the reference. No condition. -/
import Derived.Test.YtljmidaapgppfaaDoorN13
import Derived.Deep.DeepCutAuto
namespace Go.Proofs.YtljmidaapgppfaaDoor
open Go.RowKit
theorem dec_strip {x : UInt8} {r : List UInt8} (h : x ≠ 48) : decL (45 :: x :: r) = digsL (x :: r) := by
  show (digsL (x :: r) && !(x == 48)) = _
  have : (x == 48) = false := by simpa using h
  rw [this]; simp
theorem dec_keep {l : List UInt8} (h : ∀ x r, l = 45 :: x :: r → x = 48) : decL l = digsL l := by
  unfold decL
  split
  · rename_i x r
    have := h x r rfl
    subst this
    have h2 : digsL (45 :: 48 :: r) = false := by
      unfold digsL
      have : (45 :: 48 :: r : List UInt8).all digB = false := by simp [digB]
      rw [this]; rfl
    rw [h2]; simp
  · rfl
theorem digs_head {T : ByteArray} (h : 1 < T.size) (h0 : T[0]'(by omega) = 48) : digsL T.data.toList = false := by
  obtain ⟨r, hr⟩ := data_cons T (by omega)
  have hl : T.data.toList.length = T.size := by simp
  rw [hr, h0]
  cases r with
  | nil => rw [hr] at hl; simp at hl; omega
  | cons y t => simp [digsL]
theorem digs_all {T : ByteArray} (h0 : T.size ≠ 0) (h : ¬ ∃ h : 1 < T.size, T[0]'(by omega) = 48) : digsL T.data.toList = T.data.toList.all digB := by
  obtain ⟨r, hr⟩ := data_cons T (by omega)
  have hl : T.data.toList.length = T.size := by simp
  rw [hr]
  cases r with
  | nil => simp [digsL]
  | cons y t =>
    have h2 : T[0]'(by omega) ≠ 48 := fun e => h ⟨by rw [hr] at hl; simp at hl; omega, e⟩
    have h3 : (T[0]'(by omega) == 48) = false := by simpa using h2
    show ((T[0] :: y :: t).all digB && !(T[0] == 48)) = _
    rw [h3]; simp
theorem ext_one (s : ByteArray) {x : UInt8} {r : List UInt8} (h : s.data.toList = 45 :: x :: r) : (s.extract 1 s.size).data.toList = x :: r := by
  rw [ext_from, h]; rfl
theorem data_two (s : ByteArray) (h : 1 < s.size) : ∃ r, s.data.toList = s[0] :: s[1] :: r := by
  have hl : 1 < s.data.toList.length := by simpa using h
  refine ⟨s.data.toList.drop 2, ?_⟩
  have h1 := List.drop_eq_getElem_cons (l := s.data.toList) (i := 0) (by omega)
  have h2 := List.drop_eq_getElem_cons (l := s.data.toList) (i := 1) hl
  rw [List.drop_zero] at h1
  rw [h2] at h1
  exact h1
theorem u8ne {c : UInt8} {n : Nat} (hn : n < 256) (h : c ≠ UInt8.ofNat n) : ((c.toNat : Int) == (n : Int)) = false := by
  rw [beq_eq_false_iff_ne]
  intro e
  refine h (UInt8.toNat_inj.1 ?_)
  have : (UInt8.ofNat n).toNat = n := by simp; omega
  omega
set_option maxRecDepth 100000 in
set_option maxHeartbeats 1000000 in
theorem decimal_q (s : ByteArray) (w : World) (hs : s.size ≤ 1099511627776) :
    Calls Tryd.prog 35 #[.string s] w fun e w' => e = .returned (.bool (decL s.data.toList)) ∧ w' = w := by
  have hl : s.data.toList.length = s.size := by simp
  have Hl := Lib.hid hl
  clear hl
  go_enter Tryd.func35, Tryd.ntmps35
  by_cases hst : ∃ h : 1 < s.size, s[0] = 45 ∧ s[1] ≠ 48
  · obtain ⟨h1, h45, h48⟩ := hst
    have i1 : (1 : Int) < (s.size : Int) := by omega
    obtain ⟨r, hr⟩ := data_two s h1
    have i2 : ((s[0].toNat : Int) == 45) = true := by rw [h45]; rfl
    have i3 : ((s[1].toNat : Int) != 48) = true := by unfold bne; rw [show ((s[1].toNat : Int) == 48) = false from u8ne (n := 48) (by omega) h48]; rfl
    have hK := Lib.hid (show decL s.data.toList = digsL (s.extract 1 s.size).data.toList by
      have hr2 : s.data.toList = (45 : UInt8) :: s[1] :: r := by rw [hr, h45]
      rw [ext_one s hr2, hr2]; exact dec_strip h48)
    clear hr h45 h48
    have hTZ : (s.extract 1 s.size).size = (s.size - 1) := by rw [ByteArray.size_extract]; omega
    by_cases hz : (s.size - 1) = 0
    · have j0 : ((((s.size - 1) : Nat) : Int) == 0) = true := by simp [hz]
      have hR := Lib.hid (show decL s.data.toList = false by rw [hK.out, List.eq_nil_of_length_eq_zero (by have h9 : (s.extract 1 s.size).data.toList.length = (s.extract 1 s.size).size := rfl; omega : (s.extract 1 s.size).data.toList.length = 0)]; rfl)
      clear hz
      go_wp2
      go_ret
      exact ⟨ret_bool hR.out.symm, rfl⟩
    have j0 : ((((s.size - 1) : Nat) : Int) == 0) = false := by rw [beq_eq_false_iff_ne]; omega
    by_cases hh : ∃ h : 1 < (s.extract 1 s.size).size, (s.extract 1 s.size)[0]'(by omega) = 48
    · obtain ⟨h1, h2⟩ := hh
      have j1 : (1 : Int) < (((s.size - 1) : Nat) : Int) := by omega
      have hR := Lib.hid (show decL s.data.toList = false by rw [hK.out]; exact digs_head h1 h2)
      have j2 : ((((s.extract 1 s.size)[0]'(by omega)).toNat : Int) == 48) = true := by rw [h2]; rfl
      clear h2 hz
      go_wp2
      go_ret
      exact ⟨ret_bool hR.out.symm, rfl⟩
    have hR := Lib.hid (show decL s.data.toList = (s.extract 1 s.size).data.toList.all digB by rw [hK.out]; exact digs_all (by omega) hh)
    have hA : (∃ h : 1 < (s.extract 1 s.size).size, ((((s.extract 1 s.size)[0]'(by omega)).toNat : Int) == 48) = false) ∨ ¬ (1 < (s.extract 1 s.size).size) := by
      by_cases h1 : 1 < (s.extract 1 s.size).size
      · exact .inl ⟨h1, u8ne (n := 48) (by omega) (fun e => hh ⟨h1, e⟩)⟩
      · exact .inr h1
    clear hh hz
    have HTZ := Lib.hid hTZ
    rcases hA with ⟨h1, j2⟩ | h1
    · have j1 : (1 : Int) < (((s.size - 1) : Nat) : Int) := by omega
      go_wp2
      go_loopw [3] (fun i wr => ∃ k : Nat, k ≤ (s.size - 1) ∧ i = .int .i64 k ∧ wr = w ∧ Hid (((s.extract 1 s.size).data.toList.take k).all digB = true)) (fun i _ => (s.size - 1) - (intOf i).toNat)
      case atStart => exact ⟨0, Nat.zero_le _, rfl, rfl, Lib.hid rfl⟩
      case round =>
        obtain ⟨k, hk, rfl, rfl, hall⟩ := hrel
        by_cases hlt : k < (s.size - 1)
        · have hlT : k < (s.extract 1 s.size).size := by rw [HTZ.out]; exact hlt
          have hd := Lib.hid (at_data (s.extract 1 s.size) k hlT)
          have hi1 : (k : Int) < (((s.size - 1) : Nat) : Int) := by omega
          rcases hdi : digB ((s.extract 1 s.size)[k]'hlT) with _ | _
          · have hF := Lib.hid (show decL s.data.toList = false by rw [hR.out]; exact all_no hd.out hdi)
            have Hdi := Lib.hid hdi
            clear hdi
            go_wp2_with fail
            (with_reducible refine (rdigit_c _ _).mono ?_); rintro e w1 ⟨rfl, hw1⟩; subst hw1
            rw [Hdi.out]
            go_wp2
            go_ret
            exact ⟨ret_bool hF.out.symm, rfl⟩
          · have hn := Lib.hid (all_step hd.out hall.out hdi)
            have Hdi := Lib.hid hdi
            clear hdi
            go_wp2_with fail
            (with_reducible refine (rdigit_c _ _).mono ?_); rintro e w1 ⟨rfl, hw1⟩; subst hw1
            rw [Hdi.out]
            go_wp2
            go_roundw
            case rel => exact ⟨k + 1, by omega, by go_num, trivial, hn⟩
            case measure => simp [intOf]; omega
        · have hF := Lib.hid (show decL s.data.toList = true by rw [hR.out]; have h2 := hall.out; rwa [List.take_of_length_le (by have h9 : (s.extract 1 s.size).data.toList.length = (s.extract 1 s.size).size := rfl; have := HTZ.out; omega)] at h2)
          have hi1 : ¬ ((k : Int) < (((s.size - 1) : Nat) : Int)) := by omega
          go_wp2
          go_ret
          exact ⟨ret_bool hF.out.symm, rfl⟩
    · have j1 : ¬ ((1 : Int) < (((s.size - 1) : Nat) : Int)) := by omega
      go_wp2
      go_loopw [3] (fun i wr => ∃ k : Nat, k ≤ (s.size - 1) ∧ i = .int .i64 k ∧ wr = w ∧ Hid (((s.extract 1 s.size).data.toList.take k).all digB = true)) (fun i _ => (s.size - 1) - (intOf i).toNat)
      case atStart => exact ⟨0, Nat.zero_le _, rfl, rfl, Lib.hid rfl⟩
      case round =>
        obtain ⟨k, hk, rfl, rfl, hall⟩ := hrel
        by_cases hlt : k < (s.size - 1)
        · have hlT : k < (s.extract 1 s.size).size := by rw [HTZ.out]; exact hlt
          have hd := Lib.hid (at_data (s.extract 1 s.size) k hlT)
          have hi1 : (k : Int) < (((s.size - 1) : Nat) : Int) := by omega
          rcases hdi : digB ((s.extract 1 s.size)[k]'hlT) with _ | _
          · have hF := Lib.hid (show decL s.data.toList = false by rw [hR.out]; exact all_no hd.out hdi)
            have Hdi := Lib.hid hdi
            clear hdi
            go_wp2_with fail
            (with_reducible refine (rdigit_c _ _).mono ?_); rintro e w1 ⟨rfl, hw1⟩; subst hw1
            rw [Hdi.out]
            go_wp2
            go_ret
            exact ⟨ret_bool hF.out.symm, rfl⟩
          · have hn := Lib.hid (all_step hd.out hall.out hdi)
            have Hdi := Lib.hid hdi
            clear hdi
            go_wp2_with fail
            (with_reducible refine (rdigit_c _ _).mono ?_); rintro e w1 ⟨rfl, hw1⟩; subst hw1
            rw [Hdi.out]
            go_wp2
            go_roundw
            case rel => exact ⟨k + 1, by omega, by go_num, trivial, hn⟩
            case measure => simp [intOf]; omega
        · have hF := Lib.hid (show decL s.data.toList = true by rw [hR.out]; have h2 := hall.out; rwa [List.take_of_length_le (by have h9 : (s.extract 1 s.size).data.toList.length = (s.extract 1 s.size).size := rfl; have := HTZ.out; omega)] at h2)
          have hi1 : ¬ ((k : Int) < (((s.size - 1) : Nat) : Int)) := by omega
          go_wp2
          go_ret
          exact ⟨ret_bool hF.out.symm, rfl⟩
  · have hns : (∃ h : 1 < s.size, ((s[0].toNat : Int) == 45) = true ∧ ((s[1].toNat : Int) != 48) = false) ∨ (∃ h : 1 < s.size, ((s[0].toNat : Int) == 45) = false) ∨ ¬ (1 < s.size) := by
      by_cases h1 : 1 < s.size
      · by_cases h45 : s[0] = 45
        · have h48 : s[1] = 48 := Classical.byContradiction fun e => hst ⟨h1, h45, e⟩
          exact .inl ⟨h1, by rw [h45]; rfl, by rw [h48]; rfl⟩
        · exact .inr (.inl ⟨h1, u8ne (n := 45) (by omega) h45⟩)
      · exact .inr (.inr h1)
    have hK := Lib.hid (dec_keep (l := s.data.toList) (fun x t e => by
      have hl2 : 1 < s.size := by have := Hl.out; rw [e] at this; simp at this; omega
      obtain ⟨r, hr⟩ := data_two s hl2
      rw [hr] at e
      injection e with e1 e
      injection e with e2 _
      rw [← e2]
      exact Classical.byContradiction fun e3 => hst ⟨hl2, e1, e3⟩))
    clear hst
    rcases hns with ⟨h1, i2, i3⟩ | ⟨h1, i2⟩ | h1
    · have i1 : (1 : Int) < (s.size : Int) := by omega
      by_cases hz : s.size = 0
      · have j0 : (((s.size : Nat) : Int) == 0) = true := by simp [hz]
        have hR := Lib.hid (show decL s.data.toList = false by rw [hK.out, List.eq_nil_of_length_eq_zero (by have h9 : (s).data.toList.length = (s).size := rfl; omega : (s).data.toList.length = 0)]; rfl)
        clear hz
        go_wp2
        go_ret
        exact ⟨ret_bool hR.out.symm, rfl⟩
      have j0 : (((s.size : Nat) : Int) == 0) = false := by rw [beq_eq_false_iff_ne]; omega
      by_cases hh : ∃ h : 1 < s.size, s[0]'(by omega) = 48
      · obtain ⟨h1, h2⟩ := hh
        have j1 : (1 : Int) < ((s.size : Nat) : Int) := by omega
        have hR := Lib.hid (show decL s.data.toList = false by rw [hK.out]; exact digs_head h1 h2)
        have j2 : (((s[0]'(by omega)).toNat : Int) == 48) = true := by rw [h2]; rfl
        clear h2 hz
        go_wp2
        go_ret
        exact ⟨ret_bool hR.out.symm, rfl⟩
      have hR := Lib.hid (show decL s.data.toList = s.data.toList.all digB by rw [hK.out]; exact digs_all (by omega) hh)
      have hA : (∃ h : 1 < s.size, (((s[0]'(by omega)).toNat : Int) == 48) = false) ∨ ¬ (1 < s.size) := by
        by_cases h1 : 1 < s.size
        · exact .inl ⟨h1, u8ne (n := 48) (by omega) (fun e => hh ⟨h1, e⟩)⟩
        · exact .inr h1
      clear hh hz
      rcases hA with ⟨h1, j2⟩ | h1
      · have j1 : (1 : Int) < ((s.size : Nat) : Int) := by omega
        go_wp2
        go_loopw [3] (fun i wr => ∃ k : Nat, k ≤ s.size ∧ i = .int .i64 k ∧ wr = w ∧ Hid ((s.data.toList.take k).all digB = true)) (fun i _ => s.size - (intOf i).toNat)
        case atStart => exact ⟨0, Nat.zero_le _, rfl, rfl, Lib.hid rfl⟩
        case round =>
          obtain ⟨k, hk, rfl, rfl, hall⟩ := hrel
          by_cases hlt : k < s.size
          · have hlT : k < s.size := hlt
            have hd := Lib.hid (at_data s k hlT)
            have hi1 : (k : Int) < ((s.size : Nat) : Int) := by omega
            rcases hdi : digB (s[k]'hlT) with _ | _
            · have hF := Lib.hid (show decL s.data.toList = false by rw [hR.out]; exact all_no hd.out hdi)
              have Hdi := Lib.hid hdi
              clear hdi
              go_wp2_with fail
              (with_reducible refine (rdigit_c _ _).mono ?_); rintro e w1 ⟨rfl, hw1⟩; subst hw1
              rw [Hdi.out]
              go_wp2
              go_ret
              exact ⟨ret_bool hF.out.symm, rfl⟩
            · have hn := Lib.hid (all_step hd.out hall.out hdi)
              have Hdi := Lib.hid hdi
              clear hdi
              go_wp2_with fail
              (with_reducible refine (rdigit_c _ _).mono ?_); rintro e w1 ⟨rfl, hw1⟩; subst hw1
              rw [Hdi.out]
              go_wp2
              go_roundw
              case rel => exact ⟨k + 1, by omega, by go_num, trivial, hn⟩
              case measure => simp [intOf]; omega
          · have hF := Lib.hid (show decL s.data.toList = true by rw [hR.out]; have h2 := hall.out; rwa [List.take_of_length_le (by have h9 : s.data.toList.length = s.size := rfl; omega)] at h2)
            have hi1 : ¬ ((k : Int) < ((s.size : Nat) : Int)) := by omega
            go_wp2
            go_ret
            exact ⟨ret_bool hF.out.symm, rfl⟩
      · exact absurd i1 (by omega)
    · have i1 : (1 : Int) < (s.size : Int) := by omega
      by_cases hz : s.size = 0
      · have j0 : (((s.size : Nat) : Int) == 0) = true := by simp [hz]
        have hR := Lib.hid (show decL s.data.toList = false by rw [hK.out, List.eq_nil_of_length_eq_zero (by have h9 : (s).data.toList.length = (s).size := rfl; omega : (s).data.toList.length = 0)]; rfl)
        clear hz
        go_wp2
        go_ret
        exact ⟨ret_bool hR.out.symm, rfl⟩
      have j0 : (((s.size : Nat) : Int) == 0) = false := by rw [beq_eq_false_iff_ne]; omega
      by_cases hh : ∃ h : 1 < s.size, s[0]'(by omega) = 48
      · obtain ⟨h1, h2⟩ := hh
        have j1 : (1 : Int) < ((s.size : Nat) : Int) := by omega
        have hR := Lib.hid (show decL s.data.toList = false by rw [hK.out]; exact digs_head h1 h2)
        have j2 : (((s[0]'(by omega)).toNat : Int) == 48) = true := by rw [h2]; rfl
        clear h2 hz
        go_wp2
        go_ret
        exact ⟨ret_bool hR.out.symm, rfl⟩
      have hR := Lib.hid (show decL s.data.toList = s.data.toList.all digB by rw [hK.out]; exact digs_all (by omega) hh)
      have hA : (∃ h : 1 < s.size, (((s[0]'(by omega)).toNat : Int) == 48) = false) ∨ ¬ (1 < s.size) := by
        by_cases h1 : 1 < s.size
        · exact .inl ⟨h1, u8ne (n := 48) (by omega) (fun e => hh ⟨h1, e⟩)⟩
        · exact .inr h1
      clear hh hz
      rcases hA with ⟨h1, j2⟩ | h1
      · have j1 : (1 : Int) < ((s.size : Nat) : Int) := by omega
        go_wp2
        go_loopw [3] (fun i wr => ∃ k : Nat, k ≤ s.size ∧ i = .int .i64 k ∧ wr = w ∧ Hid ((s.data.toList.take k).all digB = true)) (fun i _ => s.size - (intOf i).toNat)
        case atStart => exact ⟨0, Nat.zero_le _, rfl, rfl, Lib.hid rfl⟩
        case round =>
          obtain ⟨k, hk, rfl, rfl, hall⟩ := hrel
          by_cases hlt : k < s.size
          · have hlT : k < s.size := hlt
            have hd := Lib.hid (at_data s k hlT)
            have hi1 : (k : Int) < ((s.size : Nat) : Int) := by omega
            rcases hdi : digB (s[k]'hlT) with _ | _
            · have hF := Lib.hid (show decL s.data.toList = false by rw [hR.out]; exact all_no hd.out hdi)
              have Hdi := Lib.hid hdi
              clear hdi
              go_wp2_with fail
              (with_reducible refine (rdigit_c _ _).mono ?_); rintro e w1 ⟨rfl, hw1⟩; subst hw1
              rw [Hdi.out]
              go_wp2
              go_ret
              exact ⟨ret_bool hF.out.symm, rfl⟩
            · have hn := Lib.hid (all_step hd.out hall.out hdi)
              have Hdi := Lib.hid hdi
              clear hdi
              go_wp2_with fail
              (with_reducible refine (rdigit_c _ _).mono ?_); rintro e w1 ⟨rfl, hw1⟩; subst hw1
              rw [Hdi.out]
              go_wp2
              go_roundw
              case rel => exact ⟨k + 1, by omega, by go_num, trivial, hn⟩
              case measure => simp [intOf]; omega
          · have hF := Lib.hid (show decL s.data.toList = true by rw [hR.out]; have h2 := hall.out; rwa [List.take_of_length_le (by have h9 : s.data.toList.length = s.size := rfl; omega)] at h2)
            have hi1 : ¬ ((k : Int) < ((s.size : Nat) : Int)) := by omega
            go_wp2
            go_ret
            exact ⟨ret_bool hF.out.symm, rfl⟩
      · exact absurd i1 (by omega)
    · have i1 : ¬ ((1 : Int) < (s.size : Int)) := by omega
      by_cases hz : s.size = 0
      · have j0 : (((s.size : Nat) : Int) == 0) = true := by simp [hz]
        have hR := Lib.hid (show decL s.data.toList = false by rw [hK.out, List.eq_nil_of_length_eq_zero (by have h9 : (s).data.toList.length = (s).size := rfl; omega : (s).data.toList.length = 0)]; rfl)
        clear hz
        go_wp2
        go_ret
        exact ⟨ret_bool hR.out.symm, rfl⟩
      have j0 : (((s.size : Nat) : Int) == 0) = false := by rw [beq_eq_false_iff_ne]; omega
      by_cases hh : ∃ h : 1 < s.size, s[0]'(by omega) = 48
      · exact absurd hh.1 h1
      have hR := Lib.hid (show decL s.data.toList = s.data.toList.all digB by rw [hK.out]; exact digs_all (by omega) hh)
      have hA : (∃ h : 1 < s.size, (((s[0]'(by omega)).toNat : Int) == 48) = false) ∨ ¬ (1 < s.size) := by
        by_cases h1 : 1 < s.size
        · exact .inl ⟨h1, u8ne (n := 48) (by omega) (fun e => hh ⟨h1, e⟩)⟩
        · exact .inr h1
      clear hh hz
      rcases hA with ⟨h1, j2⟩ | h1
      · exact absurd h1 (by assumption)
      · have j1 : ¬ ((1 : Int) < ((s.size : Nat) : Int)) := by omega
        go_wp2
        go_loopw [3] (fun i wr => ∃ k : Nat, k ≤ s.size ∧ i = .int .i64 k ∧ wr = w ∧ Hid ((s.data.toList.take k).all digB = true)) (fun i _ => s.size - (intOf i).toNat)
        case atStart => exact ⟨0, Nat.zero_le _, rfl, rfl, Lib.hid rfl⟩
        case round =>
          obtain ⟨k, hk, rfl, rfl, hall⟩ := hrel
          by_cases hlt : k < s.size
          · have hlT : k < s.size := hlt
            have hd := Lib.hid (at_data s k hlT)
            have hi1 : (k : Int) < ((s.size : Nat) : Int) := by omega
            rcases hdi : digB (s[k]'hlT) with _ | _
            · have hF := Lib.hid (show decL s.data.toList = false by rw [hR.out]; exact all_no hd.out hdi)
              have Hdi := Lib.hid hdi
              clear hdi
              go_wp2_with fail
              (with_reducible refine (rdigit_c _ _).mono ?_); rintro e w1 ⟨rfl, hw1⟩; subst hw1
              rw [Hdi.out]
              go_wp2
              go_ret
              exact ⟨ret_bool hF.out.symm, rfl⟩
            · have hn := Lib.hid (all_step hd.out hall.out hdi)
              have Hdi := Lib.hid hdi
              clear hdi
              go_wp2_with fail
              (with_reducible refine (rdigit_c _ _).mono ?_); rintro e w1 ⟨rfl, hw1⟩; subst hw1
              rw [Hdi.out]
              go_wp2
              go_roundw
              case rel => exact ⟨k + 1, by omega, by go_num, trivial, hn⟩
              case measure => simp [intOf]; omega
          · have hF := Lib.hid (show decL s.data.toList = true by rw [hR.out]; have h2 := hall.out; rwa [List.take_of_length_le (by have h9 : s.data.toList.length = s.size := rfl; omega)] at h2)
            have hi1 : ¬ ((k : Int) < ((s.size : Nat) : Int)) := by omega
            go_wp2
            go_ret
            exact ⟨ret_bool hF.out.symm, rfl⟩
theorem decimal_ (s : ByteArray) (w : World) (hs : s.size ≤ 1099511627776) :
    Calls Tryd.prog 35 #[.string s] w fun e w' => e = .returned (.bool (decL s.data.toList)) ∧ Below w.heap.size w w' := by
  refine (decimal_q s w hs).mono ?_
  rintro e w' ⟨rfl, rfl⟩
  exact ⟨rfl, Below.refl _ _⟩
end Go.Proofs.YtljmidaapgppfaaDoor
