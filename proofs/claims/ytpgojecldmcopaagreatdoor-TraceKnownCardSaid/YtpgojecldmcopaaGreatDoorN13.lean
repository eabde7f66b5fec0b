/- words: Name, decimal, Int of the reference. No condition. words: decimal of the reference. No condition. words: Int of the reference. No condition. -/
import Derived.Test.YtpgojecldmcopaaGreatDoorN9
import Derived.Deep.DeepCutAuto
namespace Go.Proofs.YtpgojecldmcopaaGreatDoor
open Go.RowKit
theorem rdigit_c (c : UInt8) (w : World) : Calls Tryz.prog 62 #[.int .u8 (c.toNat : Int)] w fun e w' => e = .returned (.bool (digB c)) ∧ w' = w := by
  by_cases h1 : 48 ≤ c.toNat
  · by_cases h2 : c.toNat ≤ 57
    · have hR := Lib.hid (show digB c = true by simp [digB, h1, h2])
      have i1 : (48 : Int) ≤ (c.toNat : Int) := by omega
      have i2 : (c.toNat : Int) ≤ 57 := by omega
      clear h1 h2
      go_enter Tryz.func62, Tryz.ntmps62
      go_wp2
      go_ret
      exact ⟨ret_bool hR.out.symm, rfl⟩
    · have hR := Lib.hid (show digB c = false by simp [digB]; omega)
      have i1 : (48 : Int) ≤ (c.toNat : Int) := by omega
      have i2 : ¬ ((c.toNat : Int) ≤ 57) := by omega
      clear h1 h2
      go_enter Tryz.func62, Tryz.ntmps62
      go_wp2
      go_ret
      exact ⟨ret_bool hR.out.symm, rfl⟩
  · have hR := Lib.hid (show digB c = false by simp [digB]; omega)
    have i1 : ¬ ((48 : Int) ≤ (c.toNat : Int)) := by omega
    clear h1
    go_enter Tryz.func62, Tryz.ntmps62
    go_wp2
    go_ret
    exact ⟨ret_bool hR.out.symm, rfl⟩
theorem all_step {p : UInt8 → Bool} {l : List UInt8} {k : Nat} {c : UInt8} (hk : l[k]? = some c) (h : (l.take k).all p = true) (hc : p c = true) : (l.take (k + 1)).all p = true := by
  rw [List.take_add_one, hk, List.all_append, h]; simp [hc]
theorem all_no {p : UInt8 → Bool} {l : List UInt8} {k : Nat} {c : UInt8} (hk : l[k]? = some c) (hc : p c = false) : l.all p = false := by
  rw [List.all_eq_false]; exact ⟨c, List.mem_of_getElem? hk, by rw [hc]; decide⟩
theorem nameC_of {c : UInt8} {a b d : Bool} (ha : lowB c = a) (hb : digB c = b) (hd : (c == 45) = d) : nameC c = (a || b || d) := by unfold nameC; rw [ha, hb, hd]
theorem eq45 (c : UInt8) : (c == 45) = ((c.toNat : Int) == 45) := by
  rw [Bool.eq_iff_iff]
  simp only [beq_iff_eq]
  constructor
  · intro h; rw [h]; rfl
  · intro h; exact UInt8.toNat_inj.1 (by have : (45 : UInt8).toNat = 45 := rfl; omega)
end Go.Proofs.YtpgojecldmcopaaGreatDoor
namespace Go.Proofs.YtpgojecldmcopaaGreatDoor
open Go.RowKit
theorem dec_strip {x : UInt8} {r : List UInt8} (h : x ≠ 48) : decL (45 :: x :: r) = digsL (x :: r) := by
  show (digsL (x :: r) && !(x == 48)) = _
  have : (x == 48) = false := by simpa using h
  rw [this]; simp
theorem dec_keep {l : List UInt8} (h : ∀ x r, l = 45 :: x :: r → x = 48) : decL l = digsL l := by
  unfold decL
  split
  · rename_i x r
    have := h x r rfl
    subst this
    have h2 : digsL (45 :: 48 :: r) = false := by
      unfold digsL
      have : (45 :: 48 :: r : List UInt8).all digB = false := by simp [digB]
      rw [this]; rfl
    rw [h2]; simp
  · rfl
theorem digs_head {T : ByteArray} (h : 1 < T.size) (h0 : T[0]'(by omega) = 48) : digsL T.data.toList = false := by
  obtain ⟨r, hr⟩ := data_cons T (by omega)
  have hl : T.data.toList.length = T.size := by simp
  rw [hr, h0]
  cases r with
  | nil => rw [hr] at hl; simp at hl; omega
  | cons y t => simp [digsL]
theorem digs_all {T : ByteArray} (h0 : T.size ≠ 0) (h : ¬ ∃ h : 1 < T.size, T[0]'(by omega) = 48) : digsL T.data.toList = T.data.toList.all digB := by
  obtain ⟨r, hr⟩ := data_cons T (by omega)
  have hl : T.data.toList.length = T.size := by simp
  rw [hr]
  cases r with
  | nil => simp [digsL]
  | cons y t =>
    have h2 : T[0]'(by omega) ≠ 48 := fun e => h ⟨by rw [hr] at hl; simp at hl; omega, e⟩
    have h3 : (T[0]'(by omega) == 48) = false := by simpa using h2
    show ((T[0] :: y :: t).all digB && !(T[0] == 48)) = _
    rw [h3]; simp
theorem ext_one (s : ByteArray) {x : UInt8} {r : List UInt8} (h : s.data.toList = 45 :: x :: r) : (s.extract 1 s.size).data.toList = x :: r := by
  rw [ext_from, h]; rfl
theorem data_two (s : ByteArray) (h : 1 < s.size) : ∃ r, s.data.toList = s[0] :: s[1] :: r := by
  have hl : 1 < s.data.toList.length := by simpa using h
  refine ⟨s.data.toList.drop 2, ?_⟩
  have h1 := List.drop_eq_getElem_cons (l := s.data.toList) (i := 0) (by omega)
  have h2 := List.drop_eq_getElem_cons (l := s.data.toList) (i := 1) hl
  rw [List.drop_zero] at h1
  rw [h2] at h1
  exact h1
theorem u8ne {c : UInt8} {n : Nat} (hn : n < 256) (h : c ≠ UInt8.ofNat n) : ((c.toNat : Int) == (n : Int)) = false := by
  rw [beq_eq_false_iff_ne]
  intro e
  refine h (UInt8.toNat_inj.1 ?_)
  have : (UInt8.ofNat n).toNat = n := by simp; omega
  omega
set_option maxRecDepth 100000 in
set_option maxHeartbeats 1000000 in
theorem decimal_q (s : ByteArray) (w : World) (hs : s.size ≤ 1099511627776) :
    Calls Tryz.prog 53 #[.string s] w fun e w' => e = .returned (.bool (decL s.data.toList)) ∧ w' = w := by
  have hl : s.data.toList.length = s.size := by simp
  have Hl := Lib.hid hl
  clear hl
  go_enter Tryz.func53, Tryz.ntmps53
  by_cases hst : ∃ h : 1 < s.size, s[0] = 45 ∧ s[1] ≠ 48
  · obtain ⟨h1, h45, h48⟩ := hst
    have i1 : (1 : Int) < (s.size : Int) := by omega
    obtain ⟨r, hr⟩ := data_two s h1
    have i2 : ((s[0].toNat : Int) == 45) = true := by rw [h45]; rfl
    have i3 : ((s[1].toNat : Int) != 48) = true := by unfold bne; rw [show ((s[1].toNat : Int) == 48) = false from u8ne (n := 48) (by omega) h48]; rfl
    have hK := Lib.hid (show decL s.data.toList = digsL (s.extract 1 s.size).data.toList by
      have hr2 : s.data.toList = (45 : UInt8) :: s[1] :: r := by rw [hr, h45]
      rw [ext_one s hr2, hr2]; exact dec_strip h48)
    clear hr h45 h48
    have hTZ : (s.extract 1 s.size).size = (s.size - 1) := by rw [ByteArray.size_extract]; omega
    by_cases hz : (s.size - 1) = 0
    · have j0 : ((((s.size - 1) : Nat) : Int) == 0) = true := by simp [hz]
      have hR := Lib.hid (show decL s.data.toList = false by rw [hK.out, List.eq_nil_of_length_eq_zero (by have h9 : (s.extract 1 s.size).data.toList.length = (s.extract 1 s.size).size := rfl; omega : (s.extract 1 s.size).data.toList.length = 0)]; rfl)
      clear hz
      go_wp2
      go_ret
      exact ⟨ret_bool hR.out.symm, rfl⟩
    have j0 : ((((s.size - 1) : Nat) : Int) == 0) = false := by rw [beq_eq_false_iff_ne]; omega
    by_cases hh : ∃ h : 1 < (s.extract 1 s.size).size, (s.extract 1 s.size)[0]'(by omega) = 48
    · obtain ⟨h1, h2⟩ := hh
      have j1 : (1 : Int) < (((s.size - 1) : Nat) : Int) := by omega
      have hR := Lib.hid (show decL s.data.toList = false by rw [hK.out]; exact digs_head h1 h2)
      have j2 : ((((s.extract 1 s.size)[0]'(by omega)).toNat : Int) == 48) = true := by rw [h2]; rfl
      clear h2 hz
      go_wp2
      go_ret
      exact ⟨ret_bool hR.out.symm, rfl⟩
    have hR := Lib.hid (show decL s.data.toList = (s.extract 1 s.size).data.toList.all digB by rw [hK.out]; exact digs_all (by omega) hh)
    have hA : (∃ h : 1 < (s.extract 1 s.size).size, ((((s.extract 1 s.size)[0]'(by omega)).toNat : Int) == 48) = false) ∨ ¬ (1 < (s.extract 1 s.size).size) := by
      by_cases h1 : 1 < (s.extract 1 s.size).size
      · exact .inl ⟨h1, u8ne (n := 48) (by omega) (fun e => hh ⟨h1, e⟩)⟩
      · exact .inr h1
    clear hh hz
    have HTZ := Lib.hid hTZ
    rcases hA with ⟨h1, j2⟩ | h1
    · have j1 : (1 : Int) < (((s.size - 1) : Nat) : Int) := by omega
      go_wp2
      go_loopw [3] (fun i wr => ∃ k : Nat, k ≤ (s.size - 1) ∧ i = .int .i64 k ∧ wr = w ∧ Hid (((s.extract 1 s.size).data.toList.take k).all digB = true)) (fun i _ => (s.size - 1) - (intOf i).toNat)
      case atStart => exact ⟨0, Nat.zero_le _, rfl, rfl, Lib.hid rfl⟩
      case round =>
        obtain ⟨k, hk, rfl, rfl, hall⟩ := hrel
        by_cases hlt : k < (s.size - 1)
        · have hlT : k < (s.extract 1 s.size).size := by rw [HTZ.out]; exact hlt
          have hd := Lib.hid (at_data (s.extract 1 s.size) k hlT)
          have hi1 : (k : Int) < (((s.size - 1) : Nat) : Int) := by omega
          rcases hdi : digB ((s.extract 1 s.size)[k]'hlT) with _ | _
          · have hF := Lib.hid (show decL s.data.toList = false by rw [hR.out]; exact all_no hd.out hdi)
            have Hdi := Lib.hid hdi
            clear hdi
            go_wp2_with fail
            (with_reducible refine (rdigit_c _ _).mono ?_); rintro e w1 ⟨rfl, hw1⟩; subst hw1
            rw [Hdi.out]
            go_wp2
            go_ret
            exact ⟨ret_bool hF.out.symm, rfl⟩
          · have hn := Lib.hid (all_step hd.out hall.out hdi)
            have Hdi := Lib.hid hdi
            clear hdi
            go_wp2_with fail
            (with_reducible refine (rdigit_c _ _).mono ?_); rintro e w1 ⟨rfl, hw1⟩; subst hw1
            rw [Hdi.out]
            go_wp2
            go_roundw
            case rel => exact ⟨k + 1, by omega, by go_num, trivial, hn⟩
            case measure => simp [intOf]; omega
        · have hF := Lib.hid (show decL s.data.toList = true by rw [hR.out]; have h2 := hall.out; rwa [List.take_of_length_le (by have h9 : (s.extract 1 s.size).data.toList.length = (s.extract 1 s.size).size := rfl; have := HTZ.out; omega)] at h2)
          have hi1 : ¬ ((k : Int) < (((s.size - 1) : Nat) : Int)) := by omega
          go_wp2
          go_ret
          exact ⟨ret_bool hF.out.symm, rfl⟩
    · have j1 : ¬ ((1 : Int) < (((s.size - 1) : Nat) : Int)) := by omega
      go_wp2
      go_loopw [3] (fun i wr => ∃ k : Nat, k ≤ (s.size - 1) ∧ i = .int .i64 k ∧ wr = w ∧ Hid (((s.extract 1 s.size).data.toList.take k).all digB = true)) (fun i _ => (s.size - 1) - (intOf i).toNat)
      case atStart => exact ⟨0, Nat.zero_le _, rfl, rfl, Lib.hid rfl⟩
      case round =>
        obtain ⟨k, hk, rfl, rfl, hall⟩ := hrel
        by_cases hlt : k < (s.size - 1)
        · have hlT : k < (s.extract 1 s.size).size := by rw [HTZ.out]; exact hlt
          have hd := Lib.hid (at_data (s.extract 1 s.size) k hlT)
          have hi1 : (k : Int) < (((s.size - 1) : Nat) : Int) := by omega
          rcases hdi : digB ((s.extract 1 s.size)[k]'hlT) with _ | _
          · have hF := Lib.hid (show decL s.data.toList = false by rw [hR.out]; exact all_no hd.out hdi)
            have Hdi := Lib.hid hdi
            clear hdi
            go_wp2_with fail
            (with_reducible refine (rdigit_c _ _).mono ?_); rintro e w1 ⟨rfl, hw1⟩; subst hw1
            rw [Hdi.out]
            go_wp2
            go_ret
            exact ⟨ret_bool hF.out.symm, rfl⟩
          · have hn := Lib.hid (all_step hd.out hall.out hdi)
            have Hdi := Lib.hid hdi
            clear hdi
            go_wp2_with fail
            (with_reducible refine (rdigit_c _ _).mono ?_); rintro e w1 ⟨rfl, hw1⟩; subst hw1
            rw [Hdi.out]
            go_wp2
            go_roundw
            case rel => exact ⟨k + 1, by omega, by go_num, trivial, hn⟩
            case measure => simp [intOf]; omega
        · have hF := Lib.hid (show decL s.data.toList = true by rw [hR.out]; have h2 := hall.out; rwa [List.take_of_length_le (by have h9 : (s.extract 1 s.size).data.toList.length = (s.extract 1 s.size).size := rfl; have := HTZ.out; omega)] at h2)
          have hi1 : ¬ ((k : Int) < (((s.size - 1) : Nat) : Int)) := by omega
          go_wp2
          go_ret
          exact ⟨ret_bool hF.out.symm, rfl⟩
  · have hns : (∃ h : 1 < s.size, ((s[0].toNat : Int) == 45) = true ∧ ((s[1].toNat : Int) != 48) = false) ∨ (∃ h : 1 < s.size, ((s[0].toNat : Int) == 45) = false) ∨ ¬ (1 < s.size) := by
      by_cases h1 : 1 < s.size
      · by_cases h45 : s[0] = 45
        · have h48 : s[1] = 48 := Classical.byContradiction fun e => hst ⟨h1, h45, e⟩
          exact .inl ⟨h1, by rw [h45]; rfl, by rw [h48]; rfl⟩
        · exact .inr (.inl ⟨h1, u8ne (n := 45) (by omega) h45⟩)
      · exact .inr (.inr h1)
    have hK := Lib.hid (dec_keep (l := s.data.toList) (fun x t e => by
      have hl2 : 1 < s.size := by have := Hl.out; rw [e] at this; simp at this; omega
      obtain ⟨r, hr⟩ := data_two s hl2
      rw [hr] at e
      injection e with e1 e
      injection e with e2 _
      rw [← e2]
      exact Classical.byContradiction fun e3 => hst ⟨hl2, e1, e3⟩))
    clear hst
    rcases hns with ⟨h1, i2, i3⟩ | ⟨h1, i2⟩ | h1
    · have i1 : (1 : Int) < (s.size : Int) := by omega
      by_cases hz : s.size = 0
      · have j0 : (((s.size : Nat) : Int) == 0) = true := by simp [hz]
        have hR := Lib.hid (show decL s.data.toList = false by rw [hK.out, List.eq_nil_of_length_eq_zero (by have h9 : (s).data.toList.length = (s).size := rfl; omega : (s).data.toList.length = 0)]; rfl)
        clear hz
        go_wp2
        go_ret
        exact ⟨ret_bool hR.out.symm, rfl⟩
      have j0 : (((s.size : Nat) : Int) == 0) = false := by rw [beq_eq_false_iff_ne]; omega
      by_cases hh : ∃ h : 1 < s.size, s[0]'(by omega) = 48
      · obtain ⟨h1, h2⟩ := hh
        have j1 : (1 : Int) < ((s.size : Nat) : Int) := by omega
        have hR := Lib.hid (show decL s.data.toList = false by rw [hK.out]; exact digs_head h1 h2)
        have j2 : (((s[0]'(by omega)).toNat : Int) == 48) = true := by rw [h2]; rfl
        clear h2 hz
        go_wp2
        go_ret
        exact ⟨ret_bool hR.out.symm, rfl⟩
      have hR := Lib.hid (show decL s.data.toList = s.data.toList.all digB by rw [hK.out]; exact digs_all (by omega) hh)
      have hA : (∃ h : 1 < s.size, (((s[0]'(by omega)).toNat : Int) == 48) = false) ∨ ¬ (1 < s.size) := by
        by_cases h1 : 1 < s.size
        · exact .inl ⟨h1, u8ne (n := 48) (by omega) (fun e => hh ⟨h1, e⟩)⟩
        · exact .inr h1
      clear hh hz
      rcases hA with ⟨h1, j2⟩ | h1
      · have j1 : (1 : Int) < ((s.size : Nat) : Int) := by omega
        go_wp2
        go_loopw [3] (fun i wr => ∃ k : Nat, k ≤ s.size ∧ i = .int .i64 k ∧ wr = w ∧ Hid ((s.data.toList.take k).all digB = true)) (fun i _ => s.size - (intOf i).toNat)
        case atStart => exact ⟨0, Nat.zero_le _, rfl, rfl, Lib.hid rfl⟩
        case round =>
          obtain ⟨k, hk, rfl, rfl, hall⟩ := hrel
          by_cases hlt : k < s.size
          · have hlT : k < s.size := hlt
            have hd := Lib.hid (at_data s k hlT)
            have hi1 : (k : Int) < ((s.size : Nat) : Int) := by omega
            rcases hdi : digB (s[k]'hlT) with _ | _
            · have hF := Lib.hid (show decL s.data.toList = false by rw [hR.out]; exact all_no hd.out hdi)
              have Hdi := Lib.hid hdi
              clear hdi
              go_wp2_with fail
              (with_reducible refine (rdigit_c _ _).mono ?_); rintro e w1 ⟨rfl, hw1⟩; subst hw1
              rw [Hdi.out]
              go_wp2
              go_ret
              exact ⟨ret_bool hF.out.symm, rfl⟩
            · have hn := Lib.hid (all_step hd.out hall.out hdi)
              have Hdi := Lib.hid hdi
              clear hdi
              go_wp2_with fail
              (with_reducible refine (rdigit_c _ _).mono ?_); rintro e w1 ⟨rfl, hw1⟩; subst hw1
              rw [Hdi.out]
              go_wp2
              go_roundw
              case rel => exact ⟨k + 1, by omega, by go_num, trivial, hn⟩
              case measure => simp [intOf]; omega
          · have hF := Lib.hid (show decL s.data.toList = true by rw [hR.out]; have h2 := hall.out; rwa [List.take_of_length_le (by have h9 : s.data.toList.length = s.size := rfl; omega)] at h2)
            have hi1 : ¬ ((k : Int) < ((s.size : Nat) : Int)) := by omega
            go_wp2
            go_ret
            exact ⟨ret_bool hF.out.symm, rfl⟩
      · exact absurd i1 (by omega)
    · have i1 : (1 : Int) < (s.size : Int) := by omega
      by_cases hz : s.size = 0
      · have j0 : (((s.size : Nat) : Int) == 0) = true := by simp [hz]
        have hR := Lib.hid (show decL s.data.toList = false by rw [hK.out, List.eq_nil_of_length_eq_zero (by have h9 : (s).data.toList.length = (s).size := rfl; omega : (s).data.toList.length = 0)]; rfl)
        clear hz
        go_wp2
        go_ret
        exact ⟨ret_bool hR.out.symm, rfl⟩
      have j0 : (((s.size : Nat) : Int) == 0) = false := by rw [beq_eq_false_iff_ne]; omega
      by_cases hh : ∃ h : 1 < s.size, s[0]'(by omega) = 48
      · obtain ⟨h1, h2⟩ := hh
        have j1 : (1 : Int) < ((s.size : Nat) : Int) := by omega
        have hR := Lib.hid (show decL s.data.toList = false by rw [hK.out]; exact digs_head h1 h2)
        have j2 : (((s[0]'(by omega)).toNat : Int) == 48) = true := by rw [h2]; rfl
        clear h2 hz
        go_wp2
        go_ret
        exact ⟨ret_bool hR.out.symm, rfl⟩
      have hR := Lib.hid (show decL s.data.toList = s.data.toList.all digB by rw [hK.out]; exact digs_all (by omega) hh)
      have hA : (∃ h : 1 < s.size, (((s[0]'(by omega)).toNat : Int) == 48) = false) ∨ ¬ (1 < s.size) := by
        by_cases h1 : 1 < s.size
        · exact .inl ⟨h1, u8ne (n := 48) (by omega) (fun e => hh ⟨h1, e⟩)⟩
        · exact .inr h1
      clear hh hz
      rcases hA with ⟨h1, j2⟩ | h1
      · have j1 : (1 : Int) < ((s.size : Nat) : Int) := by omega
        go_wp2
        go_loopw [3] (fun i wr => ∃ k : Nat, k ≤ s.size ∧ i = .int .i64 k ∧ wr = w ∧ Hid ((s.data.toList.take k).all digB = true)) (fun i _ => s.size - (intOf i).toNat)
        case atStart => exact ⟨0, Nat.zero_le _, rfl, rfl, Lib.hid rfl⟩
        case round =>
          obtain ⟨k, hk, rfl, rfl, hall⟩ := hrel
          by_cases hlt : k < s.size
          · have hlT : k < s.size := hlt
            have hd := Lib.hid (at_data s k hlT)
            have hi1 : (k : Int) < ((s.size : Nat) : Int) := by omega
            rcases hdi : digB (s[k]'hlT) with _ | _
            · have hF := Lib.hid (show decL s.data.toList = false by rw [hR.out]; exact all_no hd.out hdi)
              have Hdi := Lib.hid hdi
              clear hdi
              go_wp2_with fail
              (with_reducible refine (rdigit_c _ _).mono ?_); rintro e w1 ⟨rfl, hw1⟩; subst hw1
              rw [Hdi.out]
              go_wp2
              go_ret
              exact ⟨ret_bool hF.out.symm, rfl⟩
            · have hn := Lib.hid (all_step hd.out hall.out hdi)
              have Hdi := Lib.hid hdi
              clear hdi
              go_wp2_with fail
              (with_reducible refine (rdigit_c _ _).mono ?_); rintro e w1 ⟨rfl, hw1⟩; subst hw1
              rw [Hdi.out]
              go_wp2
              go_roundw
              case rel => exact ⟨k + 1, by omega, by go_num, trivial, hn⟩
              case measure => simp [intOf]; omega
          · have hF := Lib.hid (show decL s.data.toList = true by rw [hR.out]; have h2 := hall.out; rwa [List.take_of_length_le (by have h9 : s.data.toList.length = s.size := rfl; omega)] at h2)
            have hi1 : ¬ ((k : Int) < ((s.size : Nat) : Int)) := by omega
            go_wp2
            go_ret
            exact ⟨ret_bool hF.out.symm, rfl⟩
      · exact absurd i1 (by omega)
    · have i1 : ¬ ((1 : Int) < (s.size : Int)) := by omega
      by_cases hz : s.size = 0
      · have j0 : (((s.size : Nat) : Int) == 0) = true := by simp [hz]
        have hR := Lib.hid (show decL s.data.toList = false by rw [hK.out, List.eq_nil_of_length_eq_zero (by have h9 : (s).data.toList.length = (s).size := rfl; omega : (s).data.toList.length = 0)]; rfl)
        clear hz
        go_wp2
        go_ret
        exact ⟨ret_bool hR.out.symm, rfl⟩
      have j0 : (((s.size : Nat) : Int) == 0) = false := by rw [beq_eq_false_iff_ne]; omega
      by_cases hh : ∃ h : 1 < s.size, s[0]'(by omega) = 48
      · exact absurd hh.1 h1
      have hR := Lib.hid (show decL s.data.toList = s.data.toList.all digB by rw [hK.out]; exact digs_all (by omega) hh)
      have hA : (∃ h : 1 < s.size, (((s[0]'(by omega)).toNat : Int) == 48) = false) ∨ ¬ (1 < s.size) := by
        by_cases h1 : 1 < s.size
        · exact .inl ⟨h1, u8ne (n := 48) (by omega) (fun e => hh ⟨h1, e⟩)⟩
        · exact .inr h1
      clear hh hz
      rcases hA with ⟨h1, j2⟩ | h1
      · exact absurd h1 (by assumption)
      · have j1 : ¬ ((1 : Int) < ((s.size : Nat) : Int)) := by omega
        go_wp2
        go_loopw [3] (fun i wr => ∃ k : Nat, k ≤ s.size ∧ i = .int .i64 k ∧ wr = w ∧ Hid ((s.data.toList.take k).all digB = true)) (fun i _ => s.size - (intOf i).toNat)
        case atStart => exact ⟨0, Nat.zero_le _, rfl, rfl, Lib.hid rfl⟩
        case round =>
          obtain ⟨k, hk, rfl, rfl, hall⟩ := hrel
          by_cases hlt : k < s.size
          · have hlT : k < s.size := hlt
            have hd := Lib.hid (at_data s k hlT)
            have hi1 : (k : Int) < ((s.size : Nat) : Int) := by omega
            rcases hdi : digB (s[k]'hlT) with _ | _
            · have hF := Lib.hid (show decL s.data.toList = false by rw [hR.out]; exact all_no hd.out hdi)
              have Hdi := Lib.hid hdi
              clear hdi
              go_wp2_with fail
              (with_reducible refine (rdigit_c _ _).mono ?_); rintro e w1 ⟨rfl, hw1⟩; subst hw1
              rw [Hdi.out]
              go_wp2
              go_ret
              exact ⟨ret_bool hF.out.symm, rfl⟩
            · have hn := Lib.hid (all_step hd.out hall.out hdi)
              have Hdi := Lib.hid hdi
              clear hdi
              go_wp2_with fail
              (with_reducible refine (rdigit_c _ _).mono ?_); rintro e w1 ⟨rfl, hw1⟩; subst hw1
              rw [Hdi.out]
              go_wp2
              go_roundw
              case rel => exact ⟨k + 1, by omega, by go_num, trivial, hn⟩
              case measure => simp [intOf]; omega
          · have hF := Lib.hid (show decL s.data.toList = true by rw [hR.out]; have h2 := hall.out; rwa [List.take_of_length_le (by have h9 : s.data.toList.length = s.size := rfl; omega)] at h2)
            have hi1 : ¬ ((k : Int) < ((s.size : Nat) : Int)) := by omega
            go_wp2
            go_ret
            exact ⟨ret_bool hF.out.symm, rfl⟩
theorem decimal_ (s : ByteArray) (w : World) (hs : s.size ≤ 1099511627776) :
    Calls Tryz.prog 53 #[.string s] w fun e w' => e = .returned (.bool (decL s.data.toList)) ∧ Below w.heap.size w w' := by
  refine (decimal_q s w hs).mono ?_
  rintro e w' ⟨rfl, rfl⟩
  exact ⟨rfl, Below.refl _ _⟩
end Go.Proofs.YtpgojecldmcopaaGreatDoor
namespace Go.Proofs.YtpgojecldmcopaaGreatDoor
open Go.RowKit
theorem tdq (d : Nat) (hd : d ≤ 9) : Int.tdiv (-9223372036854775808 + (d : Int)) 10 = if d = 9 then -922337203685477579 else -922337203685477580 := by
  obtain rfl | rfl | rfl | rfl | rfl | rfl | rfl | rfl | rfl | rfl : d = 0 ∨ d = 1 ∨ d = 2 ∨ d = 3 ∨ d = 4 ∨ d = 5 ∨ d = 6 ∨ d = 7 ∨ d = 8 ∨ d = 9 := by omega
  all_goals rfl
theorem ov_iff (X d : Nat) (hd : d ≤ 9) : -(X : Int) < Int.tdiv (-9223372036854775808 + (d : Int)) 10 ↔ 9223372036854775808 < 10 * X + d := by
  rw [tdq d hd]
  split <;> omega
theorem headI (s : ByteArray) (h : 0 < s.size) : s.data.toList.head? = some s[0] := by
  obtain ⟨r, hr⟩ := data_cons s h
  rw [hr]; rfl
theorem dec_pos {s : ByteArray} (h : decL s.data.toList = true) : 0 < s.size := by
  rcases Nat.eq_zero_or_pos s.size with hz | hz
  · rw [List.eq_nil_of_length_eq_zero (by simpa using hz : s.data.toList.length = 0)] at h
    exact absurd h (by decide)
  · exact hz
set_option maxRecDepth 100000 in
set_option maxHeartbeats 2000000 in
theorem rint_ (s : ByteArray) (low high : Int) (w : World) (hs : s.size ≤ 1099511627776) :
    Calls Tryz.prog 36 #[.string s, .int .i64 low, .int .i64 high] w fun e w' => e = .returned (.tuple #[.int .i64 (intR s.data.toList low high).1, .int .i64 (intR s.data.toList low high).2]) ∧ Below w.heap.size w w' := by
  rcases hd : decL s.data.toList with _ | _
  · have hR := Lib.hid (show intR s.data.toList low high = (0, 6) by unfold intR; rw [if_pos hd])
    have Hd := Lib.hid hd
    clear hd
    go_enter Tryz.func36, Tryz.ntmps36
    go_wp2_with fail
    (with_reducible refine (decimal_ s _ hs).mono ?_); rintro e w1 ⟨rfl, hb1⟩
    rw [Hd.out]
    go_wp2
    go_ret2
    exact ⟨ret_ie (by rw [hR.out]) (by rw [hR.out]), hb1⟩
  have hI : intR s.data.toList low high = if intL s.data.toList < -9223372036854775808 ∨ 9223372036854775807 < intL s.data.toList ∨ intL s.data.toList < low ∨ high < intL s.data.toList then (0, 7) else (intL s.data.toList, 0) := by unfold intR; rw [if_neg (by simp [hd])]
  have h0 := dec_pos hd
  have hab := int_abs hd
  rw [headI s h0] at hab
  have Hdec := Lib.hid hd
  have HI := Lib.hid hI
  obtain ⟨B, hB⟩ : ∃ B, B = ((s[0].toNat : Int) == 45) := ⟨_, rfl⟩
  have hab2 : intL s.data.toList = if B = true then -(absF s.data.toList : Int) else absF s.data.toList := by
    rw [hab]
    by_cases e : s[0] = 45
    · rw [if_pos (by rw [e]), if_pos (by rw [hB, e]; rfl)]
    · rw [if_neg (by simpa using e), if_neg (by rw [hB, show ((s[0].toNat : Int) == 45) = false from u8ne (n := 45) (by omega) e]; simp)]
  have Hab := Lib.hid hab2
  have HB := Lib.hid hB
  clear hab hab2 hI hd hB
  have i00 : (0 : Int) < (s.size : Int) := by omega
  go_enter Tryz.func36, Tryz.ntmps36
  go_wp2_with fail
  (with_reducible refine (decimal_ s _ hs).mono ?_); rintro e w1 ⟨rfl, hb1⟩
  rw [Hdec.out]
  go_wp2
  rw [← HB.out]
  go_loopw [9, 10] (fun v i wr => ∃ k : Nat, k ≤ s.size ∧ i = .int .i64 k ∧ v = .int .i64 (-(absF (s.data.toList.take k) : Int)) ∧ absF (s.data.toList.take k) ≤ 9223372036854775808 ∧ wr = w1) (fun _ i _ => s.size - (intOf i).toNat)
  case atStart => exact ⟨0, Nat.zero_le _, rfl, rfl, by simp [absF_nil], rfl⟩
  case round =>
    obtain ⟨k, hk, rfl, rfl, hX, rfl⟩ := hrel
    by_cases hlt : k < s.size
    · have hdt := at_data s k hlt
      have hi1 : (k : Int) < (s.size : Int) := by omega
      have htk : s.data.toList.take (k + 1) = s.data.toList.take k ++ [s[k]] := by rw [List.take_add_one, hdt]; rfl
      obtain ⟨X, hXX⟩ : ∃ X, X = absF (s.data.toList.take k) := ⟨_, rfl⟩
      rw [← hXX] at hX ⊢
      by_cases h45 : s[k] = 45
      · have j1 : ((s[k].toNat : Int) == 45) = true := by rw [h45]; rfl
        have hX2 := Lib.hid (show absF (s.data.toList.take (k + 1)) = X by rw [htk, h45, absF_minus, hXX])
        clear hdt htk hXX h45
        go_wp2
        go_roundw
        case rel => exact ⟨k + 1, by omega, by go_num, by rw [hX2.out], by rw [hX2.out]; exact hX, trivial⟩
        case measure => simp [intOf]; omega
      · have j1 : ((s[k].toNat : Int) == 45) = false := u8ne (n := 45) (by omega) h45
        have hdg : digB s[k] = true := by
          rcases dec_at Hdec.out hdt with ⟨_, e⟩ | e
          · exact absurd e h45
          · exact e
        have hdr := (digB_iff s[k]).1 hdg
        have hX2 : absF (s.data.toList.take (k + 1)) = 10 * X + (s[k].toNat - 48) := by rw [htk, absF_dig _ _ h45, hXX]
        obtain ⟨d, hd⟩ : ∃ d : Nat, d = s[k].toNat - 48 := ⟨_, rfl⟩
        have hd9 : d ≤ 9 := by omega
        have hcd : (s[k].toNat : Int) = (d : Int) + 48 := by omega
        have hto := Lib.hid (absF_take s.data.toList (k + 1))
        rw [← hd] at hX2
        have HX2 := Lib.hid hX2
        have e1 : (s[k].toNat : Int) - 48 = (d : Int) := by omega
        have q1 : IntKind.u8.wrap ((s[k].toNat : Int) - 48) = (d : Int) := by rw [e1]; exact IntWalk.u8_in _ (by omega)
        have q2 : IntKind.i64.wrap (-9223372036854775808 + (d : Int)) = -9223372036854775808 + (d : Int) := IntWalk.i64_in _ (by omega)
        have hiff := ov_iff X d hd9
        clear hdt htk hXX h45 hdg hX2
        by_cases hov : 9223372036854775808 < 10 * X + d
        · have hlt2 := hiff.2 hov
          have hR := Lib.hid (show intR s.data.toList low high = (0, 7) by
            rw [HI.out, Hab.out, if_pos]
            have h1 := hto.out
            rw [HX2.out] at h1
            cases B <;> simp <;> omega)
          clear hiff hov hcd hdr hd
          go_wp2
          go_ret2
          exact ⟨ret_ie (by rw [hR.out]) (by rw [hR.out]), hb1⟩
        · have hlt2 : ¬ (-(X : Int) < Int.tdiv (-9223372036854775808 + (d : Int)) 10) := fun e => hov (hiff.1 e)
          have q3 : IntKind.i64.wrap (10 * -(X : Int)) = 10 * -(X : Int) := IntWalk.i64_in _ (by omega)
          have q4 : IntKind.i64.wrap (10 * -(X : Int) - (d : Int)) = 10 * -(X : Int) - (d : Int) := IntWalk.i64_in _ (by omega)
          clear hiff hcd hdr hd
          go_wp2
          go_roundw
          case rel => exact ⟨k + 1, by omega, by go_num, by rw [HX2.out]; congr 1; omega, by rw [HX2.out]; omega, trivial⟩
          case measure => simp [intOf]; omega
    · have hi1 : ¬ ((k : Int) < (s.size : Int)) := by omega
      have htk : s.data.toList.take k = s.data.toList := List.take_of_length_le (by simp; omega)
      rw [htk] at hX ⊢
      obtain ⟨N, hN⟩ : ∃ N, N = absF s.data.toList := ⟨_, rfl⟩
      rw [← hN] at Hab hX ⊢
      have HI2 := HI.out
      rw [Hab.out] at HI2
      have HI3 := Lib.hid HI2
      clear htk HI2 hN
      cases B
      case false =>
        by_cases hm : N = 9223372036854775808
        · have hR := Lib.hid (show intR s.data.toList low high = (0, 7) by rw [HI3.out, if_pos]; simp; omega)
          have j1 : ((-(N : Int)) == -9223372036854775808) = true := by rw [hm]; rfl
          clear hm
          go_wp2
          go_ret2
          exact ⟨ret_ie (by rw [hR.out]) (by rw [hR.out]), hb1⟩
        · have j1 : ((-(N : Int)) == -9223372036854775808) = false := by rw [beq_eq_false_iff_ne]; omega
          have q5 : IntKind.i64.wrap (- -(N : Int)) = (N : Int) := by rw [Int.neg_neg]; exact IntWalk.i64_in _ (by omega)
          have q6 : IntKind.i64.wrap (N : Int) = (N : Int) := IntWalk.i64_in _ (by omega)
          by_cases hlo : (N : Int) < low
          · have hR := Lib.hid (show intR s.data.toList low high = (0, 7) by rw [HI3.out, if_pos]; simp; omega)
            go_wp2
            go_ret2
            exact ⟨ret_ie (by rw [hR.out]) (by rw [hR.out]), hb1⟩
          by_cases hhi : high < (N : Int)
          · have hR := Lib.hid (show intR s.data.toList low high = (0, 7) by rw [HI3.out, if_pos]; simp; omega)
            go_wp2
            go_ret2
            exact ⟨ret_ie (by rw [hR.out]) (by rw [hR.out]), hb1⟩
          · have hR := Lib.hid (show intR s.data.toList low high = ((N : Int), 0) by rw [HI3.out, if_neg] <;> simp; omega)
            go_wp2
            go_ret2
            exact ⟨ret_ie (by rw [hR.out]) (by rw [hR.out]), hb1⟩
      case true =>
        by_cases hlo : -(N : Int) < low
        · have hR := Lib.hid (show intR s.data.toList low high = (0, 7) by rw [HI3.out, if_pos]; simp; omega)
          go_wp2
          go_ret2
          exact ⟨ret_ie (by rw [hR.out]) (by rw [hR.out]), hb1⟩
        by_cases hhi : high < -(N : Int)
        · have hR := Lib.hid (show intR s.data.toList low high = (0, 7) by rw [HI3.out, if_pos]; simp; omega)
          go_wp2
          go_ret2
          exact ⟨ret_ie (by rw [hR.out]) (by rw [hR.out]), hb1⟩
        · have hR := Lib.hid (show intR s.data.toList low high = (-(N : Int), 0) by rw [HI3.out, if_neg] <;> simp; omega)
          go_wp2
          go_ret2
          exact ⟨ret_ie (by rw [hR.out]) (by rw [hR.out]), hb1⟩
end Go.Proofs.YtpgojecldmcopaaGreatDoor
