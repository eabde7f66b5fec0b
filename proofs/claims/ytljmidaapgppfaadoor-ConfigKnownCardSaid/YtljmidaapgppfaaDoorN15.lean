/- words: Int of the reference. No condition. -/
import Derived.Test.YtljmidaapgppfaaDoorN14
namespace Go.Proofs.YtljmidaapgppfaaDoor
open Go.RowKit
theorem tdq (d : Nat) (hd : d ≤ 9) : Int.tdiv (-9223372036854775808 + (d : Int)) 10 = if d = 9 then -922337203685477579 else -922337203685477580 := by
  obtain rfl | rfl | rfl | rfl | rfl | rfl | rfl | rfl | rfl | rfl : d = 0 ∨ d = 1 ∨ d = 2 ∨ d = 3 ∨ d = 4 ∨ d = 5 ∨ d = 6 ∨ d = 7 ∨ d = 8 ∨ d = 9 := by omega
  all_goals rfl
theorem ov_iff (X d : Nat) (hd : d ≤ 9) : -(X : Int) < Int.tdiv (-9223372036854775808 + (d : Int)) 10 ↔ 9223372036854775808 < 10 * X + d := by
  rw [tdq d hd]
  split <;> omega
theorem headI (s : ByteArray) (h : 0 < s.size) : s.data.toList.head? = some s[0] := by
  obtain ⟨r, hr⟩ := data_cons s h
  rw [hr]; rfl
theorem dec_pos {s : ByteArray} (h : decL s.data.toList = true) : 0 < s.size := by
  rcases Nat.eq_zero_or_pos s.size with hz | hz
  · rw [List.eq_nil_of_length_eq_zero (by simpa using hz : s.data.toList.length = 0)] at h
    exact absurd h (by decide)
  · exact hz
set_option maxRecDepth 100000 in
set_option maxHeartbeats 2000000 in
theorem rint_ (s : ByteArray) (low high : Int) (w : World) (hs : s.size ≤ 1099511627776) :
    Calls Tryd.prog 24 #[.string s, .int .i64 low, .int .i64 high] w fun e w' => e = .returned (.tuple #[.int .i64 (intR s.data.toList low high).1, .int .i64 (intR s.data.toList low high).2]) ∧ Below w.heap.size w w' := by
  rcases hd : decL s.data.toList with _ | _
  · have hR := Lib.hid (show intR s.data.toList low high = (0, 6) by unfold intR; rw [if_pos hd])
    have Hd := Lib.hid hd
    clear hd
    go_enter Tryd.func24, Tryd.ntmps24
    go_wp2_with fail
    (with_reducible refine (decimal_ s _ hs).mono ?_); rintro e w1 ⟨rfl, hb1⟩
    rw [Hd.out]
    go_wp2
    go_ret2
    exact ⟨ret_ie (by rw [hR.out]) (by rw [hR.out]), hb1⟩
  have hI : intR s.data.toList low high = if intL s.data.toList < -9223372036854775808 ∨ 9223372036854775807 < intL s.data.toList ∨ intL s.data.toList < low ∨ high < intL s.data.toList then (0, 7) else (intL s.data.toList, 0) := by unfold intR; rw [if_neg (by simp [hd])]
  have h0 := dec_pos hd
  have hab := int_abs hd
  rw [headI s h0] at hab
  have Hdec := Lib.hid hd
  have HI := Lib.hid hI
  obtain ⟨B, hB⟩ : ∃ B, B = ((s[0].toNat : Int) == 45) := ⟨_, rfl⟩
  have hab2 : intL s.data.toList = if B = true then -(absF s.data.toList : Int) else absF s.data.toList := by
    rw [hab]
    by_cases e : s[0] = 45
    · rw [if_pos (by rw [e]), if_pos (by rw [hB, e]; rfl)]
    · rw [if_neg (by simpa using e), if_neg (by rw [hB, show ((s[0].toNat : Int) == 45) = false from u8ne (n := 45) (by omega) e]; simp)]
  have Hab := Lib.hid hab2
  have HB := Lib.hid hB
  clear hab hab2 hI hd hB
  have i00 : (0 : Int) < (s.size : Int) := by omega
  go_enter Tryd.func24, Tryd.ntmps24
  go_wp2_with fail
  (with_reducible refine (decimal_ s _ hs).mono ?_); rintro e w1 ⟨rfl, hb1⟩
  rw [Hdec.out]
  go_wp2
  rw [← HB.out]
  go_loopw [9, 10] (fun v i wr => ∃ k : Nat, k ≤ s.size ∧ i = .int .i64 k ∧ v = .int .i64 (-(absF (s.data.toList.take k) : Int)) ∧ absF (s.data.toList.take k) ≤ 9223372036854775808 ∧ wr = w1) (fun _ i _ => s.size - (intOf i).toNat)
  case atStart => exact ⟨0, Nat.zero_le _, rfl, rfl, by simp [absF_nil], rfl⟩
  case round =>
    obtain ⟨k, hk, rfl, rfl, hX, rfl⟩ := hrel
    by_cases hlt : k < s.size
    · have hdt := at_data s k hlt
      have hi1 : (k : Int) < (s.size : Int) := by omega
      have htk : s.data.toList.take (k + 1) = s.data.toList.take k ++ [s[k]] := by rw [List.take_add_one, hdt]; rfl
      obtain ⟨X, hXX⟩ : ∃ X, X = absF (s.data.toList.take k) := ⟨_, rfl⟩
      rw [← hXX] at hX ⊢
      by_cases h45 : s[k] = 45
      · have j1 : ((s[k].toNat : Int) == 45) = true := by rw [h45]; rfl
        have hX2 := Lib.hid (show absF (s.data.toList.take (k + 1)) = X by rw [htk, h45, absF_minus, hXX])
        clear hdt htk hXX h45
        go_wp2
        go_roundw
        case rel => exact ⟨k + 1, by omega, by go_num, by rw [hX2.out], by rw [hX2.out]; exact hX, trivial⟩
        case measure => simp [intOf]; omega
      · have j1 : ((s[k].toNat : Int) == 45) = false := u8ne (n := 45) (by omega) h45
        have hdg : digB s[k] = true := by
          rcases dec_at Hdec.out hdt with ⟨_, e⟩ | e
          · exact absurd e h45
          · exact e
        have hdr := (digB_iff s[k]).1 hdg
        have hX2 : absF (s.data.toList.take (k + 1)) = 10 * X + (s[k].toNat - 48) := by rw [htk, absF_dig _ _ h45, hXX]
        obtain ⟨d, hd⟩ : ∃ d : Nat, d = s[k].toNat - 48 := ⟨_, rfl⟩
        have hd9 : d ≤ 9 := by omega
        have hcd : (s[k].toNat : Int) = (d : Int) + 48 := by omega
        have hto := Lib.hid (absF_take s.data.toList (k + 1))
        rw [← hd] at hX2
        have HX2 := Lib.hid hX2
        have e1 : (s[k].toNat : Int) - 48 = (d : Int) := by omega
        have q1 : IntKind.u8.wrap ((s[k].toNat : Int) - 48) = (d : Int) := by rw [e1]; exact IntWalk.u8_in _ (by omega)
        have q2 : IntKind.i64.wrap (-9223372036854775808 + (d : Int)) = -9223372036854775808 + (d : Int) := IntWalk.i64_in _ (by omega)
        have hiff := ov_iff X d hd9
        clear hdt htk hXX h45 hdg hX2
        by_cases hov : 9223372036854775808 < 10 * X + d
        · have hlt2 := hiff.2 hov
          have hR := Lib.hid (show intR s.data.toList low high = (0, 7) by
            rw [HI.out, Hab.out, if_pos]
            have h1 := hto.out
            rw [HX2.out] at h1
            cases B <;> simp <;> omega)
          clear hiff hov hcd hdr hd
          go_wp2
          go_ret2
          exact ⟨ret_ie (by rw [hR.out]) (by rw [hR.out]), hb1⟩
        · have hlt2 : ¬ (-(X : Int) < Int.tdiv (-9223372036854775808 + (d : Int)) 10) := fun e => hov (hiff.1 e)
          have q3 : IntKind.i64.wrap (10 * -(X : Int)) = 10 * -(X : Int) := IntWalk.i64_in _ (by omega)
          have q4 : IntKind.i64.wrap (10 * -(X : Int) - (d : Int)) = 10 * -(X : Int) - (d : Int) := IntWalk.i64_in _ (by omega)
          clear hiff hcd hdr hd
          go_wp2
          go_roundw
          case rel => exact ⟨k + 1, by omega, by go_num, by rw [HX2.out]; congr 1; omega, by rw [HX2.out]; omega, trivial⟩
          case measure => simp [intOf]; omega
    · have hi1 : ¬ ((k : Int) < (s.size : Int)) := by omega
      have htk : s.data.toList.take k = s.data.toList := List.take_of_length_le (by simp; omega)
      rw [htk] at hX ⊢
      obtain ⟨N, hN⟩ : ∃ N, N = absF s.data.toList := ⟨_, rfl⟩
      rw [← hN] at Hab hX ⊢
      have HI2 := HI.out
      rw [Hab.out] at HI2
      have HI3 := Lib.hid HI2
      clear htk HI2 hN
      cases B
      case false =>
        by_cases hm : N = 9223372036854775808
        · have hR := Lib.hid (show intR s.data.toList low high = (0, 7) by rw [HI3.out, if_pos]; simp; omega)
          have j1 : ((-(N : Int)) == -9223372036854775808) = true := by rw [hm]; rfl
          clear hm
          go_wp2
          go_ret2
          exact ⟨ret_ie (by rw [hR.out]) (by rw [hR.out]), hb1⟩
        · have j1 : ((-(N : Int)) == -9223372036854775808) = false := by rw [beq_eq_false_iff_ne]; omega
          have q5 : IntKind.i64.wrap (- -(N : Int)) = (N : Int) := by rw [Int.neg_neg]; exact IntWalk.i64_in _ (by omega)
          have q6 : IntKind.i64.wrap (N : Int) = (N : Int) := IntWalk.i64_in _ (by omega)
          by_cases hlo : (N : Int) < low
          · have hR := Lib.hid (show intR s.data.toList low high = (0, 7) by rw [HI3.out, if_pos]; simp; omega)
            go_wp2
            go_ret2
            exact ⟨ret_ie (by rw [hR.out]) (by rw [hR.out]), hb1⟩
          by_cases hhi : high < (N : Int)
          · have hR := Lib.hid (show intR s.data.toList low high = (0, 7) by rw [HI3.out, if_pos]; simp; omega)
            go_wp2
            go_ret2
            exact ⟨ret_ie (by rw [hR.out]) (by rw [hR.out]), hb1⟩
          · have hR := Lib.hid (show intR s.data.toList low high = ((N : Int), 0) by rw [HI3.out, if_neg] <;> simp; omega)
            go_wp2
            go_ret2
            exact ⟨ret_ie (by rw [hR.out]) (by rw [hR.out]), hb1⟩
      case true =>
        by_cases hlo : -(N : Int) < low
        · have hR := Lib.hid (show intR s.data.toList low high = (0, 7) by rw [HI3.out, if_pos]; simp; omega)
          go_wp2
          go_ret2
          exact ⟨ret_ie (by rw [hR.out]) (by rw [hR.out]), hb1⟩
        by_cases hhi : high < -(N : Int)
        · have hR := Lib.hid (show intR s.data.toList low high = (0, 7) by rw [HI3.out, if_pos]; simp; omega)
          go_wp2
          go_ret2
          exact ⟨ret_ie (by rw [hR.out]) (by rw [hR.out]), hb1⟩
        · have hR := Lib.hid (show intR s.data.toList low high = (-(N : Int), 0) by rw [HI3.out, if_neg] <;> simp; omega)
          go_wp2
          go_ret2
          exact ⟨ret_ie (by rw [hR.out]) (by rw [hR.out]), hb1⟩
end Go.Proofs.YtljmidaapgppfaaDoor
