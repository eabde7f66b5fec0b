/- words: isDecimal, Int of the program. No condition. -/
import Derived.Test.YtpgojecldmcopaaGreatDoorN7
namespace Go.Proofs.YtpgojecldmcopaaGreatDoor
open Go.RowKit
theorem trimPre_off (l : List UInt8) : Lib.trimPrefix l [45] = offL l := by
  unfold Lib.trimPrefix
  cases l with
  | nil => rfl
  | cons x r =>
    by_cases hx : x = 45
    · subst hx; rfl
    · have h1 : Lib.hasPrefix (x :: r) [45] = false := by
        simp [Lib.hasPrefix, List.isPrefixOf]; exact fun e => hx e.symm
      rw [h1, if_neg (by simp)]
      unfold offL
      split
      · rename_i h; injection h with h _; exact absurd h hx
      · rfl
theorem trimPre_c (s : ByteArray) (w : World) :
    Calls Tryz.prog 82 #[.string s, .string ⟨#[45]⟩] w fun e w' => e = .returned (.string ⟨(offL s.data.toList).toArray⟩) ∧ w' = w := by
  refine (Tryz.strings_TrimPrefix s ⟨#[45]⟩ w).mono ?_
  rintro e w' ⟨rfl, rfl⟩
  exact ⟨by rw [← trimPre_off], rfl⟩
theorem off_len (l : List UInt8) : (offL l).length ≤ l.length := by
  unfold offL; split <;> simp
set_option maxRecDepth 100000 in
set_option maxHeartbeats 1000000 in
theorem isDecimal_ (s : ByteArray) (w : World) (hs : s.size ≤ 1099511627776) :
    Calls Tryz.prog 60 #[.string s] w fun e w' => e = .returned (.bool (decL s.data.toList)) ∧ Below w.heap.size w w' := by
  obtain ⟨T, hT⟩ : ∃ T : ByteArray, T = ⟨(offL s.data.toList).toArray⟩ := ⟨_, rfl⟩
  have hTd : T.data.toList = offL s.data.toList := by rw [hT]
  have hTs : T.size ≤ 1099511627776 := by
    have h1 := off_len s.data.toList
    have h2 : T.data.toList.length = T.size := by simp
    have h3 : s.data.toList.length = s.size := by simp
    rw [hTd] at h2; omega
  have hD := decL_off s.data.toList
  rw [← hTd] at hD
  have HT := Lib.hid hT
  clear hT hTd
  by_cases hz : T.size = 0
  · have hz2 : T.toList.isEmpty = true := List.isEmpty_iff.2 ((toList_nil T).2 hz)
    have hR := Lib.hid (show decL s.data.toList = false by rw [hD, ← isEmpty_dat, hz2]; rfl)
    clear hD hz
    go_enter Tryz.func60, Tryz.ntmps60
    go_wp2_with fail
    (with_reducible refine (trimPre_c s _).mono ?_); rintro e w1 ⟨rfl, hw1⟩; subst hw1
    rw [← HT.out]
    go_wp2
    go_ret
    exact ⟨ret_bool hR.out.symm, Below.refl _ _⟩
  have hz2 : T.toList.isEmpty = false := by rw [List.isEmpty_eq_false_iff]; exact fun e => hz ((toList_nil T).1 e)
  have h0 : 0 < T.size := by omega
  rcases hall : T.data.toList.all digB with _ | _
  · have hR := Lib.hid (show decL s.data.toList = false by rw [hD, hall]; simp)
    have Hall := Lib.hid hall
    clear hD hz hall
    go_enter Tryz.func60, Tryz.ntmps60
    go_wp2_with fail
    (with_reducible refine (trimPre_c s _).mono ?_); rintro e w1 ⟨rfl, hw1⟩; subst hw1
    rw [← HT.out]
    go_wp2_with fail
    (with_reducible refine (trim_dig_c T _ hTs Hall).mono ?_); rintro e w1 ⟨⟨r, rfl, hre⟩, hb1⟩
    go_wp2
    go_ret
    exact ⟨ret_bool hR.out.symm, hb1⟩
  obtain ⟨t, ht⟩ := data_cons T h0
  have hD2 : decL s.data.toList = (!(T[0] == 48) || s.data.toList == [48]) := by
    rw [hD, hall, ← isEmpty_dat, hz2]
    conv => lhs; rw [ht]
    simp
  have Hall := Lib.hid hall
  by_cases h48 : T[0] = 48
  · have i1 : ((T[0].toNat : Int) != 48) = false := by rw [h48]; rfl
    have hR := Lib.hid (show decL s.data.toList = (s.data.toList == [48]) by rw [hD2, h48]; simp)
    have hsl : Hid (s.data.toList = s.toList) := Lib.hid (by rw [ByteArray.toList_eq])
    clear hD hD2 hz hall ht h48
    go_enter Tryz.func60, Tryz.ntmps60
    go_wp2_with fail
    (with_reducible refine (trimPre_c s _).mono ?_); rintro e w1 ⟨rfl, hw1⟩; subst hw1
    rw [← HT.out]
    go_wp2_with fail
    (with_reducible refine (trim_dig_c T _ hTs Hall).mono ?_); rintro e w1 ⟨⟨r, rfl, hre⟩, hb1⟩
    go_wp2
    go_ret
    exact ⟨ret_bool (by rw [hR.out, hsl.out]), hb1⟩
  · have i1 : ((T[0].toNat : Int) != 48) = true := by rw [bne_iff_ne]; exact fun e => h48 (UInt8.toNat_inj.1 (by have : (48 : UInt8).toNat = 48 := rfl; omega))
    have hR := Lib.hid (show decL s.data.toList = true by rw [hD2]; simp [h48])
    clear hD hD2 hz hall ht h48
    go_enter Tryz.func60, Tryz.ntmps60
    go_wp2_with fail
    (with_reducible refine (trimPre_c s _).mono ?_); rintro e w1 ⟨rfl, hw1⟩; subst hw1
    rw [← HT.out]
    go_wp2_with fail
    (with_reducible refine (trim_dig_c T _ hTs Hall).mono ?_); rintro e w1 ⟨⟨r, rfl, hre⟩, hb1⟩
    go_wp2
    go_ret
    exact ⟨ret_bool hR.out.symm, hb1⟩
/-- strconv.ErrRange holds an error -/
def ER (w : World) : Prop := ∃ tp p, w.cell? ⟨5, 0, none⟩ = some (.iface tp p)
theorem ER.below {w w' : World} (h : ER w) (hb : Below w.heap.size w w') : ER w' := by
  obtain ⟨tp, p, hm⟩ := h
  refine ⟨tp, p, (hb.cell ?_).trans hm⟩
  rcases Nat.lt_or_ge 5 w.heap.size with hlt | hge
  · exact hlt
  · unfold World.cell? at hm
    simp [Array.getElem?_eq_none hge] at hm
theorem parse_ok (s : ByteArray) (w : World) (hs : s.size ≤ 1099511627776) {v : Int} (h : Lib.parseIntB 64 s.data.toList = .ok v) :
    Calls Tryz.prog 61 #[.string s, .int .i64 10, .int .i64 64] w fun e w' => e = .returned (.tuple #[.int .i64 v, .nilIface]) ∧ Below w.heap.size w w' := by
  refine (Tryz.strconv_ParseInt_10_at64_ok s (by omega) v h w).mono ?_
  rintro e w' ⟨rfl, rfl | ⟨t, rfl⟩⟩
  · exact ⟨rfl, Below.refl _ _⟩
  · exact ⟨rfl, Lib.bytesWorld_below _ _ _⟩
theorem parse_range (s : ByteArray) (w : World) (hE : ER w) (hs : s.size ≤ 1099511627776) (h : Lib.parseIntB 64 s.data.toList = .range) :
    Calls Tryz.prog 61 #[.string s, .int .i64 10, .int .i64 64] w fun e w' => (∃ x N, e = .returned (.tuple #[.int .i64 x, .iface 143 (.pointer (some ⟨N, 0, none⟩))])) ∧ Below w.heap.size w w' := by
  obtain ⟨tp, p, hE⟩ := hE
  refine (Tryz.strconv_ParseInt_10_at64_range s (by omega) h (.iface tp p) w hE (.inr ⟨tp, p, rfl⟩)).mono ?_
  rintro e w' ⟨N, rfl, _, _, hb⟩
  exact ⟨⟨_, N, rfl⟩, hb⟩
theorem ret_ie {a b x y : Int} (h : a = b) (h' : x = y) : Ending.returned (.tuple #[.int .i64 a, .int .i64 x]) = .returned (.tuple #[.int .i64 b, .int .i64 y]) := by rw [h, h']
set_option maxRecDepth 100000 in
set_option maxHeartbeats 1000000 in
theorem int_ (s : ByteArray) (low high : Int) (w : World) (hs : s.size ≤ 1099511627776) (hE : ER w) :
    Calls Tryz.prog 52 #[.string s, .int .i64 low, .int .i64 high] w fun e w' => e = .returned (.tuple #[.int .i64 (intR s.data.toList low high).1, .int .i64 (intR s.data.toList low high).2]) ∧ Below w.heap.size w w' := by
  rcases hd : decL s.data.toList with _ | _
  · have hR := Lib.hid (show intR s.data.toList low high = (0, 6) by unfold intR; rw [if_pos hd])
    have Hd := Lib.hid hd
    clear hd
    go_enter Tryz.func52, Tryz.ntmps52
    go_wp2_with fail
    (with_reducible refine (isDecimal_ s _ hs).mono ?_); rintro e w1 ⟨rfl, hb1⟩
    rw [Hd.out]
    go_wp2
    go_ret2
    exact ⟨ret_ie (by rw [hR.out]) (by rw [hR.out]), hb1⟩
  have hI : intR s.data.toList low high = if intL s.data.toList < -9223372036854775808 ∨ 9223372036854775807 < intL s.data.toList ∨ intL s.data.toList < low ∨ high < intL s.data.toList then (0, 7) else (intL s.data.toList, 0) := by unfold intR; rw [if_neg (by simp [hd])]
  have hP := parse_dec hd
  have Hd := Lib.hid hd
  clear hd
  by_cases hr : intL s.data.toList < -9223372036854775808 ∨ 9223372036854775807 < intL s.data.toList
  · rw [if_pos hr] at hP
    have hR := Lib.hid (show intR s.data.toList low high = (0, 7) by rw [hI, if_pos (by omega)])
    have HP := Lib.hid hP
    clear hI hr hP
    go_enter Tryz.func52, Tryz.ntmps52
    go_wp2_with fail
    (with_reducible refine (isDecimal_ s _ hs).mono ?_); rintro e w1 ⟨rfl, hb1⟩
    rw [Hd.out]
    go_wp2_with fail
    (with_reducible refine (parse_range s _ (hE.below hb1) hs HP.out).mono ?_); rintro e w2 ⟨⟨x, N, rfl⟩, hb2⟩
    go_wp2
    go_ret2
    exact ⟨ret_ie (by rw [hR.out]) (by rw [hR.out]), bt hb1 hb2⟩
  rw [if_neg hr] at hP
  have HP := Lib.hid hP
  obtain ⟨v, hv⟩ : ∃ v, v = intL s.data.toList := ⟨_, rfl⟩
  rw [← hv] at hI HP hr
  clear hP hv
  by_cases hlo : v < low
  · have hR := Lib.hid (show intR s.data.toList low high = (0, 7) by rw [hI, if_pos (by omega)])
    clear hI hr
    go_enter Tryz.func52, Tryz.ntmps52
    go_wp2_with fail
    (with_reducible refine (isDecimal_ s _ hs).mono ?_); rintro e w1 ⟨rfl, hb1⟩
    rw [Hd.out]
    go_wp2_with fail
    (with_reducible refine (parse_ok s _ hs HP.out).mono ?_); rintro e w2 ⟨rfl, hb2⟩
    go_wp2
    go_ret2
    exact ⟨ret_ie (by rw [hR.out]) (by rw [hR.out]), bt hb1 hb2⟩
  by_cases hhi : high < v
  · have hR := Lib.hid (show intR s.data.toList low high = (0, 7) by rw [hI, if_pos (by omega)])
    clear hI hr
    go_enter Tryz.func52, Tryz.ntmps52
    go_wp2_with fail
    (with_reducible refine (isDecimal_ s _ hs).mono ?_); rintro e w1 ⟨rfl, hb1⟩
    rw [Hd.out]
    go_wp2_with fail
    (with_reducible refine (parse_ok s _ hs HP.out).mono ?_); rintro e w2 ⟨rfl, hb2⟩
    go_wp2
    go_ret2
    exact ⟨ret_ie (by rw [hR.out]) (by rw [hR.out]), bt hb1 hb2⟩
  · have hR := Lib.hid (show intR s.data.toList low high = (v, 0) by rw [hI, if_neg (by omega)])
    clear hI hr
    go_enter Tryz.func52, Tryz.ntmps52
    go_wp2_with fail
    (with_reducible refine (isDecimal_ s _ hs).mono ?_); rintro e w1 ⟨rfl, hb1⟩
    rw [Hd.out]
    go_wp2_with fail
    (with_reducible refine (parse_ok s _ hs HP.out).mono ?_); rintro e w2 ⟨rfl, hb2⟩
    go_wp2
    go_ret2
    exact ⟨ret_ie (by rw [hR.out]) (by rw [hR.out]), bt hb1 hb2⟩
end Go.Proofs.YtpgojecldmcopaaGreatDoor
