/- SyntaxJoins: a text, an empty line, and another text have the rules of both. No condition. -/
import Derived.Test.YtcopnpllaoahaaaGreatDoorE18
import Derived.Test.YtcopnpllaoahaaaGreatDoorE17
namespace Go.Proofs.YtcopnpllaoahaaaGreatDoor
open Go.RowKit
theorem rusQ_refl : ∀ (l : List Ru), rusQ l l = true
  | [] => rfl
  | a :: l => by
    have h : ∀ es : List El, elsQ es es = true := by
      intro es
      induction es with
      | nil => rfl
      | cons x r ih => rw [elsQ, ih, elQ_iff.2 ⟨rfl, rfl, rfl, rfl, sQ_refl _⟩]; rfl
    rw [rusQ, rusQ_refl l]
    unfold ruQ
    rw [decide_eq_true rfl, h]; rfl
/-- the first rules of rules, the last ones -/
theorem IsRus.to {w : World} {A : Option Addr} {L : List Rm} (h : IsRus w A L) {k : Nat} (hk : k ≤ L.length) : IsRus w A (L.take k) := by
  refine ⟨?_, fun r hr => h.el r (List.mem_of_mem_take hr)⟩
  have := h.rd.firsts hk
  rw [List.length_take, Nat.min_eq_left hk]
  have e : (rms L).take (k * 2) = rms (L.take k) := by
    conv => lhs; rw [← List.take_append_drop k L, rms_app]
    have hl : (rms (L.take k)).length = k * 2 := by rw [rms_len, List.length_take, Nat.min_eq_left hk]
    rw [← hl, List.take_left']
    rfl
  rwa [e] at this
theorem IsRus.from_ {w : World} {A A' : Option Addr} {L : List Rm} (h : IsRus w A L) {k : Nat} (hr : Reads w w.heap.size 2 A' (L.length - k) ((rms L).drop (k * 2))) (hk : k ≤ L.length) : IsRus w A' (L.drop k) := by
  refine ⟨?_, fun r hr => h.el r (List.mem_of_mem_drop hr)⟩
  rw [List.length_drop]
  have e : (rms L).drop (k * 2) = rms (L.drop k) := by
    conv => lhs; rw [← List.take_append_drop k L, rms_app]
    have hl : (rms (L.take k)).length = k * 2 := by rw [rms_len, List.length_take, Nat.min_eq_left hk]
    rw [← hl, List.drop_left']
    rfl
  rwa [e] at hr
theorem psK_64 {L : List UInt8} {l : List Ru} {p : Nat} {q : Int} (h : psK L = (l, p, q, 0)) : l.length ≤ 64 := by
  obtain ⟨_, _, _, _, _, hr⟩ := psK_ok h
  exact (rdS_good _ _ _ _ _ _ (fun r hr => by cases hr) (by simp) hr).2
set_option maxRecDepth 100000 in
set_option maxHeartbeats 8000000 in
theorem syntaxJoins_walk (w : World) (a : ByteArray) (ha : a.size ≤ 140737488351232) (b : ByteArray) (hb : b.size ≤ 140737488351232) (hL : LxW w) (hH : Hd w) (hM : ML w) :
    Calls Tryz.prog 4 #[.string a, .string b] w fun e w' => e = .returned (.bool true) ∧ Below w.heap.size w w' := by
  have HW := Lib.hid (show SyW w from ⟨hL, hH, hM⟩)
  have HSh := Lib.hid shown_
  have hal : a.data.toList.length = a.size := by simp
  have hbl : b.data.toList.length = b.size := by simp
  clear hL hH hM
  by_cases h6 : 300 < a.size
  · have i1 : (300 : Int) < (a.size : Int) := by omega
    clear h6 hal hbl
    go_enter Tryz.func4, Tryz.ntmps4
    go_wp2_with fail
    (with_reducible refine (HSh.out _ HW.out).mono ?_); rintro e w1 ⟨rfl, hb1⟩
    go_wp2
    go_ret
    exact ⟨rfl, hb1⟩
  have i1 : ¬ ((300 : Int) < (a.size : Int)) := by omega
  by_cases h7 : 300 < b.size
  · have i2 : (300 : Int) < (b.size : Int) := by omega
    clear h6 h7 hal hbl
    go_enter Tryz.func4, Tryz.ntmps4
    go_wp2_with fail
    (with_reducible refine (HSh.out _ HW.out).mono ?_); rintro e w1 ⟨rfl, hb1⟩
    go_wp2
    go_ret
    exact ⟨rfl, hb1⟩
  have i2 : ¬ ((300 : Int) < (b.size : Int)) := by omega
  rcases hp : psK a.data.toList with ⟨l, p, q, er⟩
  rcases hq : psK b.data.toList with ⟨m, p', q', er'⟩
  have HP := Lib.hid (fun W (hW : SyW W) => ps_ a _ rfl ha l p q er (Lib.hid hp) W hW)
  have HQ := Lib.hid (fun W (hW : SyW W) => ps_ b _ rfl hb m p' q' er' (Lib.hid hq) W hW)
  by_cases he : er = 0
  case neg =>
    have e1 : (er != 0) = true := by simpa using he
    clear hp hq he hal hbl h6 h7
    go_enter Tryz.func4, Tryz.ntmps4
    go_wp2_with fail
    (with_reducible refine (HP.out _ HW.out).mono ?_); rintro e w1 ⟨A, c, Rs, rfl, hb1, _⟩
    go_wp2_with fail
    (with_reducible refine (HQ.out _ (HW.out.below hb1)).mono ?_); rintro e w2 ⟨A2, c2, R2, rfl, hb2, _⟩
    have hb3 := bt hb1 hb2
    clear hb1 hb2
    go_wp2_with fail
    (with_reducible refine (HSh.out _ (HW.out.below hb3)).mono ?_); rintro e w4 ⟨rfl, hb4⟩
    have hb5 := bt hb3 hb4
    clear hb3 hb4
    go_wp2
    go_ret
    exact ⟨rfl, hb5⟩
  subst he
  by_cases he : er' = 0
  case neg =>
    have e1 : (er' != 0) = true := by simpa using he
    clear hp hq he hal hbl h6 h7
    go_enter Tryz.func4, Tryz.ntmps4
    go_wp2_with fail
    (with_reducible refine (HP.out _ HW.out).mono ?_); rintro e w1 ⟨A, c, Rs, rfl, hb1, _⟩
    go_wp2_with fail
    (with_reducible refine (HQ.out _ (HW.out.below hb1)).mono ?_); rintro e w2 ⟨A2, c2, R2, rfl, hb2, _⟩
    have hb3 := bt hb1 hb2
    clear hb1 hb2
    go_wp2_with fail
    (with_reducible refine (HSh.out _ (HW.out.below hb3)).mono ?_); rintro e w4 ⟨rfl, hb4⟩
    have hb5 := bt hb3 hb4
    clear hb3 hb4
    go_wp2
    go_ret
    exact ⟨rfl, hb5⟩
  subst he
  obtain ⟨j1, j2⟩ := joins_law hp hq (by omega)
  have hl64 := psK_64 hp
  have hm64 := psK_64 hq
  have hcat : (a ++ (⟨#[32, 32, 10]⟩ : ByteArray) ++ b).data.toList = a.data.toList ++ [32, 32, 10] ++ b.data.toList := by simp
  have hcs : (a ++ (⟨#[32, 32, 10]⟩ : ByteArray) ++ b).size ≤ 140737488351232 := by
    rw [ByteArray.size_append, ByteArray.size_append]
    have : (⟨#[32, 32, 10]⟩ : ByteArray).size = 3 := rfl
    omega
  have s1 : ¬ (9223372036854775807 < a.size + 3) := by omega
  have s2 : ¬ (9223372036854775807 < a.size + 3 + b.size) := by omega
  clear hp hq hal hbl h6 h7
  by_cases h64 : 64 < l.length + m.length
  · obtain ⟨pp, hpp⟩ := j1 h64
    have HB := Lib.hid (fun W (hW : SyW W) => ps_ (a ++ (⟨#[32, 32, 10]⟩ : ByteArray) ++ b) _ hcat hcs [] pp 0 3 (Lib.hid hpp) W hW)
    clear j1 j2 hcat hcs hpp
    go_enter Tryz.func4, Tryz.ntmps4
    go_wp2_with fail
    (with_reducible refine (HP.out _ HW.out).mono ?_); rintro e w1 ⟨A, c, Rs, rfl, hb1, _, _, hl1, _⟩
    have HL1 := Lib.hid hl1
    clear hl1
    go_wp2_with fail
    (with_reducible refine (HQ.out _ (HW.out.below hb1)).mono ?_); rintro e w2 ⟨A2, c2, R2, rfl, hb2, _, _, hl2, _⟩
    have hb3 := bt hb1 hb2
    have i3 : (64 : Int) < (Rs.length : Int) + (R2.length : Int) := by have := HL1.out; omega
    have i5 : (Rs.length : Int) ≤ 64 := by have := HL1.out; omega
    have i6 : (R2.length : Int) ≤ 64 := by omega
    clear hb1 hb2 hl2 h64 hl64 hm64
    go_wp2_with fail
    (with_reducible refine (HB.out _ (HW.out.below hb3)).mono ?_); rintro e w4 ⟨A3, c3, R3, rfl, hb4, _⟩
    have hb5 := bt hb3 hb4
    clear hb3 hb4
    go_wp2_with fail
    (with_reducible refine (HSh.out _ (HW.out.below hb5)).mono ?_); rintro e w6 ⟨rfl, hb6⟩
    have hb7 := bt hb5 hb6
    clear hb5 hb6
    go_wp2
    go_ret
    exact ⟨rfl, hb7⟩
  have hpp := j2 h64
  have HB := Lib.hid (fun W (hW : SyW W) => ps_ (a ++ (⟨#[32, 32, 10]⟩ : ByteArray) ++ b) _ hcat hcs (l ++ m) 0 0 0 (Lib.hid hpp) W hW)
  clear j1 j2 hcat hcs hpp
  go_enter Tryz.func4, Tryz.ntmps4
  go_wp2_with fail
  (with_reducible refine (HP.out _ HW.out).mono ?_); rintro e w1 ⟨A, c, Rs, rfl, hb1, hI1, hm1, hl1, hc1⟩
  have HL1 := Lib.hid hl1
  have HM1 := Lib.hid hm1
  clear hl1 hm1
  go_wp2_with fail
  (with_reducible refine (HQ.out _ (HW.out.below hb1)).mono ?_); rintro e w2 ⟨A2, c2, R2, rfl, hb2, hI2, hm2, hl2, hc2⟩
  have hb3 := bt hb1 hb2
  have i3 : ¬ ((64 : Int) < (Rs.length : Int) + (R2.length : Int)) := by have := HL1.out; omega
  have i4 : Rs.length + R2.length ≤ 64 := by have := HL1.out; omega
  have HI1 := Lib.hid (hI1.go hb2)
  have HI2 := Lib.hid hI2
  have HM2 := Lib.hid hm2
  have HL2 := Lib.hid hl2
  clear hb1 hb2 hl2 h64 hI1 hI2 hm2 hc1 hc2 hl64 hm64
  go_wp2_with fail
  (with_reducible refine (HB.out _ (HW.out.below hb3)).mono ?_); rintro e w4 ⟨A3, c3, R3, rfl, hb4, hI3, hm3, hl3, hc3⟩
  have hb5 := bt hb3 hb4
  have hJ1 := HI1.out.go hb4
  have hJ2 := HI2.out.go hb4
  have h3 : R3.length = Rs.length + R2.length := by rw [hl3, List.length_append, HL1.out, HL2.out]
  have hc3' : R3.length ≤ c3 := by rw [hl3]; exact hc3.1
  have hs3 := sl_to rmEl (by kernel_rfl) A3 R3.length c3 (Rs.length : Int) Rs.length rfl (by omega) hc3'
  obtain ⟨A4, hs4, hr4⟩ := sl_from rmEl (by kernel_rfl) hI3.rd (Rs.length : Int) Rs.length rfl (by omega) hc3'
  have hT := hI3.to (k := Rs.length) (by omega)
  have hD := hI3.from_ hr4 (by omega)
  have eT : (R3.take Rs.length).map rm = Rs.map rm := by rw [List.map_take, hm3, HM1.out, HL1.out, List.take_left']; rfl
  have eD : (R3.drop Rs.length).map rm = R2.map rm := by rw [List.map_drop, hm3, HM2.out, HL1.out, List.drop_left']; rfl
  have hlT : (R3.take Rs.length).length = Rs.length := by rw [List.length_take]; omega
  have hlD : (R3.drop Rs.length).length = R2.length := by rw [List.length_drop]; omega
  have hlD2 : R3.length - Rs.length = R2.length := by omega
  rw [hlD2] at hs4
  have hA1 := allR_ (R3.take Rs.length) Rs w4 A3 A c3 c hT hJ1 (by omega) true (Lib.hid (by rw [eT]; exact rusQ_refl _))
  have hA2 := fun W (hW : Below w4.heap.size w4 W) => allR_ (R3.drop Rs.length) R2 W A4 A2 (c3 - Rs.length) c2 (hD.go hW) (hJ2.go hW) (by omega) true (Lib.hid (by rw [eD]; exact rusQ_refl _))
  rw [hlT] at hA1
  rw [hlD] at hA2
  have i5 : ((R3.length : Int) == (Rs.length : Int) + (R2.length : Int)) = true := by rw [h3]; simp
  have HA1 := Lib.hid hA1
  have HA2 := Lib.hid hA2
  clear hJ1 hJ2 h3 hc3' hr4 hT hD eT eD hlT hlD hlD2 hA1 hA2 hI3 hm3 hl3 hc3 hb4
  go_wp2_with fail
  (with_reducible refine (HA1.out).mono ?_); rintro e w6 ⟨rfl, hb6⟩
  go_wp2_with fail
  (with_reducible refine (HA2.out _ hb6).mono ?_); rintro e w7 ⟨rfl, hb7⟩
  have hb8 := bt (bt hb5 hb6) hb7
  clear hb6 hb7
  go_wp2_with fail
  (with_reducible refine (HSh.out _ (HW.out.below hb8)).mono ?_); rintro e w9 ⟨rfl, hb9⟩
  have hb10 := bt hb8 hb9
  clear hb8 hb9
  go_wp2
  go_ret
  exact ⟨rfl, hb10⟩
end Go.Proofs.YtcopnpllaoahaaaGreatDoor
