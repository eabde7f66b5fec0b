/- words: Name, isDecimal, Int of the program; Same of the reference. No condition. -/
import Derived.Test.YtmpdgckccgbdnaaDoorN5
import Derived.Test.YtmpdgckccgbdnaaDoorFr
import Derived.Test.YtmpdgckccgbdnaaDoorShelf
import Derived.Shelf.Strings.SlTrimAscii
namespace Go.Proofs.YtmpdgckccgbdnaaDoor
open Go.RowKit
theorem isEmpty_arr (l : List UInt8) : (⟨l.toArray⟩ : ByteArray).toList.isEmpty = l.isEmpty := by
  rw [ByteArray.toList_eq]
theorem isEmpty_dat (s : ByteArray) : s.toList.isEmpty = s.data.toList.isEmpty := by rw [ByteArray.toList_eq]
theorem trim_dig_c (s : ByteArray) (w : World) (hs : s.size ≤ 1099511627776) {b : Bool} (h : Hid (s.data.toList.all digB = b)) :
    Calls Tryd.prog 37 #[.string s, .string ⟨#[48, 49, 50, 51, 52, 53, 54, 55, 56, 57]⟩] w fun e w' => (∃ r : ByteArray, e = .returned (.string r) ∧ r.toList.isEmpty = b) ∧ Below w.heap.size w w' := by
  have hcon := Any.strings_Trim_laid Tryd.lays160 (by kernel_rfl) s ⟨#[48, 49, 50, 51, 52, 53, 54, 55, 56, 57]⟩ w (by omega) (by decide) (Go.Proofs.ascii_of_all (by decide))
  change Calls Tryd.prog 37 _ _ _ at hcon
  refine hcon.mono ?_
  rintro e w' ⟨rfl, hb⟩
  exact ⟨⟨_, rfl, by rw [isEmpty_arr, ← h.out]; exact trim_dig _⟩, hb⟩
theorem trim_name_c (s : ByteArray) (w : World) (hs : s.size ≤ 1099511627776) {b : Bool} (h : Hid (s.data.toList.all nameC = b)) :
    Calls Tryd.prog 37 #[.string s, .string ⟨#[97, 98, 99, 100, 101, 102, 103, 104, 105, 106, 107, 108, 109, 110, 111, 112, 113, 114, 115, 116, 117, 118, 119, 120, 121, 122, 48, 49, 50, 51, 52, 53, 54, 55, 56, 57, 45]⟩] w fun e w' => (∃ r : ByteArray, e = .returned (.string r) ∧ r.toList.isEmpty = b) ∧ Below w.heap.size w w' := by
  have hcon := Any.strings_Trim_laid Tryd.lays160 (by kernel_rfl) s ⟨#[97, 98, 99, 100, 101, 102, 103, 104, 105, 106, 107, 108, 109, 110, 111, 112, 113, 114, 115, 116, 117, 118, 119, 120, 121, 122, 48, 49, 50, 51, 52, 53, 54, 55, 56, 57, 45]⟩ w (by omega) (by decide) (Go.Proofs.ascii_of_all (by decide))
  change Calls Tryd.prog 37 _ _ _ at hcon
  refine hcon.mono ?_
  rintro e w' ⟨rfl, hb⟩
  exact ⟨⟨_, rfl, by rw [isEmpty_arr, ← h.out]; exact trim_name _⟩, hb⟩
theorem data_cons (s : ByteArray) (h : 0 < s.size) : ∃ r, s.data.toList = s[0] :: r := by
  have hl : 0 < s.data.toList.length := by simpa using h
  refine ⟨s.data.toList.drop 1, ?_⟩
  have := List.drop_eq_getElem_cons (l := s.data.toList) (i := 0) hl
  rw [List.drop_zero] at this
  exact this
theorem nameL_cons {c : UInt8} {r : List UInt8} : nameL (c :: r) = (decide ((c :: r).length ≤ 16) && lowB c && (c :: r).all nameC) := rfl
set_option maxRecDepth 100000 in
set_option maxHeartbeats 1000000 in
theorem name_ (s : ByteArray) (w : World) (hs : s.size ≤ 1099511627776) :
    Calls Tryd.prog 21 #[.string s] w fun e w' => e = .returned (.bool (nameL s.data.toList)) ∧ Below w.heap.size w w' := by
  have hl : s.data.toList.length = s.size := by simp
  by_cases hz : s.size = 0
  · have hz2 : s.toList.isEmpty = true := List.isEmpty_iff.2 ((toList_nil s).2 hz)
    have hR := Lib.hid (show nameL s.data.toList = false by rw [List.eq_nil_of_length_eq_zero (by omega : s.data.toList.length = 0)]; rfl)
    clear hl hz
    go_enter Tryd.func21, Tryd.ntmps21
    go_wp2
    go_ret
    exact ⟨ret_bool hR.out.symm, Below.refl _ _⟩
  have hz2 : s.toList.isEmpty = false := by rw [List.isEmpty_eq_false_iff]; exact fun e => hz ((toList_nil s).1 e)
  have h0 : 0 < s.size := by omega
  obtain ⟨r, hr⟩ := data_cons s h0
  have hN : nameL s.data.toList = (decide (s.size ≤ 16) && lowB s[0] && s.data.toList.all nameC) := by
    conv => lhs; rw [hr]
    rw [nameL_cons, ← hr, hl]
  by_cases h16 : 16 < s.size
  · have hR := Lib.hid (show nameL s.data.toList = false by rw [hN]; simp; omega)
    have i1 : (16 : Int) < (s.size : Int) := by omega
    clear hl hN hr hz h16
    go_enter Tryd.func21, Tryd.ntmps21
    go_wp2
    go_ret
    exact ⟨ret_bool hR.out.symm, Below.refl _ _⟩
  have i1 : ¬ ((16 : Int) < (s.size : Int)) := by omega
  by_cases ha : s[0].toNat < 97
  · have hR := Lib.hid (show nameL s.data.toList = false by rw [hN]; simp [lowB]; omega)
    have i2 : (s[0].toNat : Int) < 97 := by omega
    clear hl hN hr hz h16 ha
    go_enter Tryd.func21, Tryd.ntmps21
    go_wp2
    go_ret
    exact ⟨ret_bool hR.out.symm, Below.refl _ _⟩
  have i2 : ¬ ((s[0].toNat : Int) < 97) := by omega
  by_cases hb : 122 < s[0].toNat
  · have hR := Lib.hid (show nameL s.data.toList = false by rw [hN]; simp [lowB]; omega)
    have i3 : (122 : Int) < (s[0].toNat : Int) := by omega
    clear hl hN hr hz h16 ha hb
    go_enter Tryd.func21, Tryd.ntmps21
    go_wp2
    go_ret
    exact ⟨ret_bool hR.out.symm, Below.refl _ _⟩
  have i3 : ¬ ((122 : Int) < (s[0].toNat : Int)) := by omega
  have hR := Lib.hid (show nameL s.data.toList = s.data.toList.all nameC by
    rw [hN, show lowB s[0] = true by simp [lowB]; omega, show decide (s.size ≤ 16) = true by simp; omega]; rfl)
  clear hl hN hr hz h16 ha hb
  go_enter Tryd.func21, Tryd.ntmps21
  go_wp2_with fail
  (with_reducible refine (trim_name_c s _ hs (Lib.hid rfl)).mono ?_); rintro e w1 ⟨⟨r, rfl, hre⟩, hb1⟩
  have Hre := Lib.hid hre
  clear hre
  go_wp2
  go_ret
  exact ⟨ret_bool (by rw [hR.out, Hre.out]), hb1⟩
end Go.Proofs.YtmpdgckccgbdnaaDoor
