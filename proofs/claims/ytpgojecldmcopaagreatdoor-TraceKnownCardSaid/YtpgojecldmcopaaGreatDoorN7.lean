/- words: Name, isDecimal, Int of the program; Same of the reference. No condition. -/
import Derived.Test.YtpgojecldmcopaaGreatDoorN5
import Derived.Test.YtpgojecldmcopaaGreatDoorN3
import Derived.Test.YtpgojecldmcopaaGreatDoorShelf
import Derived.Shelf.Strings.SlTrimAscii
namespace Go.Proofs.YtpgojecldmcopaaGreatDoor
open Go.RowKit
theorem isEmpty_arr (l : List UInt8) : (⟨l.toArray⟩ : ByteArray).toList.isEmpty = l.isEmpty := by
  rw [ByteArray.toList_eq]
theorem isEmpty_dat (s : ByteArray) : s.toList.isEmpty = s.data.toList.isEmpty := by rw [ByteArray.toList_eq]
theorem trim_dig_c (s : ByteArray) (w : World) (hs : s.size ≤ 1099511627776) {b : Bool} (h : Hid (s.data.toList.all digB = b)) :
    Calls Tryz.prog 83 #[.string s, .string ⟨#[48, 49, 50, 51, 52, 53, 54, 55, 56, 57]⟩] w fun e w' => (∃ r : ByteArray, e = .returned (.string r) ∧ r.toList.isEmpty = b) ∧ Below w.heap.size w w' := by
  have hcon := Any.strings_Trim_laid Tryz.lays160 (by kernel_rfl) s ⟨#[48, 49, 50, 51, 52, 53, 54, 55, 56, 57]⟩ w (by omega) (by decide) (Go.Proofs.ascii_of_all (by decide))
  change Calls Tryz.prog 83 _ _ _ at hcon
  refine hcon.mono ?_
  rintro e w' ⟨rfl, hb⟩
  exact ⟨⟨_, rfl, by rw [isEmpty_arr, ← h.out]; exact trim_dig _⟩, hb⟩
theorem trim_name_c (s : ByteArray) (w : World) (hs : s.size ≤ 1099511627776) {b : Bool} (h : Hid (s.data.toList.all nameC = b)) :
    Calls Tryz.prog 83 #[.string s, .string ⟨#[97, 98, 99, 100, 101, 102, 103, 104, 105, 106, 107, 108, 109, 110, 111, 112, 113, 114, 115, 116, 117, 118, 119, 120, 121, 122, 48, 49, 50, 51, 52, 53, 54, 55, 56, 57, 45]⟩] w fun e w' => (∃ r : ByteArray, e = .returned (.string r) ∧ r.toList.isEmpty = b) ∧ Below w.heap.size w w' := by
  have hcon := Any.strings_Trim_laid Tryz.lays160 (by kernel_rfl) s ⟨#[97, 98, 99, 100, 101, 102, 103, 104, 105, 106, 107, 108, 109, 110, 111, 112, 113, 114, 115, 116, 117, 118, 119, 120, 121, 122, 48, 49, 50, 51, 52, 53, 54, 55, 56, 57, 45]⟩ w (by omega) (by decide) (Go.Proofs.ascii_of_all (by decide))
  change Calls Tryz.prog 83 _ _ _ at hcon
  refine hcon.mono ?_
  rintro e w' ⟨rfl, hb⟩
  exact ⟨⟨_, rfl, by rw [isEmpty_arr, ← h.out]; exact trim_name _⟩, hb⟩
theorem data_cons (s : ByteArray) (h : 0 < s.size) : ∃ r, s.data.toList = s[0] :: r := by
  have hl : 0 < s.data.toList.length := by simpa using h
  refine ⟨s.data.toList.drop 1, ?_⟩
  have := List.drop_eq_getElem_cons (l := s.data.toList) (i := 0) hl
  rw [List.drop_zero] at this
  exact this
theorem nameL_cons {c : UInt8} {r : List UInt8} : nameL (c :: r) = (decide ((c :: r).length ≤ 16) && lowB c && (c :: r).all nameC) := rfl
end Go.Proofs.YtpgojecldmcopaaGreatDoor
