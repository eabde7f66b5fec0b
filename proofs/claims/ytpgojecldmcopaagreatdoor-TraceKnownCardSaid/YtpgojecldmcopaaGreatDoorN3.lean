/- Bytes of a string. No condition. -/
import Derived.Test.YtpgojecldmcopaaGreatDoorMem
namespace Go.Proofs.YtpgojecldmcopaaGreatDoor
open Go.RowKit
theorem at_data (s : ByteArray) (k : Nat) (h : k < s.size) : s.data.toList[k]? = some s[k] := by
  rw [List.getElem?_eq_getElem (by simpa using h)]; rfl
theorem arr_eta (F : ByteArray) : (⟨F.data.toList.toArray⟩ : ByteArray) = F := by cases F; rfl
theorem ext_list2 (s : ByteArray) (a b : Nat) : (s.extract a b).data.toList = (s.data.toList.drop a).take (b - a) := by
  rw [ByteArray.data_extract, Array.toList_extract]
theorem ext_from (s : ByteArray) (k : Nat) : (s.extract k s.size).data.toList = s.data.toList.drop k := by
  rw [ext_list2, List.take_of_length_le]; simp
end Go.Proofs.YtpgojecldmcopaaGreatDoor
