/- words: compare and follows of the program. No condition. -/
import Derived.Test.YtngbgchnbcfliaaGreatDoorP1
import Derived.Test.YtngbgchnbcfliaaGreatDoorShelf
import Derived.Test.YtngbgchnbcfliaaGreatDoorN3
import Derived.RegionTactic
import Derived.Deep.RegionHeld3
import Derived.Test.YtngbgchnbcfliaaGreatDoorStep
namespace Go.Proofs.YtngbgchnbcfliaaGreatDoor
open Go.RowKit
/-- the sign of compare: length first, then the bytes -/
def cmpI (a b : List UInt8) : Int := if a.length = b.length then Lib.compareBytes a b else (a.length : Int) - (b.length : Int)
theorem compare_ (a b : ByteArray) (w : World) (ha : a.size ≤ 1099511627776) (hb : b.size ≤ 1099511627776) :
    Calls Tryz.prog 30 #[.string a, .string b] w fun e w' => e = .returned (.int .i64 (cmpI a.data.toList b.data.toList)) ∧ w' = w := by
  have la : a.data.toList.length = a.size := rfl
  have lb : b.data.toList.length = b.size := rfl
  by_cases h : a.size = b.size
  · have m1 : ((a.size : Int) != (b.size : Int)) = false := by rw [h]; simp
    have hR := Lib.hid (show cmpI a.data.toList b.data.toList = Lib.compareBytes a.data.toList b.data.toList by unfold cmpI; rw [if_pos (by rw [la, lb]; exact h)])
    clear la lb h
    go_enter Tryz.func30, Tryz.ntmps30
    go_wp2_with fail
    (with_reducible refine (Tryz.strings_Compare a b _).mono ?_); rintro e w1 ⟨rfl, hw1⟩; subst hw1
    go_wp2
    go_ret
    exact ⟨ret_int hR.out.symm, rfl⟩
  · have m1 : ((a.size : Int) != (b.size : Int)) = true := by rw [bne_iff_ne]; omega
    have hR := Lib.hid (show cmpI a.data.toList b.data.toList = (a.size : Int) - (b.size : Int) by unfold cmpI; rw [if_neg (by rw [la, lb]; exact h), la, lb])
    clear la lb h
    go_enter Tryz.func30, Tryz.ntmps30
    go_wp2
    go_ret
    exact ⟨ret_int hR.out.symm, rfl⟩
/-- the next form -/
def nextL (a : List UInt8) : List UInt8 :=
  if k9 a = a.length then 49 :: List.replicate (k9 a) 48 else a.take (a.length - 1 - k9 a) ++ [(a.getD (a.length - 1 - k9 a) 0) + 1] ++ List.replicate (k9 a) 48
theorem rep48 : ∀ k : Nat, Lib.repeatL [48] k = List.replicate k 48
  | 0 => rfl
  | k + 1 => by show [48] ++ Lib.repeatL [48] k = _; rw [rep48 k]; rfl
theorem repeat_ (k : Nat) (w : World) (hk : k ≤ 1099511627776) :
    Calls Tryz.prog 55 #[.string ⟨#[48]⟩, .int .i64 (k : Int)] w fun e w' => e = .returned (.string ⟨(List.replicate k 48).toArray⟩) ∧ Below w.heap.size w w' := by
  have := Tryz.strings_Repeat ⟨#[48]⟩ k w (by omega) (by show 1 * k ≤ _; omega)
  have e : Lib.repeatL (⟨#[48]⟩ : ByteArray).data.toList k = List.replicate k 48 := rep48 k
  rw [e] at this
  exact this
end Go.Proofs.YtngbgchnbcfliaaGreatDoor
