/- Rows of bits: how many bits of a word are 1. -/
import Derived.Test.YtaogplmcabbikaaGreatDoorB10
namespace Go.Proofs.YtaogplmcabbikaaGreatDoor
open Go.RowKit
def on1 (x : Nat) : Nat := ((x / 2) &&& 6148914691236517205) + (x &&& 6148914691236517205)
def on2 (x : Nat) : Nat := ((x / 4) &&& 3689348814741910323) + (x &&& 3689348814741910323)
def on3 (x : Nat) : Nat := (x / 16 + x) &&& 1085102592571150095
def on4 (x : Nat) : Nat := x + x / 256
def on5 (x : Nat) : Nat := x + x / 65536
def on6 (x : Nat) : Nat := x + x / 4294967296
def ones64 (x : Nat) : Nat := on6 (on5 (on4 (on3 (on2 (on1 x))))) % 128
theorem and127 (i : Nat) (hi : i < 9223372036854775808) : bits .and .i64 (i : Int) 127 = ((i % 128 : Nat) : Int) := by
  have hx : i &&& 127 = i % 128 := Nat.and_two_pow_sub_one_eq_mod i 7
  show IntKind.i64.wrap ((BitVec.ofInt 64 (i : Int) &&& BitVec.ofInt 64 ((127 : Nat) : Int)).toNat : Int) = _
  rw [BitVec.toNat_and, ofInt_u64 i (by omega), ofInt_u64 127 (by omega), hx]
  exact IntWalk.i64_in _ (by omega)
set_option maxRecDepth 100000 in
set_option maxHeartbeats 2000000 in
theorem ones64_ (w : World) (x : Nat) (hx : x < 18446744073709551616) :
    Calls Tryz.prog 49 #[.int .u64 x] w fun e w' => e = .returned (.int .i64 (ones64 x)) ∧ w = w' := by
  have e1 : bits .and .u64 ((x : Int) / 2) 6148914691236517205 = (((x / 2) &&& 6148914691236517205 : Nat) : Int) := u64_and_nat (x / 2) 6148914691236517205 (by omega) (by decide)
  have e2 : bits .and .u64 (x : Int) 6148914691236517205 = ((x &&& 6148914691236517205 : Nat) : Int) := u64_and_nat x 6148914691236517205 hx (by decide)
  have b1 : (x / 2) &&& 6148914691236517205 ≤ 6148914691236517205 := Nat.and_le_right
  have b2 : x &&& 6148914691236517205 ≤ 6148914691236517205 := Nat.and_le_right
  have H1 := Lib.hid (show on1 x = ((x / 2) &&& 6148914691236517205) + (x &&& 6148914691236517205) from rfl)
  generalize (x / 2) &&& 6148914691236517205 = A at *
  generalize x &&& 6148914691236517205 = B at *
  have e3 : bits .and .u64 (((A : Int) + B) / 4) 3689348814741910323 = ((((A + B) / 4) &&& 3689348814741910323 : Nat) : Int) := u64_and_nat ((A + B) / 4) 3689348814741910323 (by omega) (by decide)
  have e4 : bits .and .u64 ((A : Int) + B) 3689348814741910323 = (((A + B) &&& 3689348814741910323 : Nat) : Int) := u64_and_nat (A + B) 3689348814741910323 (by omega) (by decide)
  have b3 : ((A + B) / 4) &&& 3689348814741910323 ≤ 3689348814741910323 := Nat.and_le_right
  have b4 : (A + B) &&& 3689348814741910323 ≤ 3689348814741910323 := Nat.and_le_right
  have H2 := Lib.hid (show on2 (A + B) = (((A + B) / 4) &&& 3689348814741910323) + ((A + B) &&& 3689348814741910323) from rfl)
  generalize ((A + B) / 4) &&& 3689348814741910323 = C at *
  generalize (A + B) &&& 3689348814741910323 = D at *
  have e5 : bits .and .u64 (((C : Int) + D) / 16 + ((C : Int) + D)) 1085102592571150095 = ((((C + D) / 16 + (C + D)) &&& 1085102592571150095 : Nat) : Int) := u64_and_nat ((C + D) / 16 + (C + D)) 1085102592571150095 (by omega) (by decide)
  have b5 : (((C + D) / 16 + (C + D)) &&& 1085102592571150095) ≤ 1085102592571150095 := Nat.and_le_right
  have H3 := Lib.hid (show on3 (C + D) = (((C + D) / 16 + (C + D)) &&& 1085102592571150095) from rfl)
  generalize ((C + D) / 16 + (C + D)) &&& 1085102592571150095 = E at *
  have HR := Lib.hid (show ones64 x = on6 (on5 (on4 E)) % 128 by unfold ones64; rw [H1.out, H2.out, H3.out])
  go_enter Tryz.func49, Tryz.ntmps49
  go_wp2
  go_ret
  rw [HR.out]
  have h4 : on4 E = E + E / 256 := rfl
  generalize on4 E = F at *
  have h5 : on5 F = F + F / 65536 := rfl
  generalize on5 F = G at *
  have h6 : on6 G = G + G / 4294967296 := rfl
  generalize on6 G = K at *
  have h7 := and127 K (by omega)
  rw [← h7]
  have h8 : (E : Int) + E / 256 + (E + E / 256) / 65536 + (E + E / 256 + (E + E / 256) / 65536) / 4294967296 = (K : Int) := by omega
  have H8 := Lib.hid h8
  clear h4 h5 h6 h7 h8
  simp only [H8.out]
  exact ⟨rfl, trivial⟩
end Go.Proofs.YtaogplmcabbikaaGreatDoor
