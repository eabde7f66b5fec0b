/- words: Name, decimal, Int of the reference. No condition. -/
import Derived.Test.YtljmidaapgppfaaDoorN9
namespace Go.Proofs.YtljmidaapgppfaaDoor
open Go.RowKit
theorem rdigit_c (c : UInt8) (w : World) : Calls Tryd.prog 52 #[.int .u8 (c.toNat : Int)] w fun e w' => e = .returned (.bool (digB c)) ∧ w' = w := by
  by_cases h1 : 48 ≤ c.toNat
  · by_cases h2 : c.toNat ≤ 57
    · have hR := Lib.hid (show digB c = true by simp [digB, h1, h2])
      have i1 : (48 : Int) ≤ (c.toNat : Int) := by omega
      have i2 : (c.toNat : Int) ≤ 57 := by omega
      clear h1 h2
      go_enter Tryd.func52, Tryd.ntmps52
      go_wp2
      go_ret
      exact ⟨ret_bool hR.out.symm, rfl⟩
    · have hR := Lib.hid (show digB c = false by simp [digB]; omega)
      have i1 : (48 : Int) ≤ (c.toNat : Int) := by omega
      have i2 : ¬ ((c.toNat : Int) ≤ 57) := by omega
      clear h1 h2
      go_enter Tryd.func52, Tryd.ntmps52
      go_wp2
      go_ret
      exact ⟨ret_bool hR.out.symm, rfl⟩
  · have hR := Lib.hid (show digB c = false by simp [digB]; omega)
    have i1 : ¬ ((48 : Int) ≤ (c.toNat : Int)) := by omega
    clear h1
    go_enter Tryd.func52, Tryd.ntmps52
    go_wp2
    go_ret
    exact ⟨ret_bool hR.out.symm, rfl⟩
theorem all_step {p : UInt8 → Bool} {l : List UInt8} {k : Nat} {c : UInt8} (hk : l[k]? = some c) (h : (l.take k).all p = true) (hc : p c = true) : (l.take (k + 1)).all p = true := by
  rw [List.take_add_one, hk, List.all_append, h]; simp [hc]
theorem all_no {p : UInt8 → Bool} {l : List UInt8} {k : Nat} {c : UInt8} (hk : l[k]? = some c) (hc : p c = false) : l.all p = false := by
  rw [List.all_eq_false]; exact ⟨c, List.mem_of_getElem? hk, by rw [hc]; decide⟩
theorem nameC_of {c : UInt8} {a b d : Bool} (ha : lowB c = a) (hb : digB c = b) (hd : (c == 45) = d) : nameC c = (a || b || d) := by unfold nameC; rw [ha, hb, hd]
theorem eq45 (c : UInt8) : (c == 45) = ((c.toNat : Int) == 45) := by
  rw [Bool.eq_iff_iff]
  simp only [beq_iff_eq]
  constructor
  · intro h; rw [h]; rfl
  · intro h; exact UInt8.toNat_inj.1 (by have : (45 : UInt8).toNat = 45 := rfl; omega)
end Go.Proofs.YtljmidaapgppfaaDoor
