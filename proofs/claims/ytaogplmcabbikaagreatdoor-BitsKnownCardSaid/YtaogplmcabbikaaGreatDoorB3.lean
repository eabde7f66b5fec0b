/- Rows of bits: Check, Same; Shift of the reference. -/
import Derived.Test.YtaogplmcabbikaaGreatDoorB2
namespace Go.Proofs.YtaogplmcabbikaaGreatDoor
open Go.RowKit
def chkB (n : Nat) : Int := if n = 0 then 6 else if 8 < n then 3 else 0
theorem chkB_ok {n : Nat} : chkB n = 0 ↔ 1 ≤ n ∧ n ≤ 8 := by
  unfold chkB
  by_cases h : n = 0
  · rw [if_pos h]; omega
  · rw [if_neg h]
    by_cases h2 : 8 < n
    · rw [if_pos h2]; omega
    · rw [if_neg h2]; omega
theorem check_ (w : World) (A : Option Addr) (c n : Nat) (hn : n ≤ 9223372036854775807) (x : Int) (hx : Hid (x = chkB n)) :
    Calls Tryz.prog 15 #[.slice A n c] w fun e w' => e = .returned (.int .i64 x) ∧ w = w' := by
  by_cases h0 : n = 0
  · have HX := Lib.hid (show x = 6 by rw [hx.out]; exact if_pos h0)
    subst h0
    go_enter Tryz.func15, Tryz.ntmps15
    go_wp2
    go_ret
    exact ⟨ret_int HX.out.symm, rfl⟩
  · have e0 : ((n : Int) == 0) = false := by simpa using h0
    by_cases h1 : 8 < n
    · have HX := Lib.hid (show x = 3 by rw [hx.out]; unfold chkB; rw [if_neg h0, if_pos h1])
      clear h0
      go_enter Tryz.func15, Tryz.ntmps15
      go_wp2
      go_ret
      exact ⟨ret_int HX.out.symm, rfl⟩
    · have HX := Lib.hid (show x = 0 by rw [hx.out]; unfold chkB; rw [if_neg h0, if_neg h1])
      clear h0
      go_enter Tryz.func15, Tryz.ntmps15
      go_wp2
      go_ret
      exact ⟨ret_int HX.out.symm, rfl⟩
def bitN (b : Bool) : Nat := if b then 1 else 0
theorem bit_ (b : Bool) (w : World) : Calls Tryz.prog 16 #[.bool b] w fun e w' => e = .returned (.int .u64 (bitN b : Nat)) ∧ w = w' := by
  cases b
  all_goals
    go_enter Tryz.func16, Tryz.ntmps16
    go_wp2
    go_ret
    exact ⟨rfl, rfl⟩
set_option maxRecDepth 100000 in
set_option maxHeartbeats 1000000 in
theorem same_ (w : World) (B B' : Nat) (A A' : Option Addr) (c c' : Nat) (l m : List Nat) (h : Reads w B 1 A l.length (u64s l)) (h' : Reads w B' 1 A' m.length (u64s m)) (hl : l.length ≤ 9223372036854775807) (q : Bool) (hq : Hid (q = decide (l = m))) :
    Calls Tryz.prog 13 #[.slice A l.length c, .slice A' m.length c'] w fun e w' => e = .returned (.bool q) ∧ Below w.heap.size w w' := by
  by_cases hlen : l.length = m.length
  · have e0 : ((l.length : Int) != (m.length : Int)) = false := by simp [hlen]
    have hm : m.length ≤ l.length := by omega
    have Hlen := Lib.hid hlen
    clear hlen
    go_enter Tryz.func13, Tryz.ntmps13
    go_wp2
    go_loopw [5] (fun i wr => ∃ k : Nat, k ≤ l.length ∧ i = .int .i64 k ∧ Below w.heap.size w wr ∧ (∀ p, wr.cell? p = w.cell? p) ∧ CmpRel l m k) (fun i _ => l.length - (intOf i).toNat)
    case atStart => exact ⟨0, Nat.zero_le _, rfl, Below.refl _ _, fun _ => rfl, rfl⟩
    case round =>
      obtain ⟨k, hk, rfl, hbl, hsame, hr⟩ := hrel
      by_cases hlt : k < l.length
      · have hltm : k < m.length := by rw [← Hlen.out]; exact hlt
        obtain ⟨b, off, rfl, hb, d1⟩ := u64At h hlt
        obtain ⟨b', off', rfl, hb', d1'⟩ := u64At h' hltm
        have hd := Lib.hid (show l.drop k = l.getD k 0 :: l.drop (k + 1) by rw [List.drop_eq_getElem_cons hlt]; simp [hlt])
        have hd' := Lib.hid (show m.drop k = m.getD k 0 :: m.drop (k + 1) by rw [List.drop_eq_getElem_cons hltm]; simp [hltm])
        have c1 := (hsame ⟨b, off + k, none⟩).trans d1
        have c1' := (hsame ⟨b', off' + k, none⟩).trans d1'
        generalize l.getD k 0 = x at *
        generalize m.getD k 0 = y at *
        have Hs := Lib.hid hsame
        clear d1 d1' hsame
        have hi1 : (k : Int) < (l.length : Int) := by omega
        have hi1' : (k : Int) < (m.length : Int) := by omega
        have hi0 : (0 : Int) ≤ (k : Int) := by omega
        by_cases hxy : x = y
        · have e1 : ((x : Int) != (y : Int)) = false := by simp [hxy]
          have Hxy := Lib.hid hxy
          clear hxy
          go_wp2
          go_quiet (fail)
          go_wp2
          go_roundw
          case rel =>
            go_light
            exact ⟨k + 1, by omega, by go_num, Go.RowKit.Below.trans hbl (drewN_below _ _), fun p => Hs.out p, hr.step hd hd' Hxy.out⟩
          case measure => simp [intOf]; omega
        · have e1 : ((x : Int) != (y : Int)) = true := by simp; omega
          have Hxy := Lib.hid hxy
          clear hxy
          go_wp2
          go_quiet (fail)
          go_wp2
          go_ret
          go_light
          exact ⟨ret_bool (by rw [hq.out, decide_eq_false (CmpRel.stop hd hd' Hxy.out)]), Go.RowKit.Below.trans hbl (drewN_below _ _)⟩
      · have hd := hr.done (by omega) (by rw [← Hlen.out]; omega)
        have HD := Lib.hid hd
        clear hd
        go_wp2
        go_ret
        exact ⟨ret_bool (by rw [hq.out, decide_eq_true HD.out]), hbl⟩
  · have e0 : ((l.length : Int) != (m.length : Int)) = true := by rw [bne_iff_ne]; omega
    have Hn := Lib.hid (show l ≠ m from fun e => hlen (by rw [e]))
    clear hlen
    go_enter Tryz.func13, Tryz.ntmps13
    go_wp2
    go_ret
    exact ⟨ret_bool (by rw [hq.out, decide_eq_false Hn.out]), Below.refl _ _⟩
end Go.Proofs.YtaogplmcabbikaaGreatDoor
