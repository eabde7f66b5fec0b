/- Rows of bits: which bits are 1; Ones, Count and Set of the reference; lists of numbers compared. -/
import Derived.Test.YtaogplmcabbikaaGreatDoorB24
import Derived.Deep.DeepCutAuto
namespace Go.Proofs.YtaogplmcabbikaaGreatDoor
open Go.RowKit
def onesTo (l : List Nat) (k : Nat) : List Int := ((List.range k).filter (rbit l)).map Int.ofNat
def onesV (l : List Nat) : List Int := if chkB l.length = 0 then onesTo l (64 * l.length) else []
theorem onesTo_yes {l : List Nat} {k : Nat} (h : rbit l k = true) : onesTo l (k + 1) = onesTo l k ++ [(k : Int)] := by
  unfold onesTo
  rw [List.range_succ, List.filter_append, List.map_append]
  simp [h]
theorem onesTo_no {l : List Nat} {k : Nat} (h : rbit l k = false) : onesTo l (k + 1) = onesTo l k := by
  unfold onesTo
  rw [List.range_succ, List.filter_append, List.map_append]
  simp [h]
theorem onesTo_len (l : List Nat) (k : Nat) : (onesTo l k).length = bsum k (rbit l) := by
  induction k with
  | zero => rfl
  | succ k ih =>
    rw [bsum_succ]
    cases h : rbit l k
    · rw [onesTo_no h, ih]; rfl
    · rw [onesTo_yes h, List.length_append, ih]; rfl
theorem onesTo_le (l : List Nat) (k : Nat) : (onesTo l k).length ≤ k := by rw [onesTo_len]; exact bsum_le _ _
theorem onesV_len {l : List Nat} (hw : W64 l) : (onesV l).length = cntV l := by
  unfold onesV cntV
  by_cases h : chkB l.length = 0
  · rw [if_pos h, if_pos h, onesTo_len, cntL_bits hw]
  · rw [if_neg h, if_neg h]; rfl
theorem onesV_le (l : List Nat) : (onesV l).length ≤ 64 * l.length := by
  unfold onesV; split
  · exact onesTo_le _ _
  · simp
theorem intEl : Elem Tryz.prog 26 3 (.int .i64 0) 1 8 := ⟨Tryz.underlying26, by kernel_rfl, rfl, by decide⟩
def setL (l : List Nat) (i : Int) (v : Bool) : List Nat := if getE l.length i = 0 then setB l i.toNat v else []
set_option maxRecDepth 100000 in
set_option maxHeartbeats 2000000 in
theorem ints_ (w : World) (B B' : Nat) (A A' : Option Addr) (c c' : Nat) (l m : List Int) (h : Reads w B 1 A l.length (i64s l)) (h' : Reads w B' 1 A' m.length (i64s m)) (hl : l.length ≤ 9223372036854775807) (q : Bool) (hq : Hid (q = decide (l = m))) :
    Calls Tryz.prog 12 #[.slice A l.length c, .slice A' m.length c'] w fun e w' => e = .returned (.bool q) ∧ Below w.heap.size w w' := by
  by_cases hlen : l.length = m.length
  · have e0 : ((l.length : Int) != (m.length : Int)) = false := by simp [hlen]
    have hm : m.length ≤ l.length := by omega
    have Hlen := Lib.hid hlen
    clear hlen
    go_enter Tryz.func12, Tryz.ntmps12
    go_wp2
    go_loopw [5] (fun i wr => ∃ k : Nat, k ≤ l.length ∧ i = .int .i64 k ∧ Below w.heap.size w wr ∧ (∀ p, wr.cell? p = w.cell? p) ∧ CmpRel l m k) (fun i _ => l.length - (intOf i).toNat)
    case atStart => exact ⟨0, Nat.zero_le _, rfl, Below.refl _ _, fun _ => rfl, rfl⟩
    case round =>
      obtain ⟨k, hk, rfl, hbl, hsame, hr⟩ := hrel
      by_cases hlt : k < l.length
      · have hltm : k < m.length := by rw [← Hlen.out]; exact hlt
        obtain ⟨b, off, rfl, hb, d1⟩ := i64At h hlt
        obtain ⟨b', off', rfl, hb', d1'⟩ := i64At h' hltm
        have hd := Lib.hid (show l.drop k = l.getD k 0 :: l.drop (k + 1) by rw [List.drop_eq_getElem_cons hlt]; simp [hlt])
        have hd' := Lib.hid (show m.drop k = m.getD k 0 :: m.drop (k + 1) by rw [List.drop_eq_getElem_cons hltm]; simp [hltm])
        have c1 := (hsame ⟨b, off + k, none⟩).trans d1
        have c1' := (hsame ⟨b', off' + k, none⟩).trans d1'
        generalize l.getD k 0 = x at *
        generalize m.getD k 0 = y at *
        have Hs := Lib.hid hsame
        clear d1 d1' hsame
        have hi1 : (k : Int) < (l.length : Int) := by omega
        have hi1' : (k : Int) < (m.length : Int) := by omega
        have hi0 : (0 : Int) ≤ (k : Int) := by omega
        by_cases hxy : x = y
        · have e1 : (x != y) = false := by simp [hxy]
          have Hxy := Lib.hid hxy
          clear hxy
          go_wp2
          go_quiet (fail)
          go_wp2
          go_roundw
          case rel =>
            go_light
            exact ⟨k + 1, by omega, by go_num, Go.RowKit.Below.trans hbl (drewN_below _ _), fun p => Hs.out p, hr.step hd hd' Hxy.out⟩
          case measure => simp [intOf]; omega
        · have e1 : (x != y) = true := by simpa using hxy
          have Hxy := Lib.hid hxy
          clear hxy
          go_wp2
          go_quiet (fail)
          go_wp2
          go_ret
          go_light
          exact ⟨ret_bool (by rw [hq.out, decide_eq_false (CmpRel.stop hd hd' Hxy.out)]), Go.RowKit.Below.trans hbl (drewN_below _ _)⟩
      · have hd := hr.done (by omega) (by rw [← Hlen.out]; omega)
        have HD := Lib.hid hd
        clear hd
        go_wp2
        go_ret
        exact ⟨ret_bool (by rw [hq.out, decide_eq_true HD.out]), hbl⟩
  · have e0 : ((l.length : Int) != (m.length : Int)) = true := by rw [bne_iff_ne]; omega
    have Hn := Lib.hid (show l ≠ m from fun e => hlen (by rw [e]))
    clear hlen
    go_enter Tryz.func12, Tryz.ntmps12
    go_wp2
    go_ret
    exact ⟨ret_bool (by rw [hq.out, decide_eq_false Hn.out]), Below.refl _ _⟩
end Go.Proofs.YtaogplmcabbikaaGreatDoor
