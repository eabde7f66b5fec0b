/- Rows of bits: which bits are 1; Ones, Count and Set of the reference; lists of numbers compared. -/
import Derived.Test.YtibnegheabhbdaaDoorB24
import Derived.Deep.DeepCutAuto
namespace Go.Proofs.YtibnegheabhbdaaDoor
open Go.RowKit
def onesTo (l : List Nat) (k : Nat) : List Int := ((List.range k).filter (rbit l)).map Int.ofNat
def onesV (l : List Nat) : List Int := if chkB l.length = 0 then onesTo l (64 * l.length) else []
theorem onesTo_yes {l : List Nat} {k : Nat} (h : rbit l k = true) : onesTo l (k + 1) = onesTo l k ++ [(k : Int)] := by
  unfold onesTo
  rw [List.range_succ, List.filter_append, List.map_append]
  simp [h]
theorem onesTo_no {l : List Nat} {k : Nat} (h : rbit l k = false) : onesTo l (k + 1) = onesTo l k := by
  unfold onesTo
  rw [List.range_succ, List.filter_append, List.map_append]
  simp [h]
theorem onesTo_len (l : List Nat) (k : Nat) : (onesTo l k).length = bsum k (rbit l) := by
  induction k with
  | zero => rfl
  | succ k ih =>
    rw [bsum_succ]
    cases h : rbit l k
    · rw [onesTo_no h, ih]; rfl
    · rw [onesTo_yes h, List.length_append, ih]; rfl
theorem onesTo_le (l : List Nat) (k : Nat) : (onesTo l k).length ≤ k := by rw [onesTo_len]; exact bsum_le _ _
theorem onesV_len {l : List Nat} (hw : W64 l) : (onesV l).length = cntV l := by
  unfold onesV cntV
  by_cases h : chkB l.length = 0
  · rw [if_pos h, if_pos h, onesTo_len, cntL_bits hw]
  · rw [if_neg h, if_neg h]; rfl
theorem onesV_le (l : List Nat) : (onesV l).length ≤ 64 * l.length := by
  unfold onesV; split
  · exact onesTo_le _ _
  · simp
theorem intEl : Elem Tryd.prog 43 3 (.int .i64 0) 1 8 := ⟨Tryd.underlying43, by kernel_rfl, rfl, by decide⟩
set_option maxRecDepth 100000 in
set_option maxHeartbeats 2000000 in
theorem rones_ (w : World) (A : Option Addr) (c : Nat) (l : List Nat) (h : Reads w w.heap.size 1 A l.length (u64s l)) (hw : W64 l) (hl : l.length ≤ 9223372036854775807) :
    Calls Tryd.prog 34 #[.slice A l.length c] w (RetSl w 1 (i64s (onesV l)) (onesV l).length (chkB l.length)) := by
  obtain ⟨x, hx⟩ : ∃ x, x = chkB l.length := ⟨_, rfl⟩
  have Hx := Lib.hid hx
  rw [← hx]
  by_cases h0 : x = 0
  · subst h0
    obtain ⟨h1, h8⟩ := chkB_ok.1 hx.symm
    have HV := Lib.hid (show onesV l = onesTo l (64 * l.length) from if_pos hx.symm)
    have HG := Lib.hid (fun W (hb : Below w.heap.size w W) i hi => get_ W A c l (h.go hb) (by omega) hw i hi)
    have hn : IntKind.i64.wrap (64 * (l.length : Int)) = 64 * (l.length : Int) := IntWalk.i64_in _ (by omega)
    clear hx h hw
    go_enter Tryd.func34, Tryd.ntmps34
    go_wp2_with fail
    (with_reducible refine (rcheck_ _ A c l.length hl 0 Hx).mono ?_); rintro e w' ⟨rfl, rfl⟩
    go_wp2_with fail
    go_loopw [5, 6] (fun v i wr => ∃ (k q : Nat) (B : Option Addr) (cc : Nat), k ≤ 64 * l.length ∧ i = .int .i64 k ∧ v = .slice B q cc ∧ q ≤ k ∧ Hid (q = (onesTo l k).length) ∧ wr.ownsRow w.heap.size 3 1 (.slice B q cc) q (i64s (onesTo l k)) ∧ Below w.heap.size w wr) (fun _ i _ => 64 * l.length - (intOf i).toNat)
    case atStart => exact ⟨0, 0, none, 0, Nat.zero_le _, rfl, rfl, Nat.le_refl _, Lib.hid (show 0 = (onesTo l 0).length from rfl), World.ownsRow_nil _ _ _ _, Below.refl _ _⟩
    case round =>
      obtain ⟨k, q, B, cc, hk, rfl, rfl, hqk, hq, hO, hB⟩ := hrel
      by_cases hkl : k < 64 * l.length
      · have hg := HG.out wr hB k hkl
        cases hbit : rbit l k
        · rw [hbit] at hg
          have HG1 := Lib.hid hg
          have HO := Lib.hid hO
          have Hq2 := Lib.hid (show q = (onesTo l (k + 1)).length by rw [onesTo_no hbit]; exact hq.out)
          have HE := Lib.hid (onesTo_no hbit)
          clear hg hbit hO hq
          go_wp2_with fail
          (with_reducible refine (HG1.out).mono ?_); rintro e w' ⟨rfl, rfl⟩
          go_wp2
          go_roundw
          case rel => exact ⟨k + 1, q, B, cc, by omega, by go_num, rfl, by omega, Hq2, by rw [HE.out]; exact HO.out, hB⟩
          case measure => simp [intOf]; omega
        · rw [hbit] at hg
          have HG1 := Lib.hid hg
          have Hq2 := Lib.hid (show q + 1 = (onesTo l (k + 1)).length by rw [onesTo_yes hbit, List.length_append, ← hq.out]; rfl)
          have HE := Lib.hid (onesTo_yes hbit)
          clear hg hbit hq
          go_wp2_with fail
          (with_reducible refine (HG1.out).mono ?_); rintro e w' ⟨rfl, rfl⟩
          go_wp2_with (at_builtin; refine wpList_ap intEl (w0 := w) (hO.alloc _) (ba hB _) [.int .i64 _] (by exact alloc1_new _ _) ?_)
          intro g cap w2 hO2 hB2 hg2
          have HO2 := Lib.hid hO2
          clear hO hg2 hO2 hB
          go_wp2
          go_roundw
          case rel => exact ⟨k + 1, q + 1, _, _, by omega, by go_num, rfl, by omega, Hq2, by rw [HE.out, i64s, List.map_append]; exact HO2.out, hB2⟩
          case measure => simp [intOf]; omega
      · obtain rfl : k = 64 * l.length := by omega
        have HO := Lib.hid hO
        clear hO
        go_wp2
        go_ret2
        rw [HV.out]
        exact RetSl.of_own HO.out hB rfl hq.out rfl
  · have HV := Lib.hid (show onesV l = [] from if_neg (by rw [← hx]; exact h0))
    have e1 : (x != 0) = true := by simpa using h0
    clear hx h0 h
    go_enter Tryd.func34, Tryd.ntmps34
    go_wp2_with fail
    (with_reducible refine (rcheck_ _ A c l.length hl x Hx).mono ?_); rintro e w' ⟨rfl, rfl⟩
    go_wp2
    go_ret2
    exact RetSl.nil (Below.refl _ _) (by rw [HV.out]; rfl) (by rw [HV.out]; rfl)
theorem rcount_ (w : World) (A : Option Addr) (c : Nat) (l : List Nat) (h : Reads w w.heap.size 1 A l.length (u64s l)) (hw : W64 l) (hl : l.length ≤ 9223372036854775807) :
    Calls Tryd.prog 32 #[.slice A l.length c] w fun e w' => e = .returned (.tuple #[.int .i64 (cntV l), .int .i64 (chkB l.length)]) ∧ Below w.heap.size w w' := by
  have H1 := Lib.hid (rones_ w A c l h hw hl)
  have HL := Lib.hid (onesV_len hw)
  clear h hw
  go_enter Tryd.func32, Tryd.ntmps32
  go_wp2_with fail
  (with_reducible refine (H1.out).mono ?_); rintro e w1 ⟨A1, c1, rfl, hb1, _, _, _⟩
  rw [HL.out]
  go_wp2
  go_ret2
  exact ⟨rfl, hb1⟩
def setL (l : List Nat) (i : Int) (v : Bool) : List Nat := if getE l.length i = 0 then setB l i.toNat v else []
set_option maxRecDepth 100000 in
theorem rset_ (w : World) (A : Option Addr) (c : Nat) (l : List Nat) (h : Reads w w.heap.size 1 A l.length (u64s l)) (hw : W64 l) (hl : l.length ≤ 9223372036854775807) (i : Int) (hi : -9223372036854775808 ≤ i ∧ i ≤ 9223372036854775807) (v : Bool) :
    Calls Tryd.prog 31 #[.slice A l.length c, .int .i64 i, .bool v] w (RetSl w 1 (u64s (setL l i v)) (setL l i v).length (getE l.length i)) := by
  have hg := rget_ w A c l h hw hl i hi
  by_cases h0 : getE l.length i = 0
  · have hin : chkB l.length = 0 ∧ ∃ k : Nat, i = k ∧ k < 64 * l.length := by
      unfold getE at h0
      by_cases hc : chkB l.length ≠ 0
      · rw [if_pos hc] at h0; exact absurd h0 hc
      · rw [if_neg hc] at h0
        by_cases hr : i < 0 ∨ 64 * (l.length : Int) ≤ i
        · rw [if_pos hr] at h0; cases h0
        · exact ⟨by simpa using hc, i.toNat, by omega, by omega⟩
    obtain ⟨hc, k, rfl, hk⟩ := hin
    have h8 := chkB_ok.1 hc
    have HL := Lib.hid (show setL l k v = setB l k v from if_pos h0)
    have HW := Lib.hid (with_ w A c l h (by omega) hw k hk v)
    rw [h0] at hg
    have H0 := Lib.hid h0
    have HG := Lib.hid hg
    generalize getV l k = gv at *
    clear hg h0 hc h hw
    go_enter Tryd.func31, Tryd.ntmps31
    go_wp2_with fail
    (with_reducible refine (HG.out).mono ?_); rintro e w' ⟨rfl, rfl⟩
    go_wp2_with fail
    (with_reducible refine (HW.out).mono ?_); rintro e w1 ⟨A1, c1, rfl, hO, hb1⟩
    have HO := Lib.hid hO
    clear hO
    go_wp2
    go_ret2
    rw [HL.out, H0.out]
    exact RetSl.of_own HO.out hb1 rfl rfl rfl
  · have HL := Lib.hid (show setL l i v = [] from if_neg h0)
    generalize getE l.length i = E at *
    have e1 : (E != 0) = true := by simpa using h0
    have HG := Lib.hid hg
    generalize getV l i = gv at *
    clear hg h0 h
    go_enter Tryd.func31, Tryd.ntmps31
    go_wp2_with fail
    (with_reducible refine (HG.out).mono ?_); rintro e w' ⟨rfl, rfl⟩
    go_wp2
    go_ret2
    exact RetSl.nil (Below.refl _ _) (by rw [HL.out]; rfl) (by rw [HL.out]; rfl)

set_option maxRecDepth 100000 in
set_option maxHeartbeats 2000000 in
theorem ints_ (w : World) (B B' : Nat) (A A' : Option Addr) (c c' : Nat) (l m : List Int) (h : Reads w B 1 A l.length (i64s l)) (h' : Reads w B' 1 A' m.length (i64s m)) (hl : l.length ≤ 9223372036854775807) (q : Bool) (hq : Hid (q = decide (l = m))) :
    Calls Tryd.prog 35 #[.slice A l.length c, .slice A' m.length c'] w fun e w' => e = .returned (.bool q) ∧ Below w.heap.size w w' := by
  by_cases hlen : l.length = m.length
  · have e0 : ((l.length : Int) != (m.length : Int)) = false := by simp [hlen]
    have hm : m.length ≤ l.length := by omega
    have Hlen := Lib.hid hlen
    clear hlen
    go_enter Tryd.func35, Tryd.ntmps35
    go_wp2
    go_loopw [5] (fun i wr => ∃ k : Nat, k ≤ l.length ∧ i = .int .i64 k ∧ Below w.heap.size w wr ∧ (∀ p, wr.cell? p = w.cell? p) ∧ CmpRel l m k) (fun i _ => l.length - (intOf i).toNat)
    case atStart => exact ⟨0, Nat.zero_le _, rfl, Below.refl _ _, fun _ => rfl, rfl⟩
    case round =>
      obtain ⟨k, hk, rfl, hbl, hsame, hr⟩ := hrel
      by_cases hlt : k < l.length
      · have hltm : k < m.length := by rw [← Hlen.out]; exact hlt
        obtain ⟨b, off, rfl, hb, d1⟩ := i64At h hlt
        obtain ⟨b', off', rfl, hb', d1'⟩ := i64At h' hltm
        have hd := Lib.hid (show l.drop k = l.getD k 0 :: l.drop (k + 1) by rw [List.drop_eq_getElem_cons hlt]; simp [hlt])
        have hd' := Lib.hid (show m.drop k = m.getD k 0 :: m.drop (k + 1) by rw [List.drop_eq_getElem_cons hltm]; simp [hltm])
        have c1 := (hsame ⟨b, off + k, none⟩).trans d1
        have c1' := (hsame ⟨b', off' + k, none⟩).trans d1'
        generalize l.getD k 0 = x at *
        generalize m.getD k 0 = y at *
        have Hs := Lib.hid hsame
        clear d1 d1' hsame
        have hi1 : (k : Int) < (l.length : Int) := by omega
        have hi1' : (k : Int) < (m.length : Int) := by omega
        have hi0 : (0 : Int) ≤ (k : Int) := by omega
        by_cases hxy : x = y
        · have e1 : (x != y) = false := by simp [hxy]
          have Hxy := Lib.hid hxy
          clear hxy
          go_wp2
          go_quiet (fail)
          go_wp2
          go_roundw
          case rel =>
            go_light
            exact ⟨k + 1, by omega, by go_num, Go.RowKit.Below.trans hbl (drewN_below _ _), fun p => Hs.out p, hr.step hd hd' Hxy.out⟩
          case measure => simp [intOf]; omega
        · have e1 : (x != y) = true := by simpa using hxy
          have Hxy := Lib.hid hxy
          clear hxy
          go_wp2
          go_quiet (fail)
          go_wp2
          go_ret
          go_light
          exact ⟨ret_bool (by rw [hq.out, decide_eq_false (CmpRel.stop hd hd' Hxy.out)]), Go.RowKit.Below.trans hbl (drewN_below _ _)⟩
      · have hd := hr.done (by omega) (by rw [← Hlen.out]; omega)
        have HD := Lib.hid hd
        clear hd
        go_wp2
        go_ret
        exact ⟨ret_bool (by rw [hq.out, decide_eq_true HD.out]), hbl⟩
  · have e0 : ((l.length : Int) != (m.length : Int)) = true := by rw [bne_iff_ne]; omega
    have Hn := Lib.hid (show l ≠ m from fun e => hlen (by rw [e]))
    clear hlen
    go_enter Tryd.func35, Tryd.ntmps35
    go_wp2
    go_ret
    exact ⟨ret_bool (by rw [hq.out, decide_eq_false Hn.out]), Below.refl _ _⟩
end Go.Proofs.YtibnegheabhbdaaDoor
