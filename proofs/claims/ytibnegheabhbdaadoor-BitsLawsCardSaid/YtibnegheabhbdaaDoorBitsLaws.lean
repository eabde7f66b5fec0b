/- BitsLaws: Not of And is Or of Nots; a row and its Not; Counts of two rows. -/
import Derived.Test.YtibnegheabhbdaaDoorB24
namespace Go.Proofs.YtibnegheabhbdaaDoor
open Go.RowKit
theorem law_not {l m : List Nat} {n : Nat} (hl : l.length = n) (hm : m.length = n) (hc : chkB n = 0) : zipB notF (zipB and l m) (zipB and l m) = zipB or (zipB notF l l) (zipB notF m m) := by
  subst hl
  have := not_and (l := l) (m := m) hc hm.symm
  rw [andL_zip hc hm.symm, notL_zip (l := zipB and l m) (by rw [zipB_len]; exact hc), notL_zip hc, notL_zip (l := m) (by rw [hm]; exact hc), orL_zip (by rw [zipB_len]; exact hc) (by rw [zipB_len, zipB_len, hm])] at this
  exact this
theorem bits_none {l : List Nat} : bsum (64 * l.length) (rbit (zipB and l (zipB notF l l))) = 0 := by
  rw [← bsum_false (64 * l.length)]
  refine bsum_congr fun i hi => ?_
  rw [zipB_bit hi, zipB_bit hi]
  cases rbit l i <;> rfl
theorem bits_all {l : List Nat} : bsum (64 * l.length) (rbit (zipB or l (zipB notF l l))) = 64 * l.length := by
  rw [bsum_congr (g := fun _ => true), bsum_true]
  intro i hi
  rw [zipB_bit hi, zipB_bit hi]
  cases rbit l i <;> rfl
theorem bits_both {l m : List Nat} : bsum (64 * l.length) (rbit (zipB and l m)) + bsum (64 * l.length) (rbit (zipB or l m)) = bsum (64 * l.length) (rbit l) + bsum (64 * l.length) (rbit m) := by
  rw [← bsum_and_or (64 * l.length) (rbit l) (rbit m)]
  rw [bsum_congr (f := rbit (zipB and l m)) (g := fun i => rbit l i && rbit m i) fun i hi => zipB_bit hi, bsum_congr (f := rbit (zipB or l m)) (g := fun i => rbit l i || rbit m i) fun i hi => zipB_bit hi]
set_option maxRecDepth 100000 in
set_option maxHeartbeats 4000000 in
theorem bitsLaws_ok (w : World) (A A' : Option Addr) (c c' n : Nat) (l m : List Nat) (hS : RS w n [] [(A, l), (A', m)] w) (hc : chkB n = 0) (hT : Tz16 w) :
    Calls Tryd.prog 6 #[.slice A n c, .slice A' n c'] w fun e w' => e = .returned (.bool true) ∧ Below w.heap.size w w' := by
  have hn := chkB_ok.1 hc
  have HT := Lib.hid hT
  have HS := Lib.hid hS
  have Hc := Lib.hid hc
  have hel := hS.len (A, l) (by simp)
  have hem := hS.len (A', m) (by simp)
  simp only at hel hem
  have HN := Lib.hid (law_not hel hem hc)
  have hz := bits_none (l := l)
  have ha := bits_all (l := l)
  have hb := bits_both (l := l) (m := m)
  rw [hel] at hz ha hb
  have hb1 := bsum_le (64 * n) (rbit l)
  have hb2 := bsum_le (64 * n) (rbit m)
  have hb3 := bsum_le (64 * n) (rbit (zipB and l m))
  have hb4 := bsum_le (64 * n) (rbit (zipB or l m))
  obtain ⟨LA, hLA⟩ : ∃ LA, LA = zipB and l m := ⟨_, rfl⟩
  obtain ⟨LO, hLO⟩ : ∃ LO, LO = zipB or l m := ⟨_, rfl⟩
  rw [← hLA] at hb hb3
  rw [← hLO] at hb hb4
  have Hf := Lib.hid (show false = decide (20 < n) by simp; omega)
  have HA := Lib.hid hLA.symm
  have HO := Lib.hid hLO.symm
  have Hz := Lib.hid hz
  have Ha := Lib.hid ha
  obtain ⟨x, hx⟩ : ∃ x, x = bsum (64 * n) (rbit l) := ⟨_, rfl⟩
  obtain ⟨y, hy⟩ : ∃ y, y = bsum (64 * n) (rbit m) := ⟨_, rfl⟩
  obtain ⟨p, hp⟩ : ∃ p, p = bsum (64 * n) (rbit LA) := ⟨_, rfl⟩
  obtain ⟨q, hq⟩ : ∃ q, q = bsum (64 * n) (rbit LO) := ⟨_, rfl⟩
  rw [← hx, ← hy, ← hp, ← hq] at hb
  rw [← hx] at hb1
  rw [← hy] at hb2
  rw [← hp] at hb3
  rw [← hq] at hb4
  have HX := Lib.hid hx.symm
  have HY := Lib.hid hy.symm
  have HP := Lib.hid hp.symm
  have HQ := Lib.hid hq.symm
  have hsum : ((x : Int) + y == (p : Int) + q) = true := by simp; omega
  have hn64 : ((64 * n : Nat) : Int) = 64 * (n : Int) := by omega
  have hall : (64 * (n : Int) != 64 * (n : Int)) = false := by simp
  clear hS hc hT hel hem hz ha hb hLA hLO hx hy hp hq
  go_enter Tryd.func6, Tryd.ntmps6
  go_wp2_with fail
  (with_reducible refine (far_ _ A c n false Hf (by omega)).mono ?_); rintro e w' ⟨rfl, rfl⟩
  go_wp2_with fail
  (with_reducible refine (far_ _ A' c' n false Hf (by omega)).mono ?_); rintro e w' ⟨rfl, rfl⟩
  go_wp2_with fail
  (with_reducible refine (and_ok HS.out (A := A) (A' := A') (l := l) (m := m) (by simp) (by simp) Hc.out).mono ?_); rintro e w1 ⟨A1, c1, rfl, hS⟩
  rw [HA.out] at hS
  have HS := Lib.hid hS
  clear hS
  go_wp2_with fail
  (with_reducible refine (or_ok HS.out (A := A) (A' := A') (l := l) (m := m) (by simp) (by simp) Hc.out).mono ?_); rintro e w2 ⟨A2, c2, rfl, hS⟩
  rw [HO.out] at hS
  have HS := Lib.hid hS
  clear hS
  go_wp2_with fail
  (with_reducible refine (not_ok HS.out (A := A) (l := l) (by simp) Hc.out).mono ?_); rintro e w3 ⟨A3, c3, rfl, hS⟩
  have HS := Lib.hid hS
  clear hS
  go_wp2_with fail
  (with_reducible refine (not_ok HS.out (A := A') (l := m) (by simp) Hc.out).mono ?_); rintro e w4 ⟨A4, c4, rfl, hS⟩
  have HS := Lib.hid hS
  clear hS
  go_wp2_with fail
  (with_reducible refine (not_ok HS.out (A := A1) (l := LA) (by simp) Hc.out).mono ?_); rintro e w5 ⟨A5, c5, rfl, hS⟩
  have HS := Lib.hid hS
  clear hS
  go_wp2_with fail
  (with_reducible refine (or_ok HS.out (A := A3) (A' := A4) (l := zipB notF l l) (m := zipB notF m m) (by simp) (by simp) Hc.out).mono ?_); rintro e w6 ⟨A6, c6, rfl, hS⟩
  have HS := Lib.hid hS
  clear hS
  go_wp2_with fail
  (with_reducible refine (same_ok HS.out (A := A5) (A' := A6) (l := zipB notF LA LA) (m := zipB or (zipB notF l l) (zipB notF m m)) (by simp) (by simp) (by rw [← HA.out]; exact HN.out) (by omega)).mono ?_); rintro e w7 ⟨rfl, hS⟩
  have HS := Lib.hid hS
  clear hS
  go_wp2_with fail
  (with_reducible refine (and_ok HS.out (A := A) (A' := A3) (l := l) (m := zipB notF l l) (by simp) (by simp) Hc.out).mono ?_); rintro e w8 ⟨A8, c8, rfl, hS⟩
  have HS := Lib.hid hS
  clear hS
  go_wp2_with fail
  (with_reducible refine (or_ok HS.out (A := A) (A' := A3) (l := l) (m := zipB notF l l) (by simp) (by simp) Hc.out).mono ?_); rintro e w9 ⟨A9, c9, rfl, hS⟩
  have HS := Lib.hid hS
  clear hS
  go_wp2_with fail
  (with_reducible refine (count_ok HS.out (A := A8) (l := zipB and l (zipB notF l l)) (by simp) Hc.out).mono ?_); rintro e wa ⟨rfl, hS⟩
  rw [Hz.out]
  have HS := Lib.hid hS
  clear hS
  go_wp2_with fail
  (with_reducible refine (count_ok HS.out (A := A9) (l := zipB or l (zipB notF l l)) (by simp) Hc.out).mono ?_); rintro e wb ⟨rfl, hS⟩
  rw [Ha.out, hn64]
  have HS := Lib.hid hS
  clear hS
  go_wp2_with fail
  (with_reducible refine (count_ok HS.out (A := A) (l := l) (by simp) Hc.out).mono ?_); rintro e wc ⟨rfl, hS⟩
  rw [HX.out]
  have HS := Lib.hid hS
  clear hS
  go_wp2_with fail
  (with_reducible refine (count_ok HS.out (A := A') (l := m) (by simp) Hc.out).mono ?_); rintro e wd ⟨rfl, hS⟩
  rw [HY.out]
  have HS := Lib.hid hS
  clear hS
  go_wp2_with fail
  (with_reducible refine (count_ok HS.out (A := A1) (l := LA) (by simp) Hc.out).mono ?_); rintro e we ⟨rfl, hS⟩
  rw [HP.out]
  have HS := Lib.hid hS
  clear hS
  go_wp2_with fail
  (with_reducible refine (count_ok HS.out (A := A2) (l := LO) (by simp) Hc.out).mono ?_); rintro e wf ⟨rfl, hS⟩
  rw [HQ.out]
  have HS := Lib.hid hS
  clear hS
  go_wp2_with fail
  (with_reducible refine (awake_ok HS.out HT.out).mono ?_); rintro e wg ⟨rfl, hB⟩
  go_wp2
  go_ret
  exact ⟨rfl, hB⟩
set_option maxRecDepth 100000 in
set_option maxHeartbeats 4000000 in
theorem bitsLaws_no (w : World) (A A' : Option Addr) (c c' : Nat) (l m : List Nat) (h : Reads w w.heap.size 1 A l.length (u64s l)) (h' : Reads w w.heap.size 1 A' m.length (u64s m)) (hw : W64 l) (hw' : W64 m) (hl : l.length ≤ 9223372036854775807) (hl' : m.length ≤ 9223372036854775807) (hT : Tz16 w)
    (hno : twoE l.length m.length ≠ 0) :
    Calls Tryd.prog 6 #[.slice A l.length c, .slice A' m.length c'] w fun e w' => e = .returned (.bool true) ∧ Below w.heap.size w w' := by
  have HT := Lib.hid hT
  have h1 := and_ w A A' c c' l m h h' hw hw' hl hl'
  have h2 := fun W (hb : Below w.heap.size w W) => or_ W A A' c c' l m (h.go hb) (h'.go hb) hw hw' hl hl'
  rw [show andL l m = [] from if_neg hno] at h1
  rw [show orL l m = [] from if_neg hno] at h2
  generalize twoE l.length m.length = E at *
  have e1 : (E != 0) = true := by simpa using hno
  have H1 := Lib.hid h1
  have H2 := Lib.hid h2
  clear hT h1 h2 hno h h' hw hw'
  by_cases hf : 20 < l.length
  · have Hf := Lib.hid (show true = decide (20 < l.length) by simp [hf])
    go_enter Tryd.func6, Tryd.ntmps6
    go_wp2_with fail
    (with_reducible refine (far_ _ A c l.length true Hf hl).mono ?_); rintro e w' ⟨rfl, rfl⟩
    go_wp2_with fail
    (with_reducible refine (awake_ _ HT.out).mono ?_); rintro e w1 ⟨rfl, hb1⟩
    go_wp2
    go_ret
    exact ⟨rfl, hb1⟩
  have Hf := Lib.hid (show false = decide (20 < l.length) by simp [hf])
  clear hf
  by_cases hf : 20 < m.length
  · have Hf' := Lib.hid (show true = decide (20 < m.length) by simp [hf])
    go_enter Tryd.func6, Tryd.ntmps6
    go_wp2_with fail
    (with_reducible refine (far_ _ A c l.length false Hf hl).mono ?_); rintro e w' ⟨rfl, rfl⟩
    go_wp2_with fail
    (with_reducible refine (far_ _ A' c' m.length true Hf' hl').mono ?_); rintro e w' ⟨rfl, rfl⟩
    go_wp2_with fail
    (with_reducible refine (awake_ _ HT.out).mono ?_); rintro e w1 ⟨rfl, hb1⟩
    go_wp2
    go_ret
    exact ⟨rfl, hb1⟩
  · have Hf' := Lib.hid (show false = decide (20 < m.length) by simp [hf])
    go_enter Tryd.func6, Tryd.ntmps6
    go_wp2_with fail
    (with_reducible refine (far_ _ A c l.length false Hf hl).mono ?_); rintro e w' ⟨rfl, rfl⟩
    go_wp2_with fail
    (with_reducible refine (far_ _ A' c' m.length false Hf' hl').mono ?_); rintro e w' ⟨rfl, rfl⟩
    go_wp2_with fail
    (with_reducible refine (H1.out).mono ?_); rintro e w1 ⟨A1, c1, rfl, hb1, hr1, hc1, hm1⟩
    rw [show (([] : List Nat).length) = 0 from rfl]
    have HB1 := Lib.hid hb1
    clear hb1 hr1 hc1 H1
    go_wp2_with fail
    (with_reducible refine (H2.out _ HB1.out).mono ?_); rintro e w2 ⟨A2, c2, rfl, hb2, hr2, hc2, hm2⟩
    rw [show (([] : List Nat).length) = 0 from rfl]
    have HB2 := Lib.hid (bt HB1.out hb2)
    clear hb2 hr2 hc2 H2
    go_wp2_with fail
    (with_reducible refine (awake_ _ (tz16_below HT.out HB2.out)).mono ?_); rintro e w3 ⟨rfl, hb3⟩
    have hB := bt HB2.out hb3
    go_wp2
    go_ret
    exact ⟨rfl, hB⟩
theorem bitsLaws_walk (W : World) (A : Option Addr) (c : Nat) (L : List Int) (h : Reads W W.heap.size 1 A L.length (L.map (Value.int .u64))) (hx : ∀ x ∈ L, 0 ≤ x ∧ x ≤ 18446744073709551615) (hc : L.length ≤ c ∧ c ≤ 9223372036854775807)
    (A' : Option Addr) (c' : Nat) (L' : List Int) (h' : Reads W W.heap.size 1 A' L'.length (L'.map (Value.int .u64))) (hx' : ∀ x ∈ L', 0 ≤ x ∧ x ≤ 18446744073709551615) (hc' : L'.length ≤ c' ∧ c' ≤ 9223372036854775807) (hT : Tzt W) :
    Calls Tryd.prog 6 #[.slice A L.length c, .slice A' L'.length c'] W fun e w' => e = .returned (.bool true) ∧ Below W.heap.size W w' := by
  obtain ⟨l, e1, hw, e2⟩ := nats_of hx
  obtain ⟨l', e1', hw', e2'⟩ := nats_of hx'
  rw [e1] at h
  rw [e1'] at h'
  rw [← e2] at h hc ⊢
  rw [← e2'] at h' hc' ⊢
  by_cases hno : twoE l.length l'.length = 0
  · obtain ⟨h0, hll⟩ := twoE_ok hno
    rw [← hll] at h' ⊢
    exact bitsLaws_ok W A A' c c' l.length l l' (((RS.start W l.length).add h' hll.symm hw').add h rfl hw) h0 hT.of16
  · exact bitsLaws_no W A A' c c' l l' h h' hw hw' (by omega) (by omega) hT.of16 hno
end Go.Proofs.YtibnegheabhbdaaDoor
