/- BitsSets: Check, Get, Set, Count, Ones and Of of the program answer as the reference does. -/
import Derived.Test.YtibnegheabhbdaaDoorB30
namespace Go.Proofs.YtibnegheabhbdaaDoor
open Go.RowKit
theorem setL_len (l : List Nat) (i : Int) (v : Bool) : (setL l i v).length ≤ l.length := by
  unfold setL
  split
  · rw [setB_len]; exact Nat.le_refl _
  · simp
theorem ofL_len (n : Int) (L : List Int) : (ofL n L).length ≤ 8 := by
  unfold ofL
  by_cases h : ofE n L = 0
  · rw [if_pos h, rowOf_len]
    unfold ofE at h
    by_cases h1 : n < 1
    · omega
    · rw [if_neg h1] at h
      by_cases h2 : 8 < n
      · rw [if_pos h2] at h; cases h
      · omega
  · rw [if_neg h]; simp
set_option maxRecDepth 100000 in
set_option maxHeartbeats 8000000 in
theorem bitsSets_nat (w : World) (A A' : Option Addr) (c c' : Nat) (l : List Nat) (L : List Int) (h : Reads w w.heap.size 1 A l.length (u64s l)) (h' : Reads w w.heap.size 1 A' L.length (i64s L)) (hw : W64 l) (hl : l.length ≤ 9223372036854775807) (hl' : L.length ≤ 9223372036854775807) (i : Int) (hi : -9223372036854775808 ≤ i ∧ i ≤ 9223372036854775807) (hT : Tzt w) :
    Calls Tryd.prog 8 #[.slice A l.length c, .int .i64 i, .slice A' L.length c'] w fun e w' => e = .returned (.bool true) ∧ Below w.heap.size w w' := by
  have HT := Lib.hid hT
  have HR := Lib.hid h
  have HR' := Lib.hid h'
  have Hw := Lib.hid hw
  clear hT h hw h'
  by_cases hf : 20 < l.length
  · have Hf := Lib.hid (show true = decide (20 < l.length) by simp [hf])
    go_enter Tryd.func8, Tryd.ntmps8
    go_wp2_with fail
    (with_reducible refine (far_ _ A c l.length true Hf hl).mono ?_); rintro e w' ⟨rfl, rfl⟩
    go_wp2_with fail
    (with_reducible refine (awake_ _ HT.out.of16).mono ?_); rintro e w1 ⟨rfl, hb1⟩
    go_wp2
    go_ret
    exact ⟨rfl, hb1⟩
  have Hf := Lib.hid (show false = decide (20 < l.length) by simp [hf])
  clear hf
  by_cases hf : 100 < L.length
  · go_enter Tryd.func8, Tryd.ntmps8
    go_wp2_with fail
    (with_reducible refine (far_ _ A c l.length false Hf hl).mono ?_); rintro e w' ⟨rfl, rfl⟩
    go_wp2_with fail
    (with_reducible refine (awake_ _ HT.out.of16).mono ?_); rintro e w1 ⟨rfl, hb1⟩
    go_wp2
    go_ret
    exact ⟨rfl, hb1⟩
  · have hL1 : L.length ≤ 100 := by omega
    clear hf
    obtain ⟨E, hE⟩ : ∃ E, E = chkB l.length := ⟨_, rfl⟩
    obtain ⟨G, hG⟩ : ∃ G, G = getE l.length i := ⟨_, rfl⟩
    obtain ⟨V, hV⟩ : ∃ V, V = getV l i := ⟨_, rfl⟩
    obtain ⟨CN, hCN⟩ : ∃ CN, CN = cntV l := ⟨_, rfl⟩
    obtain ⟨ON, hON⟩ : ∃ ON, ON = onesV l := ⟨_, rfl⟩
    obtain ⟨SF, hSF⟩ : ∃ S, S = setL l i false := ⟨_, rfl⟩
    obtain ⟨ST, hST⟩ : ∃ S, S = setL l i true := ⟨_, rfl⟩
    have H1 := Lib.hid (pget_ w A c l HR.out Hw.out hl i hi)
    have H2 := Lib.hid (fun W (hb : Below w.heap.size w W) => rget_ W A c l (HR.out.go hb) Hw.out hl i hi)
    have H3 := Lib.hid (fun W (hb : Below w.heap.size w W) => set_ W A c l (HR.out.go hb) Hw.out hl i hi false)
    have H4 := Lib.hid (fun W (hb : Below w.heap.size w W) => rset_ W A c l (HR.out.go hb) Hw.out hl i hi false)
    have H5 := Lib.hid (fun W (hb : Below w.heap.size w W) => set_ W A c l (HR.out.go hb) Hw.out hl i hi true)
    have H6 := Lib.hid (fun W (hb : Below w.heap.size w W) => rset_ W A c l (HR.out.go hb) Hw.out hl i hi true)
    have H7 := Lib.hid (fun W (hb : Below w.heap.size w W) => count_ W A c l (HR.out.go hb) Hw.out hl)
    have H8 := Lib.hid (fun W (hb : Below w.heap.size w W) => rcount_ W A c l (HR.out.go hb) Hw.out hl)
    have H9 := Lib.hid (fun W (hb : Below w.heap.size w W) => ones_ W A c l (HR.out.go hb) Hw.out hl (HT.out.below hb))
    have HA := Lib.hid (fun W (hb : Below w.heap.size w W) => rones_ W A c l (HR.out.go hb) Hw.out hl)
    have HB := Lib.hid (fun W (hb : Below w.heap.size w W) n hn => of_ W A' c' n hn L (HR'.out.go hb) hl')
    have HC := Lib.hid (fun W (hb : Below w.heap.size w W) n hn => rof_ W A' c' n hn L (HR'.out.go hb) hl')
    rw [← hV, ← hG] at H1 H2
    rw [← hSF, ← hG] at H3 H4
    rw [← hST, ← hG] at H5 H6
    rw [← hCN, ← hE] at H7 H8
    rw [← hON, ← hE] at H9 HA
    have hsf : SF.length ≤ 9223372036854775807 := by rw [hSF]; exact Nat.le_trans (setL_len l i false) hl
    have hst : ST.length ≤ 9223372036854775807 := by rw [hST]; exact Nat.le_trans (setL_len l i true) hl
    have hon : ON.length ≤ 9223372036854775807 := by
      rw [hON]
      have := onesV_le l
      unfold onesV
      by_cases hc : chkB l.length = 0
      · have := chkB_ok.1 hc
        rw [if_pos hc]
        have := onesTo_le l (64 * l.length)
        omega
      · rw [if_neg hc]; simp
    have HEx := Lib.hid hE
    have hEE : (E != E) = false := by simp
    have hGG : (G != G) = false := by simp
    have hVV : (V != V) = false := by simp
    clear hE hG hV hCN hON hSF hST HR HR'
    go_enter Tryd.func8, Tryd.ntmps8
    go_wp2_with fail
    (with_reducible refine (far_ _ A c l.length false Hf hl).mono ?_); rintro e w' ⟨rfl, rfl⟩
    go_wp2_with fail
    (with_reducible refine (H1.out).mono ?_); rintro e w1 ⟨rfl, hb⟩
    have HW := Lib.hid hb
    clear hb H1
    go_wp2_with fail
    (with_reducible refine (H2.out _ HW.out).mono ?_); rintro e w' ⟨rfl, rfl⟩
    go_wp2_with fail
    (with_reducible refine (check_ _ A c l.length hl E HEx).mono ?_); rintro e w' ⟨rfl, rfl⟩
    go_wp2_with fail
    (with_reducible refine (rcheck_ _ A c l.length hl E HEx).mono ?_); rintro e w' ⟨rfl, rfl⟩
    clear H2
    go_wp2_with fail
    go_loopw [11] (fun i wr => ∃ k : Nat, k ≤ 2 ∧ i = .int .i64 k ∧ Hid (Below w.heap.size w wr)) (fun i _ => 2 - (intOf i).toNat)
    case atStart => exact ⟨0, by omega, rfl, HW⟩
    case round =>
      obtain ⟨k, hk, rfl, HK⟩ := hrel
      clear HW
      rcases (show k = 0 ∨ k = 1 ∨ k = 2 by omega) with rfl | rfl | rfl
      · go_wp2_with fail
        (with_reducible refine (H3.out _ HK.out).mono ?_); rintro e w2 ⟨A2, c2, rfl, hb, hr2, _, _⟩
        have HK2 := Lib.hid (bt HK.out hb)
        have HR2 := Lib.hid hr2
        clear hb hr2
        go_wp2_with fail
        (with_reducible refine (H4.out _ HK2.out).mono ?_); rintro e w3 ⟨A3, c3, rfl, hb, hr3, _, _⟩
        have HK3 := Lib.hid (bt HK2.out hb)
        have HR2 := Lib.hid (HR2.out.go hb)
        have HR3 := Lib.hid hr3
        clear hb hr3
        go_wp2_with fail
        (with_reducible refine (same_ _ _ _ A2 A3 c2 c3 SF SF HR2.out HR3.out hsf true (Lib.hid (by simp))).mono ?_); rintro e w4 ⟨rfl, hb⟩
        have HK4 := Lib.hid (bt HK3.out hb)
        clear hb
        go_wp2
        go_roundw
        case rel => exact ⟨1, by omega, rfl, HK4⟩
        case measure => simp [intOf]
      · go_wp2_with fail
        (with_reducible refine (H5.out _ HK.out).mono ?_); rintro e w2 ⟨A2, c2, rfl, hb, hr2, _, _⟩
        have HK2 := Lib.hid (bt HK.out hb)
        have HR2 := Lib.hid hr2
        clear hb hr2
        go_wp2_with fail
        (with_reducible refine (H6.out _ HK2.out).mono ?_); rintro e w3 ⟨A3, c3, rfl, hb, hr3, _, _⟩
        have HK3 := Lib.hid (bt HK2.out hb)
        have HR2 := Lib.hid (HR2.out.go hb)
        have HR3 := Lib.hid hr3
        clear hb hr3
        go_wp2_with fail
        (with_reducible refine (same_ _ _ _ A2 A3 c2 c3 ST ST HR2.out HR3.out hst true (Lib.hid (by simp))).mono ?_); rintro e w4 ⟨rfl, hb⟩
        have HK4 := Lib.hid (bt HK3.out hb)
        clear hb
        go_wp2
        go_roundw
        case rel => exact ⟨2, by omega, rfl, HK4⟩
        case measure => simp [intOf]
      · clear H3 H4 H5 H6
        go_wp2_with fail
        (with_reducible refine (H7.out _ HK.out).mono ?_); rintro e w2 ⟨rfl, hb⟩
        have HK2 := Lib.hid (bt HK.out hb)
        clear hb
        go_wp2_with fail
        (with_reducible refine (H8.out _ HK2.out).mono ?_); rintro e w3 ⟨rfl, hb⟩
        have HK3 := Lib.hid (bt HK2.out hb)
        clear hb
        go_wp2_with fail
        (with_reducible refine (H9.out _ HK3.out).mono ?_); rintro e w4 ⟨A4, c4, rfl, hb, hr4, _, _⟩
        have HK4 := Lib.hid (bt HK3.out hb)
        have HR4 := Lib.hid hr4
        clear hb hr4
        go_wp2_with fail
        (with_reducible refine (HA.out _ HK4.out).mono ?_); rintro e w5 ⟨A5, c5, rfl, hb, hr5, _, _⟩
        have HK5 := Lib.hid (bt HK4.out hb)
        have HR4 := Lib.hid (HR4.out.go hb)
        have HR5 := Lib.hid hr5
        clear hb hr5 H7 H8 H9 HA
        go_wp2_with fail
        (with_reducible refine (ints_ _ _ _ A4 A5 c4 c5 ON ON HR4.out HR5.out hon true (Lib.hid (by simp))).mono ?_); rintro e w6 ⟨rfl, hb⟩
        have HK6 := Lib.hid (bt HK5.out hb)
        clear hb HK2 HK3 HK4 HK5 HK
        go_wp2_with fail
        go_loopw [22] (fun i wr => ∃ n : Int, -1 ≤ n ∧ n ≤ 10 ∧ i = .int .i64 n ∧ Hid (Below w.heap.size w wr)) (fun i _ => (10 - intOf i).toNat)
        case atStart => exact ⟨-1, by omega, by omega, rfl, HK6⟩
        case round =>
          obtain ⟨n, hn1, hn2, rfl, HK⟩ := hrel
          clear HK6
          by_cases hn : n ≤ 9
          · have hB1 := Lib.hid (fun W (hb : Below w.heap.size w W) => HB.out W hb n (by omega))
            have hC1 := Lib.hid (fun W (hb : Below w.heap.size w W) => HC.out W hb n (by omega))
            have hol := ofL_len n L
            generalize ofL n L = OL at *
            generalize ofE n L = OE at *
            have hOO : (OE != OE) = false := by simp
            go_wp2_with fail
            (with_reducible refine (hB1.out _ HK.out).mono ?_); rintro e w2 ⟨A2, c2, rfl, hb, hr2, _, _⟩
            have HK2 := Lib.hid (bt HK.out hb)
            have HR2 := Lib.hid hr2
            clear hb hr2
            go_wp2_with fail
            (with_reducible refine (hC1.out _ HK2.out).mono ?_); rintro e w3 ⟨A3, c3, rfl, hb, hr3, _, _⟩
            have HK3 := Lib.hid (bt HK2.out hb)
            have HR2 := Lib.hid (HR2.out.go hb)
            have HR3 := Lib.hid hr3
            clear hb hr3
            go_wp2_with fail
            (with_reducible refine (same_ _ _ _ A2 A3 c2 c3 OL OL HR2.out HR3.out (by omega) true (Lib.hid (by simp))).mono ?_); rintro e w4 ⟨rfl, hb⟩
            have HK4 := Lib.hid (bt HK3.out hb)
            clear hb
            go_wp2
            go_roundw
            case rel => exact ⟨n + 1, by omega, by omega, rfl, HK4⟩
            case measure => simp [intOf]; omega
          · go_wp2_with fail
            (with_reducible refine (awake_ _ (tz16_below HT.out.of16 HK.out)).mono ?_); rintro e w7 ⟨rfl, hb⟩
            have hBe := bt HK.out hb
            go_wp2
            go_ret
            exact ⟨rfl, hBe⟩
theorem bitsSets_walk (W : World) (A : Option Addr) (c : Nat) (L : List Int) (h : Reads W W.heap.size 1 A L.length (L.map (Value.int .u64))) (hx : ∀ x ∈ L, 0 ≤ x ∧ x ≤ 18446744073709551615) (hc : L.length ≤ c ∧ c ≤ 9223372036854775807)
    (i : Int) (hi : (Lit.int .i64 i).wf = true) (A' : Option Addr) (c' : Nat) (L' : List Int) (h' : Reads W W.heap.size 1 A' L'.length (L'.map (Value.int .i64))) (_ : ∀ x ∈ L', -9223372036854775808 ≤ x ∧ x ≤ 9223372036854775807) (hc' : L'.length ≤ c' ∧ c' ≤ 9223372036854775807) (hT : Tzt W) :
    Calls Tryd.prog 8 #[.slice A L.length c, .int .i64 i, .slice A' L'.length c'] W fun e w' => e = .returned (.bool true) ∧ Below W.heap.size W w' := by
  obtain ⟨l, e1, hw, e2⟩ := nats_of hx
  rw [e1] at h
  rw [← e2] at h hc ⊢
  exact bitsSets_nat W A A' c c' l L' h h' hw (by omega) (by omega) i (wf_i64 hi) hT
end Go.Proofs.YtibnegheabhbdaaDoor
