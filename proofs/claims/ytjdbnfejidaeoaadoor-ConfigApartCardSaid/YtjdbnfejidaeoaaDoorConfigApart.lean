/- ConfigApart: for every configuration and shape the law returns true. No condition. -/
import Derived.Test.YtjdbnfejidaeoaaDoorAp1
namespace Go.Proofs.YtjdbnfejidaeoaaDoor
open Go.RowKit
structure ApS (w : World) (b k l s r : Int) (A : Option Addr) (L : List Rg) (w' : World) : Prop where
  fr : Fr w [(w.heap.size + 1, csO s r), (w.heap.size, cfO b k l)] w'
  rd : Reads w' w'.heap.size 3 A 9 (rgs L)
section
variable {w w1 w2 : World} {b k l s r : Int} {A : Option Addr} {L : List Rg}
theorem ApS.go (h : ApS w b k l s r A L w1) (hb : Below w1.heap.size w1 w2) : ApS w b k l s r A L w2 := ⟨h.fr.go hb, h.rd.go hb⟩
theorem ApS.drewN (h : ApS w b k l s r A L w1) (n : Nat) : ApS w b k l s r A L (w1.drewN n) := h.go (drewN_below _ _)
theorem ApS.al (h : ApS w b k l s r A L w1) (o : Obj) : ApS w b k l s r A L (w1.alloc o) := ⟨h.fr.al o, h.rd.al o⟩
theorem ApS.bel (h : ApS w b k l s r A L w1) : Below w.heap.size w w1 := h.fr.bel
end
abbrev ApT (w : World) (b k l s r : Int) (A : Option Addr) (L : List Rg) (g o : Nat) (S : Int) (w' : World) : Prop := (ApS w b k l s r A L w' ∧ g < w'.heap.size) ∧ w'.cell? ⟨g, o, none⟩ = some (.int .i64 S)
theorem ApT.drew {w w1 : World} {b k l s r S : Int} {A : Option Addr} {L : List Rg} {g o : Nat} (h : ApT w b k l s r A L g o S w1) : ApT w b k l s r A L g o S w1.drew := ⟨⟨⟨h.1.1.fr.drew, h.1.1.rd⟩, h.1.2⟩, h.2⟩
theorem ApT.al {w w1 : World} {b k l s r S : Int} {A : Option Addr} {L : List Rg} {g o : Nat} (h : ApT w b k l s r A L g o S w1) (x : Obj) : ApT w b k l s r A L g o S (w1.alloc x) := ⟨⟨h.1.1.al x, by have := h.1.2; simp; omega⟩, (World.cell?_alloc_lt w1 x _ h.1.2).trans h.2⟩
structure Ap2 (w : World) (b k l s r : Int) (A : Option Addr) (L : List Rg) (g : Nat) (o : Obj) (w' : World) : Prop where
  s : ApS w b k l s r A L w'
  o : w'.heap[g]? = some o
section
variable {w w1 w2 : World} {b k l s r : Int} {A : Option Addr} {L : List Rg} {g : Nat} {o : Obj}
theorem Ap2.go (h : Ap2 w b k l s r A L g o w1) (hb : Below w1.heap.size w1 w2) : Ap2 w b k l s r A L g o w2 := ⟨h.s.go hb, below_blk hb (heap_lt h.o) h.o⟩
theorem Ap2.drewN (h : Ap2 w b k l s r A L g o w1) (n : Nat) : Ap2 w b k l s r A L g o (w1.drewN n) := h.go (drewN_below _ _)
theorem Ap2.drew (h : Ap2 w b k l s r A L g o w1) : Ap2 w b k l s r A L g o w1.drew := ⟨⟨h.s.fr.drew, h.s.rd⟩, h.o⟩
end
abbrev Ap3 (w : World) (b k l s r : Int) (A : Option Addr) (L : List Rg) (g : Nat) (o : Obj) (e f : Nat) (nm : ByteArray) (w' : World) : Prop :=
  (Ap2 w b k l s r A L g o w' ∧ e < w'.heap.size) ∧ w'.cell? ⟨w.heap.size, 0, none⟩ = some (.int .i64 b) ∧ w'.cell? ⟨w.heap.size, 1, none⟩ = some (.int .i64 k) ∧ w'.cell? ⟨w.heap.size, 2, none⟩ = some (.int .i64 l) ∧ w'.cell? ⟨w.heap.size + 1, 0, none⟩ = some (.int .i64 s) ∧ w'.cell? ⟨w.heap.size + 1, 1, none⟩ = some (.int .i64 r) ∧ w'.cell? ⟨e, f, none⟩ = some (.string nm)
section
variable {w w1 w2 : World} {b k l s r : Int} {A : Option Addr} {L : List Rg} {g e f : Nat} {o : Obj} {nm : ByteArray}
theorem Ap3.mk (h : Ap2 w b k l s r A L g o w1) (he : e < w1.heap.size) (hc : w1.cell? ⟨e, f, none⟩ = some (.string nm)) : Ap3 w b k l s r A L g o e f nm w1 :=
  have h1 := frC b k l s r h.s.fr (by simp) (by simp)
  ⟨⟨h, he⟩, h1.1, h1.2.1, h1.2.2.1, h1.2.2.2.1, h1.2.2.2.2.1, hc⟩
theorem Ap3.drew (h : Ap3 w b k l s r A L g o e f nm w1) : Ap3 w b k l s r A L g o e f nm w1.drew := .mk h.1.1.drew h.1.2 h.2.2.2.2.2.2
theorem Ap3.go (h : Ap3 w b k l s r A L g o e f nm w1) (hb : Below w1.heap.size w1 w2) : Ap3 w b k l s r A L g o e f nm w2 := .mk (h.1.1.go hb) (Nat.lt_of_lt_of_le h.1.2 hb.size) ((hb.cell (p := ⟨e, f, none⟩) h.1.2).trans h.2.2.2.2.2.2)
end
abbrev endO (S : Int) : Obj := .cells #[.int .i64 0, .int .i64 1, .int .i64 (S - 2), .int .i64 (S - 1)] 45 (0, 0)
set_option maxRecDepth 100000 in
set_option maxHeartbeats 4000000 in
theorem configApart_walk (w : World) (b k l s r : Int) (hP : Pow w) :
    Calls Tryd.prog 5 #[cfV b k l, csV s r] w fun e w' => e = .returned (.bool true) ∧ Below w.heap.size w w' := by
  have HP := Lib.hid hP
  clear hP
  by_cases h : Ok2 b k l s r
  case neg =>
    have H := Lib.hid h
    have HN := Lib.hid (show needI b k l s r = 0 by unfold needI; rw [layL_no h]; rfl)
    have HE := Lib.hid (err2_no h)
    clear h
    go_enter Tryd.func5, Tryd.ntmps5
    go_wp2_with fail
    (with_reducible refine (layout_no b k l s r H.out _).mono ?_); rintro e w1 ⟨A1, a1, rfl, hb1, hr1, _, _⟩
    have hF1 : Fr w [(w.heap.size + 1, csO s r), (w.heap.size, cfO b k l)] w1 := (((Fr.start w).newN rfl (cfO b k l)).newN (by simp) (csO s r)).go hb1
    obtain ⟨c0, c1, c2, d0, d1, hlt⟩ := frC b k l s r hF1 (by simp) (by simp)
    clear hb1
    go_wp2_with fail
    (with_reducible refine (cneed b k l s r _).mono ?_); rintro e w2 ⟨rfl, hb2⟩
    rw [HN.out, HE.out]
    have hF2 := hF1.go hb2
    clear c0 c1 c2 d0 d1 hlt hb2 hF1
    go_wp2_with fail
    (with_reducible refine (awake w2 (HP.out.below hF2.bel)).mono ?_); rintro e w3 ⟨rfl, hb3⟩
    have hB := bt hF2.bel hb3
    go_wp2
    go_ret
    exact ⟨rfl, hB⟩
  obtain ⟨L, p, hL⟩ := apL b k l s r h
  have hp0 : 0 ≤ p := by have := (sumS_bd hL.bd 9).1; rw [List.take_of_length_le (by rw [hL.len]; omega), hL.sum] at this; exact this
  have hp1 := hL.le
  have HL := Lib.hid hL
  have HY := Lib.hid (show lay s r (k + b * r) = L by rw [← layL_yes h]; exact hL.lay)
  have H := Lib.hid h
  have HE := Lib.hid (err2_yes h)
  have HN := Lib.hid hL.need
  clear h hL
  go_enter Tryd.func5, Tryd.ntmps5
  go_wp2_with fail
  (with_reducible refine (layout_yes b k l s r H.out _).mono ?_); rintro e w1 ⟨A1, a1, rfl, hb1, hr1, _, _⟩
  rw [HY.out] at hr1
  have hF1 : Fr w [(w.heap.size + 1, csO s r), (w.heap.size, cfO b k l)] w1 := (((Fr.start w).newN rfl (cfO b k l)).newN (by simp) (csO s r)).go hb1
  obtain ⟨c0, c1, c2, d0, d1, hlt⟩ := frC b k l s r hF1 (by simp) (by simp)
  clear hb1
  go_wp2_with fail
  (with_reducible refine (cneed b k l s r _).mono ?_); rintro e w2 ⟨rfl, hb2⟩
  rw [HN.out, HE.out]
  have hS2 : ApS w b k l s r A1 L w2 := ⟨hF1.go hb2, hr1.go hb2⟩
  clear c0 c1 c2 d0 d1 hlt hb2 hF1 hr1
  go_wp2_with fail
  go_loopw [9, 10] (fun z i wr => ∃ j : Nat, j ≤ 9 ∧ i = .int .i64 j ∧ z = .int .i64 (sumS (L.take j)) ∧ ApS w b k l s r A1 L wr) (fun _ i _ => 9 - (intOf i).toNat)
  case atStart => exact ⟨0, by omega, rfl, rfl, hS2⟩
  case round =>
    obtain ⟨j, hj, rfl, rfl, hS⟩ := hrel
    clear hS2
    by_cases hjl : j < 9
    · obtain ⟨b', off, nm, B, S, hA, hb', d1, d2, d3, hd⟩ := rgAt (by rw [HL.out.len]; exact hS.rd) (show j < L.length by rw [HL.out.len]; exact hjl)
      subst hA
      have hB0 : B = 0 + sumS (L.take j) := HL.out.cont.base hd
      have hx := mem_drop hd
      obtain ⟨x1, x2, x3, x4⟩ := HL.out.bd.2 _ hx
      simp only at x1 x2 x3 x4
      rw [show sumS (L.take j) = B by omega]
      have HT := Lib.hid (sumS_take hd)
      have HB0 := Lib.hid hB0
      have Hx := Lib.hid hx
      have HD := Lib.hid hd
      have hi1 : (j : Int) < 9 := by omega
      have hi0 : (0 : Int) ≤ (j : Int) := by omega
      clear hB0 hx hd
      go_wp2_with fail
      obtain ⟨wo, hwo⟩ : ∃ wo : World, wo = wr := ⟨_, rfl⟩
      subst hwo
      go_loopw [4, 11] (fun _ q wr => ∃ m : Nat, m ≤ j ∧ q = .int .i64 m ∧ ApS w b k l s r (some ⟨b', off, none⟩) L wr) (fun _ q _ => j - (intOf q).toNat)
      case atStart => exact ⟨0, by omega, rfl, hS⟩
      case round =>
        obtain ⟨m, hm, rfl, hS3⟩ := hrel
        clear hS d1 d2 d3
        obtain ⟨b2, off2, nm2, B2, S2, hA2, hb2, d1, d2, d3, hd2⟩ := rgAt (by rw [HL.out.len]; exact hS3.rd) (show j < L.length by rw [HL.out.len]; exact hjl)
        injection hA2 with hA2; injection hA2 with q1 q2; subst q1 q2
        have hd2' := hd2.out.symm.trans HD.out
        injection hd2' with hd2' _
        injection hd2' with q1 q2
        injection q2 with q2 q3
        subst q1 q2 q3
        by_cases hml : m < j
        · obtain ⟨b3, off3, nm3, B3, S3, hA3, hb3, d1', d2', d3', hd3⟩ := rgAt (by rw [HL.out.len]; exact hS3.rd) (show m < L.length by rw [HL.out.len]; omega)
          injection hA3 with hA3; injection hA3 with q1 q2; subst q1 q2
          have hne : (nm3.toList == nm2.toList) = false := by
            have := apart_ne HL.out.apart hml hd3 hd2
            simpa [bytes_eq] using this
          have hj1 : (m : Int) < 9 := by omega
          have hj0 : (0 : Int) ≤ (m : Int) := by omega
          clear hd2 hd3
          go_wp2
          go_quiet (fail)
          go_wp2
          go_roundw
          case rel => exact ⟨m + 1, by omega, by go_num, hS3.drewN _⟩
          case measure => simp [intOf]; omega
        · obtain rfl : m = j := by omega
          clear hd2
          go_wp2_with fail
          have hT : ApT w b k l s r (some ⟨b', off, none⟩) L b' (off + m * 3 + 2) S2 wr := ⟨⟨hS3, hb2⟩, d3⟩
          have w1_ : IntKind.i64.wrap (S2 - 2) = S2 - 2 := IntWalk.i64_in _ (by omega)
          have w2_ : IntKind.i64.wrap (S2 - 1) = S2 - 1 := IntWalk.i64_in _ (by omega)
          go_region_held3 (fun w' => ApT w b k l s r (some ⟨b', off, none⟩) L b' (off + m * 3 + 2) S2 w')
            (with_reducible (first | exact ApT.drew hT | exact ApT.drew (ApT.al hT _) | assumption))
            (fail)
          have hQ : Ap2 w b k l s r (some ⟨b', off, none⟩) L wr.heap.size (endO S2) (wr.alloc (endO S2)).drew := Ap2.drew ⟨hS3.al _, alloc1_new _ _⟩
          have hwr : wr.heap.size = wr.heap.size := rfl
          clear hT hS3 hb2 d1 d2 d3
          go_wp2_with fail
          generalize wr.heap.size = g at *
          generalize (wr.alloc (endO S2)).drew = wa at *
          go_loopw [4, 13] (fun _ q wr => ∃ n : Nat, n ≤ 4 ∧ q = .int .i64 n ∧ Ap2 w b k l s r (some ⟨b', off, none⟩) L g (endO S2) wr) (fun _ q _ => 4 - (intOf q).toNat)
          case atStart => exact ⟨0, by omega, rfl, hQ⟩
          case round =>
            obtain ⟨n, hn, rfl, hQ2⟩ := hrel
            clear hQ
            by_cases hn4 : n < 4
            · obtain ⟨e, he, hcell⟩ : ∃ e : Int, (-1 ≤ e ∧ e ≤ 1024) ∧ wr.cell? ⟨g, n, none⟩ = some (.int .i64 e) := by
                rcases (show n = 0 ∨ n = 1 ∨ n = 2 ∨ n = 3 by omega) with rfl | rfl | rfl | rfl
                · exact ⟨0, by omega, Lib.cell_of_heap hQ2.o 0⟩
                · exact ⟨1, by omega, Lib.cell_of_heap hQ2.o 1⟩
                · exact ⟨S2 - 2, by omega, Lib.cell_of_heap hQ2.o 2⟩
                · exact ⟨S2 - 1, by omega, Lib.cell_of_heap hQ2.o 3⟩
              obtain ⟨b4, off4, nm4, B4, S4, hA4, hb4, d1, d2, d3, hd4⟩ := rgAt (by rw [HL.out.len]; exact hQ2.s.rd) (show m < L.length by rw [HL.out.len]; exact hjl)
              injection hA4 with hA4; injection hA4 with q1 q2; subst q1 q2
              have hd4' := hd4.out.symm.trans HD.out
              injection hd4' with hd4' _
              injection hd4' with q1 q2
              injection q2 with q2 q3
              subst q1 q2 q3
              clear hd4
              obtain ⟨he1, he2⟩ := he
              by_cases hin : 0 ≤ e ∧ e < S4
              · obtain ⟨hin1, hin2⟩ := hin
                have HC := Lib.hid (HL.out.cell Hx.out (i := e) hin1 hin2)
                have HW := Lib.hid (HL.out.place Hx.out (at_ := B4 + e) (by simp only; omega) (by simp only; omega))
                have HW2 := Lib.hid (show whrV b k l s r (B4 + e) = .tuple #[.string nm4, .int .i64 e, .int .i64 0] by rw [HW.out]; simp only; rw [show B4 + e - B4 = e by omega])
                have hT3 := Ap3.mk (f := off + m * 3) hQ2 hb4 d1
                have hnm : nm4.size ≤ 6 := lay_names s r (k + b * r) (nm4, B4, S4) (by rw [HY.out]; exact Hx.out)
                go_wp2_with fail
                go_region_held3 (fun w' => Ap3 w b k l s r (some ⟨b', off, none⟩) L g (endO S4) b' (off + m * 3) nm4 w')
                  (with_reducible (first | exact Ap3.drew hT3 | exact Ap3.go (by assumption) hb2))
                  ((go_at_call 17; refine (ccell b k l s r nm4 (by omega) e _).mono ?_; rintro e_ w2 ⟨rfl, hb2⟩))
                rw [HC.out.1, HC.out.2]
                have hT4 : Ap3 w b k l s r (some ⟨b', off, none⟩) L g (endO S4) b' (off + m * 3) nm4 w2 := by assumption
                clear hT3 hQ2 d1 d2 d3 hcell hb4
                obtain ⟨⟨hQ3, hb4⟩, c0, c1, c2, d0, d1, n1⟩ := hT4
                go_wp2_with fail
                (with_reducible refine (cwhere b k l s r (B4 + e) (by omega) _).mono ?_); rintro e_ w3 ⟨rfl, hb3⟩
                rw [HW2.out]
                have hQ4 := hQ3.go hb3
                have n2 : w3.cell? ⟨b', off + m * 3, none⟩ = some (.string nm4) := (hb3.cell (p := ⟨b', off + m * 3, none⟩) hb4).trans n1
                clear c0 c1 c2 d0 d1 n1 hb3 hQ3
                go_wp2
                go_roundw
                case rel => exact ⟨n + 1, by omega, by go_num, hQ4⟩
                case measure => simp [intOf]; omega
              · have hin' : e < 0 ∨ S4 ≤ e := by omega
                clear hin
                by_cases he0 : e < 0
                all_goals
                  go_wp2
                  go_roundw
                  case rel => exact ⟨n + 1, by omega, by go_num, hQ2⟩
                  case measure => simp [intOf]; omega
            · obtain rfl : n = 4 := by omega
              obtain ⟨b4, off4, nm4, B4, S4, hA4, hb4, d1, d2, d3, hd4⟩ := rgAt (by rw [HL.out.len]; exact hQ2.s.rd) (show m < L.length by rw [HL.out.len]; exact hjl)
              injection hA4 with hA4; injection hA4 with q1 q2; subst q1 q2
              have hd4' := hd4.out.symm.trans HD.out
              injection hd4' with hd4' _
              injection hd4' with q1 q2
              injection q2 with q2 q3
              subst q1 q2 q3
              clear hd4
              go_wp2
              go_roundw
              case rel => exact ⟨m + 1, by omega, by go_num, by rw [HT.out, show sumS (L.take m) = B4 by have := HB0.out; omega], hQ2.s⟩
              case measure => simp [intOf]; omega
    · obtain rfl : j = 9 := by omega
      rw [List.take_of_length_le (by rw [HL.out.len]; omega), HL.out.sum, show ((9 : Nat) : Int) = 9 from rfl]
      go_wp2_with fail
      go_loopw [4, 20] (fun _ i wr => ∃ a : Int, 0 ≤ a ∧ a ≤ 3100 ∧ i = .int .i64 a ∧ ApS w b k l s r A1 L wr) (fun _ i _ => (p - intOf i).toNat)
      case atStart => exact ⟨0, by omega, by omega, rfl, hS⟩
      case round =>
        obtain ⟨a, ha0, ha1, rfl, hS3⟩ := hrel
        clear hS
        obtain ⟨c0, c1, c2, d0, d1, hlt⟩ := frC b k l s r hS3.fr (by simp) (by simp)
        by_cases hap : a < p
        · obtain ⟨x, hx, q1, q2⟩ := HL.out.cont.some_ ha0 (by rw [HL.out.sum]; omega)
          have HW := Lib.hid (HL.out.place hx q1 q2)
          have HC := Lib.hid (HL.out.cell hx (i := a - x.2.1) (by omega) (by omega))
          have hxs : x.1.size ≤ 6 := lay_names s r (k + b * r) x (by rw [HY.out]; exact hx)
          have HC1 := Lib.hid (show celI b k l s r x.1 (a - x.2.1) = a by rw [HC.out.1]; omega)
          clear hx q1 q2
          obtain ⟨nm, B, S⟩ := x
          simp only at hxs
          go_wp2_with fail
          (with_reducible refine (cwhere b k l s r a (by omega) _).mono ?_); rintro e w3 ⟨rfl, hb3⟩
          rw [HW.out]
          have hS4 := hS3.go hb3
          clear c0 c1 c2 d0 d1 hlt hb3 hS3
          obtain ⟨c0, c1, c2, d0, d1, hlt⟩ := frC b k l s r hS4.fr (by simp) (by simp)
          go_wp2_with fail
          (with_reducible refine (ccell b k l s r nm (by omega) (a - B) _).mono ?_); rintro e w4 ⟨rfl, hb4⟩
          rw [HC1.out, HC.out.2]
          have hS5 := hS4.go hb4
          clear c0 c1 c2 d0 d1 hlt hb4 hS4
          go_wp2
          go_roundw
          case rel => exact ⟨a + 13, by omega, by omega, rfl, hS5⟩
          case measure => simp [intOf]; omega
        · have HW1 := Lib.hid (HL.out.out (at_ := p) (.inr (by omega)))
          have HW2 := Lib.hid (HL.out.out (at_ := -1) (.inl (by omega)))
          go_wp2_with fail
          (with_reducible refine (cwhere b k l s r p (by omega) _).mono ?_); rintro e w3 ⟨rfl, hb3⟩
          rw [HW1.out]
          have hS4 := hS3.go hb3
          clear c0 c1 c2 d0 d1 hlt hb3 hS3
          obtain ⟨c0, c1, c2, d0, d1, hlt⟩ := frC b k l s r hS4.fr (by simp) (by simp)
          go_wp2_with fail
          (with_reducible refine (cwhere b k l s r (-1) (by omega) _).mono ?_); rintro e w4 ⟨rfl, hb4⟩
          rw [HW2.out]
          have hS5 := hS4.go hb4
          clear c0 c1 c2 d0 d1 hlt hb4 hS4
          go_wp2_with fail
          (with_reducible refine (awake w4 (HP.out.below hS5.bel)).mono ?_); rintro e w5 ⟨rfl, hb5⟩
          have hB := bt hS5.bel hb5
          go_wp2
          go_ret
          exact ⟨rfl, hB⟩
end Go.Proofs.YtjdbnfejidaeoaaDoor
