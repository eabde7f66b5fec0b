/- Traces: Parts of the reference. -/
import Derived.Test.YtjccijmnbihpoaaDoorT7
namespace Go.Proofs.YtjccijmnbihpoaaDoor
open Go.RowKit
theorem intEl : Elem Tryd.prog 30 3 (.int .i64 0) 1 8 := ⟨Tryd.underlying30, by kernel_rfl, rfl, by decide⟩
theorem mem_of_hd {α : Type} {l : List α} {k : Nat} {x : α} (h : Hid (l.drop k = x :: l.drop (k + 1))) : x ∈ l := mem_dropE h
theorem cnts_take {l : List Ev} {r : List Rg} {k : Nat} {x : Ev} (hd : Hid (l.drop k = x :: l.drop (k + 1))) : cnts (l.take (k + 1)) r = (cnts (l.take k) r).set (idxR r x.2) ((cnts (l.take k) r).getD (idxR r x.2) 0 + 1) := by
  rw [take_of_drop hd.out, cnts_snoc]
theorem mk_ints (n : Nat) (hn : n ≤ 1000000) (W : World) : (Instr.makeSlice 30 (.int .i64 ((n : Int) + 1)) (.int .i64 ((n : Int) + 1))).run Tryd.prog W = .ok (.slice (some ⟨W.heap.size, 0, none⟩) (n + 1) (n + 1)) (W.alloc (.cells (madeCells #[.int .i64 0] (n + 1)) 3)) := by
  rw [show ((n : Int) + 1) = ((n + 1 : Nat) : Int) by omega]
  exact run_mk1 (P := Tryd.prog) intEl rfl .i64 .i64 (n + 1) (n + 1) (Nat.le_refl _) (by omega) (by omega) W
/-- the counts so far, in a block of the call's own -/
abbrev CtO (C : List Int) : Obj := .cells (ints C).toArray 3 (0, 0)
theorem ct_set {w wi : World} {G i : Nat} {C : List Int} {n : Int} (h : Fr w [(G, CtO C)] wi) (hG : w.heap.size ≤ G) : Fr w [(G, CtO (C.set i n))] (wi.setCell ⟨G, i, none⟩ (.int .i64 n)) := by
  have := Fr.set h hG (by simp) i (.int .i64 n)
  rwa [ints_set] at this
theorem ct_cell {w wi : World} {G i : Nat} {C : List Int} (h : Fr w [(G, CtO C)] wi) (hi : i < C.length) : wi.cell? ⟨G, i, none⟩ = some (.int .i64 (C.getD i 0)) ∧ wi.frozen? ⟨G, i, none⟩ = false := by
  have hb := h.at (g := G) List.mem_cons_self
  refine ⟨?_, Lib.frozen_of_heap hb i⟩
  rw [Lib.cell_of_heap hb]
  simpa using ints_get hi
theorem ct_ret {w wi : World} {G n : Nat} {C : List Int} (h : Fr w [(G, CtO C)] wi) (hn : C.length = n) (h63 : n ≤ 1000001) {E : Int} (hE : E = 0) : RetSl w 1 (ints C) n E (.returned (.tuple #[.slice (some ⟨G, 0, none⟩) n n, .int .i64 0])) wi := by
  subst hn hE
  have := reads_blk (h.at (g := G) List.mem_cons_self)
  rw [show (ints C).length = C.length by simp] at this
  exact ⟨_, _, rfl, h.bel, this, Nat.le_refl _, by omega⟩
set_option maxRecDepth 100000 in
set_option maxHeartbeats 4000000 in
theorem rparts_ (w : World) (A A' : Option Addr) (c c' : Nat) (l : List Ev) (r : List Rg) (h : Reads w w.heap.size 2 A l.length (evs l)) (ho : Ok32 l) (hl : l.length ≤ 140737488355328) (h' : Reads w w.heap.size 3 A' r.length (rgs r)) (hr : r.length ≤ 1000000) (E : Int) (hE : PtE r E) :
    Calls Tryd.prog 15 #[.slice A l.length c, .slice A' r.length c'] w (RetSl w 1 (ints (ptL l r E)) (ptL l r E).length E) := by
  have HE := Lib.hid hE
  have H := Lib.hid h
  have HO := Lib.hid ho
  clear hE h ho
  go_enter Tryd.func15, Tryd.ntmps15
  go_wp2
  go_loopw [6] (fun i wr => ∃ k : Nat, k ≤ r.length ∧ i = .int .i64 k ∧ Hid (Good r k) ∧ Below w.heap.size w wr ∧ (∀ p, wr.cell? p = w.cell? p)) (fun i _ => r.length - (intOf i).toNat)
  case atStart => exact ⟨0, Nat.zero_le _, rfl, Lib.hid (Good.start r), Below.refl _ _, fun _ => rfl⟩
  case round =>
    obtain ⟨k, hk, rfl, hg, hbl, hsame⟩ := hrel
    by_cases hlt : k < r.length
    · obtain ⟨b, off, s, B, S, rfl, hb, d1, d2, d3, hd⟩ := rgAt h' hlt
      have c1 := (hsame ⟨b, off + k * 3 + 1, none⟩).trans d2
      have c2 := (hsame ⟨b, off + k * 3 + 2, none⟩).trans d3
      have Hs := Lib.hid hsame
      clear d1 d2 d3 hsame
      have hi1 : (k : Int) < (r.length : Int) := by omega
      have hi0 : (0 : Int) ≤ (k : Int) := by omega
      by_cases hbad : badRg (s, B, S) = false
      · obtain ⟨⟨q1, q2⟩, q3, q4⟩ := badRg_iff.1 hbad
        have hg2 := Lib.hid (hg.out.step hd hbad)
        have i1 : IntKind.i64.wrap (65536 - B) = 65536 - B := IntWalk.i64_in _ (by omega)
        have n1 : decide (B < 0) = false := by simp; omega
        have n2 : decide (S < 1) = false := by simp; omega
        have n3 : decide (65536 < B) = false := by simp; omega
        have n4 : decide (65536 - B < S) = false := by simp; omega
        have N := Lib.hid (And.intro n1 (And.intro n2 (And.intro n3 n4)))
        clear hbad hd n1 n2 n3 n4
        go_wp2
        obtain ⟨n1, n2, n3, n4⟩ := N.out
        go_quiet (fail)
        go_wp2
        go_roundw
        case rel => exact ⟨k + 1, by omega, by go_num, hg2, Go.RowKit.Below.trans hbl (drewN_below _ _), fun p => Hs.out p⟩
        case measure => simp [intOf]; omega
      · have hX := HE.out.bad (mem_of_hd hd) (by simpa using hbad)
        subst hX
        have hnb : ¬ ((0 ≤ B ∧ 1 ≤ S) ∧ B ≤ 65536 ∧ S ≤ 65536 - B) := fun hh => hbad (badRg_iff.2 hh)
        clear hbad hd HE
        by_cases n1 : B < 0
        · go_wp2
          have m1 : decide (B < 0) = true := by simp; omega
          go_quiet (fail)
          go_wp2
          go_ret2
          exact RetSl.nil (Go.RowKit.Below.trans hbl (drewN_below _ _)) rfl rfl
        by_cases n2 : S < 1
        · go_wp2
          have m1 : decide (B < 0) = false := by simp; omega
          have m2 : decide (S < 1) = true := by simp; omega
          go_quiet (fail)
          go_wp2
          go_ret2
          exact RetSl.nil (Go.RowKit.Below.trans hbl (drewN_below _ _)) rfl rfl
        by_cases n3 : 65536 < B
        · go_wp2
          have m1 : decide (B < 0) = false := by simp; omega
          have m2 : decide (S < 1) = false := by simp; omega
          have m3 : decide (65536 < B) = true := by simp; omega
          go_quiet (fail)
          go_wp2
          go_ret2
          exact RetSl.nil (Go.RowKit.Below.trans hbl (drewN_below _ _)) rfl rfl
        have n4 : 65536 - B < S := by omega
        have i1 : IntKind.i64.wrap (65536 - B) = 65536 - B := IntWalk.i64_in _ (by omega)
        go_wp2
        have m1 : decide (B < 0) = false := by simp; omega
        have m2 : decide (S < 1) = false := by simp; omega
        have m3 : decide (65536 < B) = false := by simp; omega
        have m4 : decide (65536 - B < S) = true := by simp; omega
        go_quiet (fail)
        go_wp2
        go_ret2
        exact RetSl.nil (Go.RowKit.Below.trans hbl (drewN_below _ _)) rfl rfl
    · have hG := Lib.hid (hg.out.all (by omega))
      clear hg hsame
      go_wp2
      go_loopw [7] (fun i wr => ∃ k : Nat, k ≤ r.length ∧ i = .int .i64 k ∧ Hid (FreeTo r k) ∧ Below w.heap.size w wr) (fun i _ => r.length - (intOf i).toNat)
      case atStart => exact ⟨0, Nat.zero_le _, rfl, Lib.hid (FreeTo.start r), hbl⟩
      case round =>
        clear hbl
        obtain ⟨i, hi, rfl, hf, hbl⟩ := hrel
        by_cases hil : i < r.length
        · have HJ := Lib.hid (FreeIn.start hf.out)
          obtain ⟨b, off, s, B, S, rfl, hb, e1, e2, e3, hd⟩ := rgAt h' hil
          obtain ⟨_, hgi⟩ := getD_hd (z := rgz) hd
          have hbi := hG.out _ (mem_of_hd hd)
          obtain ⟨⟨p1, p2⟩, p3, p4⟩ := badRg_iff.1 hbi
          have HGI := Lib.hid hgi
          clear hf hd hgi hbi
          go_wp2
          go_loopw [8] (fun q wi => ∃ k : Nat, k ≤ i ∧ q = .int .i64 k ∧ Hid (FreeIn r i k) ∧ Below w.heap.size w wi) (fun q _ => i - (intOf q).toNat)
          case atStart => exact ⟨0, Nat.zero_le _, rfl, HJ, hbl⟩
          case round =>
            clear hbl HJ
            obtain ⟨k, hk, rfl, hJ, hbl⟩ := hrel
            by_cases hki : k < i
            · obtain ⟨b', off', s', B', S', hA, hb', d1, d2, d3, hd⟩ := rgAt h' (show k < r.length by omega)
              injection hA with hA; injection hA with hA1 hA2; subst hA1 hA2
              obtain ⟨_, hgk⟩ := getD_hd (z := rgz) hd
              obtain ⟨⟨o1, o2⟩, o3, o4⟩ := badRg_iff.1 (hG.out _ (mem_of_hd hd))
              have c1 := (hbl.cell (p := ⟨b, off + k * 3 + 1, none⟩) hb).trans d2
              have c2 := (hbl.cell (p := ⟨b, off + k * 3 + 2, none⟩) hb).trans d3
              have g1 := (hbl.cell (p := ⟨b, off + i * 3 + 1, none⟩) hb).trans e2
              have g2 := (hbl.cell (p := ⟨b, off + i * 3 + 2, none⟩) hb).trans e3
              have E2 := Lib.hid e2
              have E3 := Lib.hid e3
              have hi1 : (k : Int) < (r.length : Int) := by omega
              have hi2 : (i : Int) < (r.length : Int) := by omega
              have hi0 : (0 : Int) ≤ (k : Int) := by omega
              have hi3 : (0 : Int) ≤ (i : Int) := by omega
              have i1 : IntKind.i64.wrap (B + S) = B + S := IntWalk.i64_in _ (by omega)
              have i2 : IntKind.i64.wrap (B' + S') = B' + S' := IntWalk.i64_in _ (by omega)
              have HGK := Lib.hid hgk
              clear d1 d2 d3 hd hgk e2 e3
              by_cases n1 : B < B' + S'
              · by_cases n2 : B' < B + S
                · have hX := HE.out.laps hG.out (not_free hil hki (by rw [HGI.out, HGK.out]; simp [lap, n1, n2]))
                  subst hX
                  clear HE hJ
                  go_wp2
                  have m1 : decide (B < B' + S') = true := by simp; omega
                  have m2 : decide (B' < B + S) = true := by simp; omega
                  go_quiet (fail)
                  go_wp2
                  go_ret2
                  exact RetSl.nil (Go.RowKit.Below.trans hbl (drewN_below _ _)) rfl rfl
                · have HJ2 := Lib.hid (hJ.out.step (by rw [HGI.out, HGK.out]; simp [lap, n2]))
                  clear hJ
                  go_wp2
                  have m1 : decide (B < B' + S') = true := by simp; omega
                  have m2 : decide (B' < B + S) = false := by simp; omega
                  go_quiet (fail)
                  go_wp2
                  go_roundw
                  case rel => exact ⟨k + 1, by omega, by go_num, HJ2, Go.RowKit.Below.trans hbl (drewN_below _ _)⟩
                  case measure => simp [intOf]; omega
              · have HJ2 := Lib.hid (hJ.out.step (by rw [HGI.out, HGK.out]; simp [lap, n1]))
                clear hJ
                go_wp2
                have m1 : decide (B < B' + S') = false := by simp; omega
                go_quiet (fail)
                go_wp2
                go_roundw
                case rel => exact ⟨k + 1, by omega, by go_num, HJ2, Go.RowKit.Below.trans hbl (drewN_below _ _)⟩
                case measure => simp [intOf]; omega
            · have HF2 := Lib.hid (hJ.out.done (by omega))
              clear hJ
              go_wp2
              go_roundw
              case rel => exact ⟨i + 1, by omega, by go_num, HF2, hbl⟩
              case measure => simp [intOf]; omega
        · have hF := hf.out.free (by omega)
          have hX := HE.out.ok hG.out hF
          subst hX
          have HF := Lib.hid hF
          have HL := Lib.hid (show ptL l r 0 = cnts l r from if_pos rfl)
          have hn1 : IntKind.i64.wrap ((r.length : Int) + 1) = (r.length : Int) + 1 := IntWalk.i64_in _ (by omega)
          have hmk := mk_ints r.length hr

          have hF0 := (Fr.nil hbl).newN (g := wr.heap.size) rfl (.cells (madeCells #[.int .i64 0] (r.length + 1)) 3)
          rw [ints_made, ← cnts_nil r, ← List.take_zero (l := l)] at hF0
          have hGe := hbl.size
          have hst0 : Fr w [(wr.heap.size, CtO (cnts (l.take 0) r))] (wr.alloc (.cells (madeCells #[.int .i64 0] (r.length + 1)) 3)) := by rw [ints_made, ← cnts_nil r]; exact hF0
          clear hf hF HE hF0 hbl
          go_wp2
          generalize wr.alloc (.cells (madeCells #[.int .i64 0] (r.length + 1)) 3) = wq at *
          generalize wr.heap.size = G at *
          go_loopw [10] (fun q wi => ∃ k : Nat, k ≤ l.length ∧ q = .int .i64 k ∧ Fr w [(G, CtO (cnts (l.take k) r))] wi) (fun q _ => l.length - (intOf q).toNat)
          case atStart => exact ⟨0, Nat.zero_le _, rfl, hst0⟩
          case round =>
            clear hst0 hmk hn1
            obtain ⟨j, hj, rfl, hF⟩ := hrel
            by_cases hjl : j < l.length
            · obtain ⟨b, off, K, a, rfl, hb, e1, e2, hd⟩ := evAt H.out hjl
              have hw := wrap_i32 (HO.out _ (mem_dropE hd)).2
              simp only at hw
              have Hst := Lib.hid (cnts_take (r := r) hd)
              have Hbd := Lib.hid (cnts_bd (l.take j) r (idxR r a))
              have hlj : (l.take j).length ≤ l.length := by rw [List.length_take]; omega
              simp only at Hst
              have Hll := Lib.hid (lastR_all (a := a) HF.out)
              have HE2 := Lib.hid e2
              have HCl := Lib.hid (cnts_len (l.take j) r)
              generalize cnts (l.take j) r = C at *
              clear e1 e2 hd
              go_wp2
              go_loopw [12, 11] (fun q at_ wi => ∃ k : Nat, k ≤ r.length ∧ q = .int .i64 k ∧ at_ = .int .i64 (lastR r a k) ∧ Fr w [(G, CtO C)] wi) (fun q _ _ => r.length - (intOf q).toNat)
              case atStart => exact ⟨0, Nat.zero_le _, rfl, rfl, hF⟩
              case round =>
                clear hF
                obtain ⟨k, hk, rfl, rfl, hF⟩ := hrel
                by_cases hkr : k < r.length
                · obtain ⟨b', off', s, B, S, rfl, hb', d1, d2, d3, hd⟩ := rgAt h' hkr
                  obtain ⟨⟨o1, o2⟩, o3, o4⟩ := badRg_iff.1 (hG.out _ (mem_of_hd hd))
                  have c1 := (hF.bel.cell (p := ⟨b', off' + k * 3 + 1, none⟩) hb').trans d2
                  have c2 := (hF.bel.cell (p := ⟨b', off' + k * 3 + 2, none⟩) hb').trans d3
                  have g2 := (hF.bel.cell (p := ⟨b, off + j * 2 + 1, none⟩) hb).trans HE2.out
                  have hi1 : (k : Int) < (r.length : Int) := by omega
                  have hi2 : (j : Int) < (l.length : Int) := by omega
                  have hi0 : (0 : Int) ≤ (k : Int) := by omega
                  have hi3 : (0 : Int) ≤ (j : Int) := by omega
                  have i1 : IntKind.i64.wrap (B + S) = B + S := IntWalk.i64_in _ (by omega)
                  have hF' := Lib.hid hF
                  clear d1 d2 d3 hF
                  by_cases n1 : B ≤ a
                  · by_cases n2 : a < B + S
                    · have HL2 := Lib.hid (lastR_in (a := a) hd (by simp [rIn, n1, n2]))
                      clear hd
                      go_wp2
                      have m1 : decide (B ≤ a) = true := by simp; omega
                      have m2 : decide (a < B + S) = true := by simp; omega
                      go_quiet (fail)
                      go_wp2
                      go_roundw
                      case rel => exact ⟨k + 1, by omega, by go_num, by rw [HL2.out], hF'.out.drewN _⟩
                      case measure => simp [intOf]; omega
                    · have HL2 := Lib.hid (lastR_out (a := a) hd (by simp [rIn, n2]))
                      clear hd
                      go_wp2
                      have m1 : decide (B ≤ a) = true := by simp; omega
                      have m2 : decide (a < B + S) = false := by simp; omega
                      go_quiet (fail)
                      go_wp2
                      go_roundw
                      case rel => exact ⟨k + 1, by omega, by go_num, by rw [HL2.out], hF'.out.drewN _⟩
                      case measure => simp [intOf]; omega
                  · have HL2 := Lib.hid (lastR_out (a := a) hd (by simp [rIn, n1]))
                    clear hd
                    go_wp2
                    have m1 : decide (B ≤ a) = false := by simp; omega
                    go_quiet (fail)
                    go_wp2
                    go_roundw
                    case rel => exact ⟨k + 1, by omega, by go_num, by rw [HL2.out], hF'.out.drewN _⟩
                    case measure => simp [intOf]; omega
                · obtain rfl : k = r.length := by omega
                  rw [Hll.out]
                  have hile := idxR_le r a
                  generalize idxR r a = I at *
                  have hCl := HCl.out
                  obtain ⟨c1, f1⟩ := ct_cell hF (i := I) (by omega)
                  obtain ⟨v0, v1⟩ := Hbd.out
                  have hF2 := Lib.hid (ct_set (i := I) (n := C.getD I 0 + 1) hF hGe)
                  have i1 : IntKind.i64.wrap (C.getD I 0 + 1) = C.getD I 0 + 1 := IntWalk.i64_in _ (by omega)
                  generalize C.getD I 0 = v at *
                  clear hF
                  go_wp2
                  go_roundw
                  case rel => exact ⟨j + 1, by omega, by go_num, by rw [Hst.out]; exact hF2.out⟩
                  case measure => simp [intOf]; omega
            · obtain rfl : j = l.length := by omega
              rw [List.take_of_length_le (Nat.le_refl _)] at hF
              go_wp2
              go_ret2
              rw [HL.out, cnts_len]
              exact ct_ret hF (cnts_len l r) (by omega) rfl
end Go.Proofs.YtjccijmnbihpoaaDoor
