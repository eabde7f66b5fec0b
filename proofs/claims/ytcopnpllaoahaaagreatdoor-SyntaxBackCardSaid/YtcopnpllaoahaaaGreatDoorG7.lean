/- Sets of bytes: Print of the program. No condition. -/
import Derived.Test.YtcopnpllaoahaaaGreatDoorBld
import Derived.Deep.DeepCutAuto
namespace Go.Proofs.YtcopnpllaoahaaaGreatDoor
open Go.RowKit
theorem bsum_len (f : Nat → Bool) : ∀ n, bsum n f = ((List.range n).filter f).length
  | 0 => rfl
  | n + 1 => by
    rw [bsum_succ, bsum_len f n, List.range_succ, List.filter_append, List.length_append]
    congr 1
    cases h : f n <;> simp [h]
theorem cnt_mb (f : Nat → Bool) : bsum 256 f = (mbK f).length := bsum_len f 256
theorem write_I (w wr : World) (b : Nat) (l : List UInt8) (n : Nat) (hn : n < 256) (h : Bl w wr b l) (hb : Below w.heap.size w wr) (hlen : l.length ≤ 1000000) :
    Calls Tryz.prog 111 #[.pointer (some ⟨b, 0, none⟩), .int .u8 (n : Int)] wr fun e w' => e = .returned (.tuple #[]) ∧ Bl w w' b (l ++ txK (bK n)) ∧ Below w.heap.size w w' ∧ Lib.OthersKept bE (some b) wr w' := by
  have := write_ w wr b l (bK n) h hb hlen
  rwa [bK_nat hn] at this
theorem grownSet (w : World) (b i : Nat) (v : Value) : w.grownBy (w.setCell ⟨b, i, none⟩ v) (some b) := ⟨rfl, rfl, rfl, by simp [World.setCell], fun k _ hne => Go.RowKit.Below.heap_setCell w ⟨b, i, none⟩ v k (fun e => hne (by rw [e]))⟩
/-- a cell of another block is written -/
theorem Bl.set1 {w W : World} {b g i : Nat} {l : List UInt8} {v : Value} {cs : Array Value} {t : TypeId} {fz : Nat × Nat} (h : Bl w W b l) (hg : g ≠ b) (hc : W.heap[g]? = some (.cells cs t fz)) (ht : t ≠ bE) : Bl w (W.setCell ⟨g, i, none⟩ v) b l :=
  bld_grown h (grownSet W g i v) (fun e => hg (by injection e)) (fun q c fz' e hq => by injection e with e; subst e; rw [hc] at hq; injection hq with hq; injection hq with _ hq _; exact ht hq)
theorem Bl.set4 {w W : World} {b g : Nat} {l : List UInt8} {v0 v1 v2 v3 : Value} {cs : Array Value} {t : TypeId} (h : Bl w W b l) (hg : g ≠ b) (hc : W.heap[g]? = some (.cells cs t (0, 0))) (ht : t ≠ bE) :
    Bl w ((((W.setCell ⟨g, 0, none⟩ v0).setCell ⟨g, 1, none⟩ v1).setCell ⟨g, 2, none⟩ v2).setCell ⟨g, 3, none⟩ v3) b l := by
  have key : ∀ {W : World} {cs : Array Value} (i : Nat) (v : Value), W.heap[g]? = some (.cells cs t (0, 0)) → ∃ cs' : Array Value, (W.setCell ⟨g, i, none⟩ v).heap[g]? = some (.cells cs' t (0, 0)) := fun {W cs} i v hW => ⟨_, set_same hW v⟩
  obtain ⟨_, q0⟩ := key 0 v0 hc
  obtain ⟨_, q1⟩ := key 1 v1 q0
  obtain ⟨_, q2⟩ := key 2 v2 q1
  exact (((h.set1 hg hc ht).set1 hg q0 ht).set1 hg q1 ht).set1 hg q2 ht
/-- the runs, the builder and what is old, in a round -/
structure PrT (w W : World) (b B : Nat) (A : Option Addr) (cap : Nat) (rs : List (Nat × Nat)) (l : List UInt8) : Prop where
  bl : Bl w W b l
  bel : Below w.heap.size w W
  own : W.ownsRow B 142 2 (.slice A rs.length cap) rs.length (rrs rs)
  ne : (Value.slice A rs.length cap).ownBlock ≠ some b
section
variable {w W W' : World} {b B cap : Nat} {A : Option Addr} {rs : List (Nat × Nat)} {l l' : List UInt8}
theorem PrT.wrote (h : PrT w W b B A cap rs l) (hb : Bl w W' b l') (hB : Below w.heap.size w W') (ho : Lib.OthersKept bE (some b) W W') : PrT w W' b B A cap rs l' :=
  ⟨hb, hB, others_own ho h.own (by decide) h.ne, h.ne⟩
theorem PrT.al (h : PrT w W b B A cap rs l) (o : Obj) : PrT w (W.alloc o) b B A cap rs l := ⟨h.bl.alloc o, ba h.bel o, h.own.alloc o, h.ne⟩
end
theorem txT_len (b : UInt8) : (txK b).length ≤ 4 := by
  rcases txK_shape b with ⟨c, e, _⟩ | ⟨c, e, _⟩ | ⟨x, y, e, _⟩ <;> rw [e] <;> simp
theorem itK_len (q : Nat × Nat) : (itK q).length ≤ 9 := by
  have h : ∀ b : UInt8, (txK b).length ≤ 4 := fun b => by
    rcases txK_shape b with ⟨c, e, _⟩ | ⟨c, e, _⟩ | ⟨x, y, e, _⟩ <;> rw [e] <;> simp
  have h1 := h (bK q.1)
  have h2 := h (bK q.2)
  unfold itK
  simp only [List.length_append]
  split <;> split <;> simp <;> omega
theorem its_len (rs : List (Nat × Nat)) : (rs.flatMap itK).length ≤ 9 * rs.length := by
  induction rs with
  | nil => simp
  | cons q t ih => have := itK_len q; simp only [List.flatMap_cons, List.length_append, List.length_cons]; omega
abbrev r2O (x y : Nat) : Obj := .cells #[.int .u8 (x : Int), .int .u8 (y : Int)] 142 (0, 0)
theorem bx2 {w : World} {g : Nat} {a b : Value} {t : TypeId} (h : w.heap[g]? = some (.cells #[a, b] t (0, 0))) :
    (w.cell? ⟨g, 0, none⟩ = some a ∧ w.cell? ⟨g, 1, none⟩ = some b) ∧ (w.frozen? ⟨g, 0, none⟩ = false ∧ w.frozen? ⟨g, 1, none⟩ = false) ∧ g < w.heap.size :=
  ⟨⟨Lib.cell_of_heap h 0, Lib.cell_of_heap h 1⟩, ⟨Lib.frozen_of_heap h 0, Lib.frozen_of_heap h 1⟩, heap_lt h⟩
set_option maxRecDepth 100000 in
set_option maxHeartbeats 4000000 in
theorem print_ (f : Nat → Bool) (w : World) (hT : Tzt w) : Calls Tryz.prog 86 #[stV f] w fun e w' => e = .returned (.string ⟨(prK f).toArray⟩) ∧ Below w.heap.size w w' := by
  have HT := Lib.hid hT
  have hF0 := (Fr.start w).newN (g := w.heap.size) rfl (stO f)
  have hB0 : Bl w ((w.alloc (stO f)).alloc (.cells #[.pointer none, .slice none 0 0] bT)) (w.heap.size + 1) [] := by
    have := bld_newb hF0.bel
    simpa [Bl, Lib.byteCells] using this
  clear hT
  go_enter Tryz.func86, Tryz.ntmps86
  have HF0 := Lib.hid hF0
  have HB0 := Lib.hid hB0
  clear hF0 hB0
  go_wp2_with fail
  (with_reducible refine (bl_byteI w _ (w.heap.size + 1) [] 91 91 (Lib.hid rfl) (by exact HB0.out) (by exact ba HF0.out.bel _) (by simp)).mono ?_); rintro e w1 ⟨rfl, h1, hb1, ho1⟩
  have hst1 := others_blk (g := w.heap.size) ho1 (alloc_blk (HF0.out.at (g := w.heap.size) (o := stO f) (by simp))) (by omega) (by decide)
  obtain ⟨⟨c0, c1, c2, c3⟩, ⟨f0, f1, f2, f3⟩, hl1⟩ := bx4 hst1
  have HS1 := Lib.hid hst1
  have H1 : Hid (Bl w w1 (w.heap.size + 1) [91]) := Lib.hid h1
  have HBe1 := Lib.hid hb1
  have hcn := Lib.hid (count_ f)
  rw [cnt_mb] at hcn
  have hml : (mbK f).length ≤ 256 := by rw [← cnt_mb]; exact bsum_le _ _
  clear hst1 h1 hb1 ho1 HF0 HB0
  go_wp2_with fail
  (with_reducible refine (hcn.out _).mono ?_); rintro e w2 ⟨rfl, hb2⟩
  have HS2 := Lib.hid ((hb2.block w.heap.size (heap_lt HS1.out)).trans HS1.out)
  have H2 := Lib.hid (H1.out.below hb2)
  have HBe2 := Lib.hid (bt HBe1.out hb2)
  clear hb2 HS1 H1 HBe1 c0 c1 c2 c3 f0 f1 f2 f3 hl1 hcn
  obtain ⟨h0, hh0⟩ : ∃ h0 : Nat → Bool, h0 = if 128 < (mbK f).length then fun i => !f i else f := ⟨_, rfl⟩
  obtain ⟨l0, hl0⟩ : ∃ l0 : List UInt8, l0 = if 128 < (mbK f).length then [91, 94] else [91] := ⟨_, rfl⟩
  have Hpr : Hid (prK f = l0 ++ ((rnK (mbK h0)).flatMap itK ++ [93])) := Lib.hid (by
    rw [hh0, hl0]; unfold prK
    by_cases hm : 128 < (mbK f).length
    · rw [if_pos hm, if_pos hm, if_pos hm]; rfl
    · rw [if_neg hm, if_neg hm, if_neg hm]; rfl)
  have Hll : l0.length ≤ 2 := by rw [hl0]; split <;> simp
  have Hh0 := Lib.hid hh0
  have Hl0 := Lib.hid hl0
  clear hh0 hl0
  go_upto_if 9 with (fail)
  go_cut [] (fun wx => wx.heap[w.heap.size]? = some (stO h0) ∧ Bl w wx (w.heap.size + 1) l0 ∧ Below w.heap.size w wx)
  case first =>
    obtain ⟨⟨c0, c1, c2, c3⟩, ⟨f0, f1, f2, f3⟩, hl1⟩ := bx4 HS2.out
    by_cases hm : 128 < (mbK f).length
    · have i1 : (128 : Int) < ((mbK f).length : Int) := by omega
      have e1 := Hh0.out
      have e2 := Hl0.out
      rw [if_pos hm] at e1 e2
      have hne := Lib.hid (not_ f)
      rw [← e1] at hne
      have E2 := Lib.hid e2
      clear hm hml e1 e2
      go_wp2_with fail
      (with_reducible refine (bl_byteI w _ (w.heap.size + 1) [91] 94 94 (Lib.hid rfl) (by exact H2.out) (by exact HBe2.out) (by simp)).mono ?_); rintro e w3 ⟨rfl, h3, hb3, ho3⟩
      have hst3 := others_blk (g := w.heap.size) ho3 HS2.out (by omega) (by decide)
      have HS3 := Lib.hid hst3
      have H3 := Lib.hid h3
      have HBe3 := Lib.hid hb3
      clear HS2 H2 HBe2 c0 c1 c2 c3 f0 f1 f2 f3 hl1 h3 hb3 ho3
      obtain ⟨⟨c0, c1, c2, c3⟩, ⟨f0, f1, f2, f3⟩, hl1⟩ := bx4 hst3
      clear hst3
      go_wp2_with fail
      (with_reducible refine (hne.out _).mono ?_); rintro e w4 ⟨rfl, hb4⟩
      have hF4 : Fr w [(w.heap.size, stO f)] w4 := (Fr.nil HBe3.out |>.cons HS3.out).go hb4
      have H4 := Lib.hid (H3.out.below hb4)
      have HFt := Lib.hid (hF4.at (g := w.heap.size) (o := stO f) (by simp))
      have HF5 := Lib.hid (Fr.stPut (h := h0) hF4 (Nat.le_refl _) (by simp))
      obtain ⟨⟨d0, d1, d2, d3⟩, ⟨g0, g1, g2, g3⟩, hl2⟩ := bx4 (hF4.at (g := w.heap.size) (o := stO f) (by simp))
      clear c0 c1 c2 c3 f0 f1 f2 f3 hl1 hF4 hb4 HS3 H3 HBe3
      go_wp2
      go_meet
      refine ⟨HF5.out.at (by simp), ?_, HF5.out.bel⟩
      rw [E2.out]
      exact Bl.set4 (H4.out) (by omega) HFt.out (by decide)
    · have i1 : ¬ ((128 : Int) < ((mbK f).length : Int)) := by omega
      have e1 := Hh0.out
      have e2 := Hl0.out
      rw [if_neg hm] at e1 e2
      have E1 := Lib.hid e1
      have E2 := Lib.hid e2
      clear hm hml e1 e2
      go_wp2
      go_meet
      rw [E1.out, E2.out]
      exact ⟨HS2.out, H2.out, HBe2.out⟩
  case rest =>
  obtain ⟨hst, hbl, hbel⟩ := hcut
  obtain ⟨⟨c0, c1, c2, c3⟩, ⟨f0, f1, f2, f3⟩, hl1⟩ := bx4 hst
  have HR := Lib.hid (callsIn_wide.1 (runs_in_ h0 wc (HT.out.below hbel)))
  have hrl : (rnK (mbK h0)).length ≤ 256 := Nat.le_trans (rnK_len _) (by rw [← cnt_mb]; exact bsum_le _ _)
  have HO := Lib.hid (rnK_ok (mbK h0) [] (fun _ h => by cases h) (fun b hb => by have := (List.mem_filter.1 hb).1; simpa using this)).1
  change Hid (OkK (rnK (mbK h0))) at HO
  generalize rnK (mbK h0) = rs at *
  have HBl := Lib.hid hbl
  have HBel := Lib.hid hbel
  clear HS2 H2 HBe2 Hh0 Hl0 hst hbl hbel hml
  go_wp2_with fail
  (with_reducible refine (HR.out).mono ?_); rintro e w3 ⟨v3, rfl, hO3, hb3⟩
  have HB3 := Lib.hid (bt HBel.out hb3)
  have HBl3 := Lib.hid (HBl.out.below hb3)
  clear c0 c1 c2 c3 f0 f1 f2 f3 hl1 HBl HR
  obtain ⟨A, c, rfl, hrd, hcp, hcm⟩ := own_sl hO3
  have HP := Lib.hid (PrT.mk HBl3.out HB3.out hO3 (bld_ne hO3 HBl3.out (by decide)))
  have hb1 : w.heap.size + 1 < w3.heap.size := bld_lt HBl3.out
  clear hO3 hrd hb3 HBl3 HB3 hcp hcm
  go_wp2
  go_loopw [16] (fun i wr => ∃ k : Nat, k ≤ rs.length ∧ i = .int .i64 k ∧ PrT w wr (w.heap.size + 1) wc.heap.size A c rs (l0 ++ (rs.take k).flatMap itK)) (fun i _ => rs.length - (intOf i).toNat)
  case atStart => exact ⟨0, Nat.zero_le _, rfl, by simpa using HP.out⟩
  case round =>
    obtain ⟨k, hk, rfl, hP⟩ := hrel
    have hpl := its_len (rs.take k)
    have htk : (rs.take k).length ≤ k := List.length_take_le _ _
    by_cases hlt : k < rs.length
    · have i1 : (k : Int) < (rs.length : Int) := by omega
      have i0 : (0 : Int) ≤ (k : Int) := by omega
      obtain ⟨g, cap, hvv, hgb, hgl⟩ := hP.own.form (by omega)
      injection hvv with hA _ hcc
      subst hA hcc
      obtain ⟨x, y, hxy⟩ : ∃ x y, rs[k] = (x, y) := ⟨_, _, rfl⟩
      have hxo := HO.out (x, y) (by rw [← hxy]; exact List.getElem_mem hlt)
      simp only at hxo
      obtain ⟨hx1, hx2⟩ := hxo
      have hca : wr.cell? ⟨g, k * 2, none⟩ = some (.int .u8 (x : Int)) ∧ wr.cell? ⟨g, k * 2 + 1, none⟩ = some (.int .u8 (y : Int)) := by
        obtain ⟨q0, q1⟩ := flat2_at (f := rr0) (g := rr1) rs k hlt
        rw [hP.own.cellAt _ (by omega), hP.own.cellAt _ (by omega), q0, q1, hxy]
        exact ⟨rfl, rfl⟩
      obtain ⟨a0, a1⟩ := hca
      have hnx := Lib.hid (show l0 ++ (rs.take (k + 1)).flatMap itK = l0 ++ (rs.take k).flatMap itK ++ itK (x, y) by
        rw [List.take_add_one, List.getElem?_eq_getElem hlt, hxy]; simp)
      have hbx := alloc1_new wr (r2O x y)
      have hPa := hP.al (r2O x y)
      obtain ⟨⟨p0, p1⟩, _, hgl2⟩ := bx2 hbx
      have hLl : (l0 ++ (rs.take k).flatMap itK).length ≤ 3000 := by rw [List.length_append]; omega
      generalize l0 ++ (rs.take k).flatMap itK = l at *
      have HPa := Lib.hid hPa
      have HBx := Lib.hid hbx
      have hgne : wr.heap.size ≠ w.heap.size + 1 := by have := bld_lt hP.bl; omega
      clear hP hPa hbx hpl htk hxy
      go_upto_region 9 with fail
      generalize wr.alloc (r2O x y) = Wa at *
      by_cases e1 : x = y
      · subst e1
        have HT := Lib.hid (show itK (x, x) = txK (bK x) by unfold itK; simp)
        have m1 : ((x : Int) != (x : Int)) = false := by simp
        go_wp2_with fail
        (with_reducible refine (write_I w Wa (w.heap.size + 1) l x (by omega) (by exact HPa.out.bl) (by exact HPa.out.bel) (by omega)).mono ?_); rintro e w5 ⟨rfl, h5, hb5, ho5⟩
        have HP5 := Lib.hid (HPa.out.wrote h5 hb5 ho5)
        have HB5 := Lib.hid (others_blk (g := wr.heap.size) ho5 HBx.out hgne (by decide))
        obtain ⟨⟨q0, q1⟩, _, hgl5⟩ := bx2 HB5.out
        clear h5 hb5 ho5 HPa HBx p0 p1 hgl2
        have hfin := Lib.hid (show PrT w w5 (w.heap.size + 1) wc.heap.size (some ⟨g, 0, none⟩) c rs (l0 ++ (rs.take (k + 1)).flatMap itK) by
          rw [hnx.out, HT.out]; simpa using HP5.out)
        clear HP5
        go_wp2
        go_roundw
        case rel => exact ⟨k + 1, by omega, by go_num, hfin.out⟩
        case measure => (simp [intOf]) <;> omega
      by_cases e2 : y = x + 1
      · have HT := Lib.hid (show itK (x, y) = txK (bK x) ++ txK (bK y) by
          unfold itK
          rw [if_neg (by simp only; omega), if_pos (by simp only; omega)]; rfl)
        have m1 : ((y : Int) != (x : Int)) = true := by rw [bne_iff_ne]; omega
        have m2 : ¬ ((1 : Int) < (y : Int) - (x : Int)) := by omega
        have m3 : IntKind.u8.wrap ((y : Int) - (x : Int)) = (y : Int) - (x : Int) := by simp [IntKind.wrap, IntKind.bits, IntKind.signed]; omega
        clear e1 e2
        go_wp2_with fail
        (with_reducible refine (write_I w Wa (w.heap.size + 1) l x (by omega) (by exact HPa.out.bl) (by exact HPa.out.bel) (by omega)).mono ?_); rintro e w5 ⟨rfl, h5, hb5, ho5⟩
        have HP5 := Lib.hid (HPa.out.wrote h5 hb5 ho5)
        have HB5 := Lib.hid (others_blk (g := wr.heap.size) ho5 HBx.out hgne (by decide))
        obtain ⟨⟨q0, q1⟩, _, hgl5⟩ := bx2 HB5.out
        clear h5 hb5 ho5 HPa HBx p0 p1 hgl2
        go_wp2_with fail
        (with_reducible refine (write_I w w5 (w.heap.size + 1) _ y (by omega) (by exact HP5.out.bl) (by exact HP5.out.bel) (by have := txT_len (bK x); simp; omega)).mono ?_); rintro e w6 ⟨rfl, h6, hb6, ho6⟩
        have HP6 := Lib.hid (HP5.out.wrote h6 hb6 ho6)
        have HB6 := Lib.hid (others_blk (g := wr.heap.size) ho6 HB5.out hgne (by decide))
        clear h6 hb6 ho6 HP5 HB5 q0 q1 hgl5
        obtain ⟨⟨q0, q1⟩, _, hgl6⟩ := bx2 HB6.out
        have hfin := Lib.hid (show PrT w w6 (w.heap.size + 1) wc.heap.size (some ⟨g, 0, none⟩) c rs (l0 ++ (rs.take (k + 1)).flatMap itK) by
          rw [hnx.out, HT.out]; simpa using HP6.out)
        clear HP6
        go_wp2
        go_roundw
        case rel => exact ⟨k + 1, by omega, by go_num, hfin.out⟩
        case measure => (simp [intOf]) <;> omega
      · have HT := Lib.hid (show itK (x, y) = txK (bK x) ++ 45 :: txK (bK y) by
          unfold itK
          rw [if_pos (by simp only; omega), if_pos (by simp only; omega)]; rfl)
        have m1 : ((y : Int) != (x : Int)) = true := by rw [bne_iff_ne]; omega
        have m2 : (1 : Int) < (y : Int) - (x : Int) := by omega
        have m3 : IntKind.u8.wrap ((y : Int) - (x : Int)) = (y : Int) - (x : Int) := by simp [IntKind.wrap, IntKind.bits, IntKind.signed]; omega
        clear e1 e2
        go_wp2_with fail
        (with_reducible refine (write_I w Wa (w.heap.size + 1) l x (by omega) (by exact HPa.out.bl) (by exact HPa.out.bel) (by omega)).mono ?_); rintro e w5 ⟨rfl, h5, hb5, ho5⟩
        have HP5 := Lib.hid (HPa.out.wrote h5 hb5 ho5)
        have HB5 := Lib.hid (others_blk (g := wr.heap.size) ho5 HBx.out hgne (by decide))
        obtain ⟨⟨q0, q1⟩, _, hgl5⟩ := bx2 HB5.out
        clear h5 hb5 ho5 HPa HBx p0 p1 hgl2
        go_wp2_with fail
        (with_reducible refine (bl_byteI w w5 (w.heap.size + 1) _ 45 45 (Lib.hid rfl) (by exact HP5.out.bl) (by exact HP5.out.bel) (by have := txT_len (bK x); simp; omega)).mono ?_); rintro e w6 ⟨rfl, h6, hb6, ho6⟩
        have HP6 := Lib.hid (HP5.out.wrote h6 hb6 ho6)
        have HB6 := Lib.hid (others_blk (g := wr.heap.size) ho6 HB5.out hgne (by decide))
        clear h6 hb6 ho6 HP5 HB5 q0 q1 hgl5
        obtain ⟨⟨q0, q1⟩, _, hgl6⟩ := bx2 HB6.out
        go_wp2_with fail
        (with_reducible refine (write_I w w6 (w.heap.size + 1) _ y (by omega) (by exact HP6.out.bl) (by exact HP6.out.bel) (by have := txT_len (bK x); simp; omega)).mono ?_); rintro e w7 ⟨rfl, h7, hb7, ho7⟩
        have HP7 := Lib.hid (HP6.out.wrote h7 hb7 ho7)
        have HB7 := Lib.hid (others_blk (g := wr.heap.size) ho7 HB6.out hgne (by decide))
        clear h7 hb7 ho7 HP6 HB6 q0 q1 hgl6
        obtain ⟨⟨q0, q1⟩, _, hgl7⟩ := bx2 HB7.out
        have hfin := Lib.hid (show PrT w w7 (w.heap.size + 1) wc.heap.size (some ⟨g, 0, none⟩) c rs (l0 ++ (rs.take (k + 1)).flatMap itK) by
          rw [hnx.out, HT.out]; simpa using HP7.out)
        clear HP7
        go_wp2
        go_roundw
        case rel => exact ⟨k + 1, by omega, by go_num, hfin.out⟩
        case measure => (simp [intOf]) <;> omega
    · obtain rfl : k = rs.length := by omega
      rw [List.take_of_length_le (Nat.le_refl _)] at hP hpl
      have HPz := Lib.hid hP
      have hLl : (l0 ++ rs.flatMap itK).length ≤ 3000 := by rw [List.length_append]; omega
      have Hp2 : Hid (prK f = (l0 ++ rs.flatMap itK) ++ [93]) := Lib.hid (by rw [Hpr.out, List.append_assoc])
      generalize l0 ++ rs.flatMap itK = l at *
      clear hP
      go_wp2_with fail
      (with_reducible refine (bl_byteI w _ (w.heap.size + 1) l 93 93 (Lib.hid rfl) (by exact HPz.out.bl) (by exact HPz.out.bel) (by omega)).mono ?_); rintro e w5 ⟨rfl, h5, hb5, ho5⟩
      go_wp2_with fail
      (with_reducible refine (bl_string w _ (w.heap.size + 1) _ h5 hb5).mono ?_); rintro e w6 ⟨rfl, h6, hb6, ho6⟩
      go_wp2
      go_ret
      exact ⟨by rw [Hp2.out]; rfl, hb6⟩
end Go.Proofs.YtcopnpllaoahaaaGreatDoor
