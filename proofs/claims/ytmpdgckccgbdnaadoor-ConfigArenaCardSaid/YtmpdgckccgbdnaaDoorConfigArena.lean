/- ConfigArena: for every configuration and shape the law returns true. No condition. -/
import Derived.Test.YtmpdgckccgbdnaaDoorA2
import Derived.Test.YtmpdgckccgbdnaaDoorStep
namespace Go.Proofs.YtmpdgckccgbdnaaDoor
open Go.RowKit
theorem sumS_len : ∀ (l : List Rg), (∀ x ∈ l, 1 ≤ x.2.2) → (l.length : Int) ≤ sumS l
  | [], _ => by simp [sumS]
  | x :: r, h => by
    have h1 := h x List.mem_cons_self
    have h2 := sumS_len r fun y hy => h y (List.mem_cons_of_mem _ hy)
    rw [sumS, List.length_cons]; omega
theorem sumS_parts (l : List Rg) (j : Nat) : sumS l = sumS (l.take j) + sumS (l.drop j) := by
  induction l generalizing j with
  | nil => simp [sumS]
  | cons x r ih =>
    cases j with
    | zero => simp [sumS]
    | succ j => rw [List.take_succ_cons, List.drop_succ_cons, sumS, sumS, ih j]; omega
theorem cf_find : ∀ vs W, (callFunc 9 vs).run Tryd.prog W = .ok (.enter 9 vs) W := fun vs W => cf_of Tryd.func9 (by kernel_rfl) (by kernel_rfl) vs W
theorem step_fn3 {P : Program} {w : World} {ops : Array Oper} {o : Oper} {a : Act} {K : Act → World → Prop} {Q : Exit → Act → World → Prop} {E0 : Prop} (f : FuncId) {x y z : Operand} {ts : Array TypeId} (v1 v2 v3 : Value) {R : Ending → World → Prop}
    (hcf : ∀ vs W, (callFunc f vs).run P W = .ok (.enter f vs) W) (h : Calls P f #[v1, v2, v3] w R) (hR : ∀ e w', R e w' → ∃ v, e = .returned v ∧ K (a.put o.dst v) w')
    (hgd : o.guard = none := by rfl) (ho : o.op = .call { callee := .value (.func f), args := #[x, y, z], argTypes := ts } := by rfl) (hx : a.eval x = v1 := by rfl) (hy : a.eval y = v2 := by rfl) (hz : a.eval z = v3 := by rfl) :
    if Region.wanted o (yielded ops a.tmps) = true then Oper.wp P o a w K Q else E0 :=
  step_fn f _ _ _ R (hcf _) h hR hgd ho (by simp [hx, hy, hz])
theorem ArS.box {w0 W : World} {p gc g : Nat} {A : Option Addr} {c : Nat} {R : List Rg} (h : ArS w0 W p gc g A c R) {z : Nat} (hz : w0.heap.size ≤ z) (hzg : g ≠ z) (hne : (Value.slice A R.length c).ownBlock ≠ some z) {x0 x1 x2 : Value} (hb : W.heap[z]? = some (.cells #[x0, x1, x2] 38 (0, 0))) (y0 y1 y2 : Value) :
    (((W.setCell ⟨z, 0, none⟩ y0).setCell ⟨z, 1, none⟩ y1).setCell ⟨z, 2, none⟩ y2).heap[z]? = some (.cells #[y0, y1, y2] 38 (0, 0)) ∧ ArS w0 (((W.setCell ⟨z, 0, none⟩ y0).setCell ⟨z, 1, none⟩ y1).setCell ⟨z, 2, none⟩ y2) p gc g A c R := by
  refine ⟨by simpa using set_same (i := 2) (set_same (i := 1) (set_same (i := 0) hb y0) y1) y2, ?_, h.ge, ?_, ?_⟩
  · exact ((h.bel.setCell (p := ⟨z, 0, none⟩) hz y0).setCell (p := ⟨z, 1, none⟩) hz y1).setCell (p := ⟨z, 2, none⟩) hz y2
  · exact set_blk (set_blk (set_blk h.blk _ _ (by simpa using hzg.symm)) _ _ (by simpa using hzg.symm)) _ _ (by simpa using hzg.symm)
  · exact own_set (own_set (own_set h.own ⟨z, 0, none⟩ y0 hne) ⟨z, 1, none⟩ y1 hne) ⟨z, 2, none⟩ y2 hne
theorem ArS.fresh {w0 W : World} {p gc g : Nat} {A : Option Addr} {c : Nat} {R : List Rg} (h : ArS w0 W p gc g A c R) : g ≠ W.heap.size ∧ (Value.slice A R.length c).ownBlock ≠ some W.heap.size := by
  refine ⟨by have := heap_lt h.blk; omega, fun e => ?_⟩
  have := (h.own.lt _ e).2
  omega
abbrev moreB : ByteArray := ⟨#[109, 111, 114, 101]⟩
theorem lay_nms (s r n : Int) : ∀ x ∈ lay s r n, nameL x.1.data.toList = true ∧ x.1 ≠ moreB := by
  unfold lay
  simp only [List.mem_cons, List.not_mem_nil, or_false]
  rintro x (rfl | rfl | rfl | rfl | rfl | rfl | rfl | rfl | rfl) <;> (refine ⟨?_, ?_⟩ <;> (simp only; decide))
theorem next_of {L : List Rg} (hc : Cont 0 L) (hb : RgB L) {j : Nat} (hj : j ≤ L.length) : NextB (L.take j) (sumS (L.take j)) := by
  rcases j with _ | j
  · exact .inl ⟨rfl, rfl⟩
  · have hlt : j < L.length := by omega
    have hd : Hid (L.drop j = L[j] :: L.drop (j + 1)) := Lib.hid (List.drop_eq_getElem_cons hlt)
    have hB := hc.base hd
    have hT := sumS_take (s := L[j].1) (B := L[j].2.1) (S := L[j].2.2) hd
    obtain ⟨_, hb2⟩ := hb
    obtain ⟨x1, x2, x3, x4⟩ := hb2 L[j] (List.getElem_mem hlt)
    have hl : (L.take (j + 1)).length = j + 1 := by rw [List.length_take]; omega
    refine .inr ⟨by omega, ?_⟩
    have he : (L.take (j + 1))[(L.take (j + 1)).length - 1]'(by omega) = L[j] := by
      rw [List.getElem_take]
      congr 1
      omega
    rw [he]
    exact ⟨by omega, x3, by omega⟩
set_option maxRecDepth 100000 in
set_option maxHeartbeats 4000000 in
theorem configArena_walk (w : World) (b k l s r : Int) (hP : Pow w) :
    Calls Tryd.prog 3 #[cfV b k l, csV s r] w fun e w' => e = .returned (.bool true) ∧ Below w.heap.size w w' := by
  have HP := Lib.hid hP
  clear hP
  by_cases h : Ok2 b k l s r
  case neg =>
    have H := Lib.hid h
    have HN := Lib.hid (show needI b k l s r = 0 by unfold needI; rw [layL_no h]; rfl)
    have HE := Lib.hid (err2_no h)
    clear h
    go_enter Tryd.func3, Tryd.ntmps3
    go_wp2_with fail
    (with_reducible refine (layout_no b k l s r H.out _).mono ?_); rintro e w1 ⟨A1, a1, rfl, hb1, hr1, _, _⟩
    have hF1 : Fr w [(w.heap.size + 1, csO s r), (w.heap.size, cfO b k l)] w1 := (((Fr.start w).newN rfl (cfO b k l)).newN (by simp) (csO s r)).go hb1
    obtain ⟨c0, c1, c2, d0, d1, hlt⟩ := frC b k l s r hF1 (by simp) (by simp)
    clear hb1
    go_wp2_with fail
    (with_reducible refine (cneed b k l s r _).mono ?_); rintro e w2 ⟨rfl, hb2⟩
    rw [HN.out, HE.out]
    have hF2 := hF1.go hb2
    clear c0 c1 c2 d0 d1 hlt hb2 hF1
    go_wp2_with fail
    (with_reducible refine (awake w2 (HP.out.below hF2.bel)).mono ?_); rintro e w3 ⟨rfl, hb3⟩
    have hB := bt hF2.bel hb3
    go_wp2
    go_ret
    exact ⟨rfl, hB⟩
  obtain ⟨L, p0, hL⟩ := apL b k l s r h
  have hpl := sumS_len L (fun x hx => (hL.bd.2 x hx).1)
  rw [hL.len, hL.sum] at hpl
  obtain ⟨p, rfl⟩ : ∃ p : Nat, p0 = (p : Int) := ⟨p0.toNat, by omega⟩
  have hp1 : 1 ≤ p := by omega
  have hp2 : p ≤ 3000 := by have := hL.le; omega
  have HL := Lib.hid hL
  have HY := Lib.hid (show lay s r (k + b * r) = L by rw [← layL_yes h]; exact hL.lay)
  have H := Lib.hid h
  have HE := Lib.hid (err2_yes h)
  have HN := Lib.hid hL.need
  have HNm := Lib.hid (fun (x : Rg) (hx : x ∈ L) => lay_nms s r (k + b * r) x (by rw [HY.out]; exact hx))
  clear h hL hpl
  go_enter Tryd.func3, Tryd.ntmps3
  go_wp2_with fail
  (with_reducible refine (layout_yes b k l s r H.out _).mono ?_); rintro e w1 ⟨A1, a1, rfl, hb1, hr1, _, _⟩
  rw [HY.out] at hr1
  have hF1 : Fr w [(w.heap.size + 1, csO s r), (w.heap.size, cfO b k l)] w1 := (((Fr.start w).newN rfl (cfO b k l)).newN (by simp) (csO s r)).go hb1
  obtain ⟨c0, c1, c2, d0, d1, hlt⟩ := frC b k l s r hF1 (by simp) (by simp)
  clear hb1
  go_wp2_with fail
  (with_reducible refine (cneed b k l s r _).mono ?_); rintro e w2 ⟨rfl, hb2⟩
  rw [HN.out, HE.out]
  have HF2 := Lib.hid (hF1.go hb2)
  have HR2 := Lib.hid (hr1.go hb2)
  clear c0 c1 c2 d0 d1 hlt hb2 hF1 hr1
  go_wp2_with fail
  (with_reducible refine (anew p hp1 hp2 _).mono ?_); rintro e w3 ⟨rfl, hF3⟩
  have hA3 : ArS w2 w3 p w2.heap.size (w2.heap.size + 1) none 0 (L.take 0) := ⟨hF3.bel, by omega, hF3.at (by simp), World.ownsRow_nil _ _ _ _⟩
  have HA3 := Lib.hid hA3
  clear hA3 hF3
  obtain ⟨g, hg⟩ : ∃ g, g = w2.heap.size + 1 := ⟨_, rfl⟩
  rw [← hg] at HA3
  rw [← hg]
  clear hg
  go_wp2
  go_loopw [10] (fun i wr => ∃ (j : Nat) (A : Option Addr) (c : Nat), j ≤ 9 ∧ i = .int .i64 j ∧ ArS w2 wr p w2.heap.size g A c (L.take j)) (fun i _ => 9 - (intOf i).toNat)
  case atStart => exact ⟨0, none, 0, by omega, rfl, HA3.out⟩
  case round =>
    clear HA3
    obtain ⟨j, A, c, hj, rfl, hS⟩ := hrel
    by_cases hjl : j < 9
    case pos =>
      obtain ⟨b', off, nm, B, S, hA, hb', d1, d2, d3, hd⟩ := rgAt (by rw [HL.out.len]; exact HR2.out) (show j < L.length by rw [HL.out.len]; exact hjl)
      subst hA
      have hB0 : B = 0 + sumS (L.take j) := HL.out.cont.base hd
      have hx := mem_drop hd
      obtain ⟨x1, x2, x3, x4⟩ := HL.out.bd.2 _ hx
      simp only at x1 x2 x3 x4
      have hT := sumS_take hd
      have hle : sumS (L.take (j + 1)) ≤ (p : Int) := by
        have h1 := sumS_parts L (j + 1)
        have h2 := sumS_len (L.drop (j + 1)) (fun x hx => (HL.out.bd.2 x (List.mem_of_mem_drop hx)).1)
        have h3 := HL.out.sum
        omega
      have hnx := Lib.hid (show NextB (L.take j) B by
        have := next_of HL.out.cont HL.out.bd (j := j) (by rw [HL.out.len]; omega)
        rwa [show sumS (L.take j) = B by omega] at this)
      have hnn := Lib.hid (show ∀ y ∈ L.take j, y.1 ≠ nm by
        intro y hy
        obtain ⟨m, hm, rfl⟩ := List.mem_iff_getElem.1 hy
        rw [List.length_take] at hm
        rw [List.getElem_take]
        exact apart_ne HL.out.apart (m := m) (j := j) (by omega) (Lib.hid (List.drop_eq_getElem_cons (by rw [HL.out.len]; omega))) hd)
      have hnms := Lib.hid (HNm.out _ hx).1
      have hnsz : nm.size ≤ 6 := lay_names s r (k + b * r) (nm, B, S) (by rw [HY.out]; exact hx)
      have hlt60 : (L.take j).length ≤ 60 := by rw [List.length_take]; omega
      have hsle : S ≤ (p : Int) - B := by omega
      have Hcall := Lib.hid (fun (W : World) (hW : ArS w2 W p w2.heap.size g A c (L.take j)) => aregion w2 W p w2.heap.size g A c (L.take j) nm B S hW hlt60 hnn hnms (by omega) x1 hnx (by omega) (by omega) hsle (by omega))
      have htk : L.take j ++ [(nm, B, S)] = L.take (j + 1) := (take_of_drop hd.out).symm
      rw [htk] at Hcall
      have hi1 : (j : Int) < 9 := by omega
      have hi0 : (0 : Int) ≤ (j : Int) := by omega
      have HS := Lib.hid hS
      have HC := Lib.hid (fun (W : World) (hW : Below w2.heap.size w2 W) => And.intro ((hW.cell (p := ⟨b', off + j * 3, none⟩) hb').trans d1) (And.intro ((hW.cell (p := ⟨b', off + j * 3 + 1, none⟩) hb').trans d2) ((hW.cell (p := ⟨b', off + j * 3 + 2, none⟩) hb').trans d3)))
      have hf := HL.out.apart.find hx
      have hX : fndX b k l s r nm = (nm, B, S) := by unfold fndX; rw [HL.out.lay, hf]; rfl
      have hE : fndE b k l s r nm = 0 := by unfold fndE; rw [err2_yes HL.out.ok, HL.out.lay, hf]; rfl
      have Hfind := Lib.hid (fun (W : World) => show Calls Tryd.prog 9 #[cfV b k l, csV s r, .string nm] W fun e w' => e = .returned (.tuple #[rgV (nm, B, S), .int .i64 0]) ∧ Below W.heap.size W w' by
        have := cfind b k l s r nm (by omega) W
        rw [hX, hE] at this
        exact this)
      clear hd hx hnx hnn hB0 hT hle htk hS hf hX hE d1 d2 d3
      go_upto_region 11 with fail
      go_cut [11, 12] (fun s11 s12 wx => s11 = .int .i64 B ∧ s12 = .int .i64 0 ∧ ∃ A4 c4, ArS w2 wx p w2.heap.size g A4 c4 (L.take (j + 1)))
      case first =>
        obtain ⟨d1, d2, d3⟩ := HC.out wr HS.out.bel
        have hSd : ArS w2 wr.drew p w2.heap.size g A c (L.take j) := HS.out.drewN 1
        have hcd := Hcall.out _ hSd
        clear hSd
        go_region_with ((go_at_call 8; with_reducible refine hcd.mono ?_; rintro e w4 ⟨rfl, A4, c4, hS4⟩))
        all_goals
          go_wp2
          go_meet
          exact ⟨rfl, rfl, A4, c4, hS4⟩
      case rest =>
      obtain ⟨rfl, rfl, A4, c4, hS4⟩ := hcut
      have HS4 := Lib.hid hS4
      clear hS4 HS Hcall
      go_upto_region 12 with fail
      go_cut [13, 14] (fun s13 s14 wx => s14 = .int .i64 0 ∧ ∃ q, s13 = .pointer (some ⟨q, 0, none⟩) ∧ wx.heap[q]? = some (.cells #[.string nm, .int .i64 B, .int .i64 S] 38 (0, 0)) ∧ ArS w2 wx p w2.heap.size g A4 c4 (L.take (j + 1)))
      case first =>
        obtain ⟨d1, d2, d3⟩ := HC.out wc HS4.out.bel
        obtain ⟨c0, c1, c2, e0, e1, hlt⟩ := frC b k l s r (HF2.out.go HS4.out.bel) (by simp) (by simp)
        have hSd : ArS w2 wc.drew p w2.heap.size g A4 c4 (L.take (j + 1)) := HS4.out.drewN 1
        have HSd := Lib.hid hSd
        have hw1 : w.heap.size + 1 < wc.heap.size := (HF2.out.go HS4.out.bel).lt (g := w.heap.size + 1) (o := csO s r) (by simp)
        have hw0 : w.heap.size < wc.heap.size := by omega
        have hbw : b' < wc.heap.size := Nat.lt_of_lt_of_le hb' HS4.out.bel.size
        have HSa : Hid (ArS w2 (wc.alloc (.cells #[.string ⟨#[]⟩, .int .i64 0, .int .i64 0] 38 (0, 0))).drew p w2.heap.size g A4 c4 (L.take (j + 1))) := Lib.hid ((HS4.out.go (ba (Below.refl _ _) _)).drewN 1)
        have Hfr := Lib.hid HS4.out.fresh
        have Hge := Lib.hid HS4.out.bel.size
        have Hwl := Lib.hid (alloc1_new wc (.cells #[.string ⟨#[]⟩, .int .i64 0, .int .i64 0] 38 (0, 0)))
        clear hSd
        go_region_law ((first
          | (refine step_fn3 9 (cfV b k l) (csV s r) (.string nm) cf_find (Hfind.out _) ?_; intro e w5 hh; obtain ⟨rfl, hb⟩ := hh; (try (have b5 := below_blk hb (by simp) Hwl.out; obtain ⟨y0, y1, y2⟩ : _ ∧ _ ∧ _ := ⟨Lib.cell_of_heap b5 0, Lib.cell_of_heap b5 1, Lib.cell_of_heap b5 2⟩; obtain ⟨z0, z1, z2⟩ : _ ∧ _ ∧ _ := ⟨Lib.frozen_of_heap b5 0, Lib.frozen_of_heap b5 1, Lib.frozen_of_heap b5 2⟩)); refine ⟨_, rfl, ?_⟩)))
        all_goals
          go_wp2
          go_meet
        all_goals
          refine ⟨rfl, _, rfl, ?_⟩
          first
            | with_reducible exact ArS.box (HSa.out.go hb) Hge.out Hfr.out.1 Hfr.out.2 b5 _ _ _
            | exact And.intro (by with_reducible exact alloc1_new _ _) ((HSd.out.go hb).go (ba (Below.refl _ _) _))
      case rest =>
      obtain ⟨rfl, q, rfl, hq, hS5⟩ := hcut
      obtain ⟨d1, d2, d3⟩ := HC.out wc hS5.bel
      obtain ⟨z0, z1, z2⟩ : _ ∧ _ ∧ _ := ⟨Lib.cell_of_heap hq 0, Lib.cell_of_heap hq 1, Lib.cell_of_heap hq 2⟩
      have HS5 := Lib.hid hS5
      clear hS5 hq HS4 HC Hfind
      go_wp2
      go_quiet (fail)
      go_wp2
      go_roundw
      case rel => exact ⟨j + 1, A4, c4, by omega, by go_num, HS5.out.drewN _⟩
      case measure => simp [intOf]; omega
    case neg =>
      have i9 : ¬ ((j : Int) < 9) := by omega
      have htk : L.take j = L := List.take_of_length_le (by rw [HL.out.len]; omega)
      have hl9 := HL.out.len
      rw [htk] at hS
      have hnx := Lib.hid (show NextB L (p : Int) by
        have := next_of HL.out.cont HL.out.bd (j := 9) (by omega)
        rwa [List.take_of_length_le (by omega), HL.out.sum] at this)
      have hfull := afull w2 wr p w2.heap.size g A c L moreB p 1 hS (by omega) (Lib.hid (fun y hy => (HNm.out y hy).2)) (Lib.hid (by decide)) (by decide) (by omega) hnx (by omega) (by omega) (by omega) (by omega)
      have Hfull := Lib.hid hfull
      clear hfull hnx hS htk
      go_wp2_with fail
      with_reducible refine Hfull.out.mono ?_
      rintro e w4 ⟨rfl, hS4⟩
      obtain ⟨b3, off3, _, _, _, rfl, _, _, _, _, _⟩ := rgAt hS4.rd (k := 0) (by omega)
      have Hrg := Lib.hid (aregions w2 w4 p w2.heap.size g ⟨b3, off3, none⟩ c L hS4 (by omega))
      have HF4 := Lib.hid (HF2.out.go hS4.bel)
      have HR4 := Lib.hid (HR2.out.go hS4.bel)
      clear hS4 Hfull
      go_wp2_with fail
      with_reducible refine Hrg.out.mono ?_
      rintro e w5 ⟨A5, c5, rfl, hb5, hr5⟩
      have HF5 := Lib.hid (HF4.out.go hb5)
      have hsm := sameRegions_any w5 _ _ A5 A1 c5 a1 L L hr5 (by rw [hl9]; exact HR4.out.go hb5) (by omega)
      rw [decide_eq_true rfl, hl9] at hsm
      have Hsm := Lib.hid hsm
      rw [hl9]
      clear hsm hr5 hb5 HF4 HR4 Hrg hl9
      go_wp2_with fail
      with_reducible refine Hsm.out.mono ?_
      rintro e w6 ⟨rfl, hb6⟩
      have HF6 := Lib.hid (HF5.out.go hb6)
      clear hb6 HF5 Hsm
      go_wp2_with fail
      (with_reducible refine (awake w6 (HP.out.below HF6.out.bel)).mono ?_); rintro e w7 ⟨rfl, hb7⟩
      have hB := bt HF6.out.bel hb7
      go_wp2
      go_ret
      exact ⟨rfl, hB⟩
end Go.Proofs.YtmpdgckccgbdnaaDoor
