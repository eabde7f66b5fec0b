/- Rows of bits: Print of the program. -/
import Derived.Test.YtaogplmcabbikaaGreatDoorB20
import Derived.Test.YtaogplmcabbikaaGreatDoorApp
import Derived.Test.YtaogplmcabbikaaGreatDoorShelf
namespace Go.Proofs.YtaogplmcabbikaaGreatDoor
open Go.RowKit Go.Shelf
attribute [local go_sem] Oper.semAt_some
theorem tz16_below {w w' : World} (h : Tz16 w) (hb : Below w.heap.size w w') : Tz16 w' := by
  unfold Tz16 at h ⊢
  exact (hb.cell (p := ⟨0, 15, none⟩) (World.block_lt_of_cell? _ _ h)).trans h
def hexS (x : Nat) : ByteArray := ⟨(hexD 16 x).toArray⟩
abbrev prTx (pre : List BW) : List Value := pre.map fun x => .string (hexS x.1.2)
theorem prTx_one (pre : List BW) : ∀ u ∈ prTx pre, u.oneCell' = true := by
  intro u hu
  obtain ⟨x, _, rfl⟩ := List.mem_map.1 hu
  rfl
theorem strEl : Elem Tryz.prog 45 9 (.string ⟨#[]⟩) 1 16 := ⟨Tryz.underlying45, by kernel_rfl, rfl, by decide⟩
theorem repeat_one (m : Nat) : Lib.repeatL [48] m = List.replicate m 48 := by
  induction m with
  | zero => rfl
  | succ m ih => rw [List.replicate_succ, ← ih]; rfl
/-- the box of parts, the box of the row, and the parts -/
structure PrS (w0 : World) (pb bs : Nat) (v sl : Value) (k : Nat) (xs : List Value) (W : World) : Prop where
  fr : Fr w0 [(pb, .cells #[v] 45 (0, 0)), (bs, .cells #[sl] 22 (0, 0))] W
  own : W.ownsRow w0.heap.size 9 1 v k xs
section
variable {w0 : World} {pb bs k : Nat} {v sl : Value} {xs : List Value} {W W' : World}
theorem PrS.cell (h : PrS w0 pb bs v sl k xs W) : W.cell? ⟨pb, 0, none⟩ = some v := Lib.cell_of_heap (h.fr.at List.mem_cons_self) 0
theorem PrS.go (h : PrS w0 pb bs v sl k xs W) (hb : Below W.heap.size W W') : PrS w0 pb bs v sl k xs W' := ⟨h.fr.go hb, own_below h.own hb⟩
theorem PrS.al (h : PrS w0 pb bs v sl k xs W) (o : Obj) : PrS w0 pb bs v sl k xs (W.alloc o) := h.go ((Below.refl _ _).alloc (Nat.le_refl _) o)
theorem PrS.drew (h : PrS w0 pb bs v sl k xs W) : PrS w0 pb bs v sl k xs W.drew := ⟨h.fr.drew, h.own⟩
theorem PrS.turn {B : Nat} (h : PrS w0 pb bs v sl k xs W) (hB : w0.heap.size ≤ B) {row : Option Nat} (hg : W.grownBy W' row) (hr : ∀ r, row = some r → B ≤ r ∧ ∃ o : Obj, W.heap[r]? = some o ∧ o.isCells = false) : PrS w0 pb bs v sl k xs W' :=
  ⟨h.fr.turn hB (fun p hp => by rcases List.mem_cons.1 hp with rfl | hp; · rfl
                                rw [List.mem_singleton.1 hp]; rfl) hg hr, own_turn h.own hg fun r e => (hr r e).2⟩
end
set_option maxRecDepth 100000 in
set_option maxHeartbeats 4000000 in
theorem print_ok (w : World) (A : Option Addr) (c : Nat) (l : List Nat) (h : Reads w w.heap.size 1 A l.length (u64s l)) (hw : W64 l) (hc : chkB l.length = 0) (hT : Tz16 w) :
    Calls Tryz.prog 6 #[.slice A l.length c] w fun e w' => e = .returned (.tuple #[.string ⟨(prtB l).toArray⟩, .int .i64 0]) ∧ Below w.heap.size w w' := by
  obtain ⟨h1, h8⟩ := chkB_ok.1 hc
  have Hx := Lib.hid hc.symm
  have HR := Lib.hid h
  have Hw := Lib.hid hw
  have HT := Lib.hid hT
  clear h hw hc hT
  refine (callsIn_wide (n := 4)).1 ?_
  refine callsIn_of_wp_marks Tryz.func6 rfl trivial ?_ rfl
  simp only [Tryz.ntmps6, List.size_toArray, List.length_cons, List.length_nil, Nat.reduceAdd, Nat.reduceSub, Array.replicate_succ, Array.replicate_zero, List.push_toArray, List.append_toArray, List.nil_append, List.cons_append]
  gi_wp2_with (first | (refine ⟨trivial, ?_⟩; gi_at_call 15; refine (callsIn_wide.2 (check_ _ A c l.length (by omega) 0 Hx)).mono ?_; rintro e w' ⟨rfl, rfl⟩) | (refine ⟨trivial, ?_⟩; gi_at_call 17; refine (backward_in _ _ _ _ _).mono ?_; rintro e w' ⟨rfl, rfl⟩))
  have hF0 : Fr w [(w.heap.size, .cells #[.slice none 0 0] 45 (0, 0)), (w.heap.size + 1, .cells #[.slice A l.length c] 22 (0, 0))] ((w.alloc (.cells #[.slice none 0 0] 45)).alloc (.cells #[.slice A l.length c] 22)) :=
    (((Fr.start w).new (.cells #[.slice none 0 0] 45)).newN (World.size_alloc _ _) (.cells #[.slice A l.length c] 22)).sub (fun p hp => by simpa [or_comm] using hp)
  have hS0 : PrS w w.heap.size (w.heap.size + 1) (.slice none 0 0) (.slice A l.length c) 0 [] ((w.alloc (.cells #[.slice none 0 0] 45)).alloc (.cells #[.slice A l.length c] 22)) := ⟨hF0, World.ownsRow_nil _ _ _ _⟩
  have hbs := hF0.at (g := w.heap.size + 1) (List.mem_cons_of_mem _ List.mem_cons_self)
  have hsz : ((w.alloc (.cells #[.slice none 0 0] 45)).alloc (.cells #[.slice A l.length c] 22)).heap.size = w.heap.size + 2 := by simp
  have hr0 := (HR.out.below hF0.bel)
  obtain ⟨w1, hw1⟩ : ∃ w1, w1 = (w.alloc (.cells #[.slice none 0 0] 45)).alloc (.cells #[.slice A l.length c] 22) := ⟨_, rfl⟩
  rw [← hw1] at hS0 hbs hsz hr0 ⊢
  have HF0 := Lib.hid hF0
  have Hsz := Lib.hid hsz
  clear hF0 hsz hw1
  refine wpIn_rangeFunc_ownG rfl (by omega) (gf := 32) (lb := #[.pointer (some ⟨w.heap.size + 1, 0, none⟩)]) rfl trivial (enters_of Tryz.func32 (by kernel_rfl) rfl)
    (backward_stops _ (by omega) (w.heap.size + 1) w.heap.size c A l Hw.out (by omega) w1 (by rw [Hsz.out]; omega) hbs hr0) (fun h k => h.trans k) (keepB_b (by rw [Hsz.out]; omega) (by rw [Hsz.out]; omega)) (Below.refl _ _) (fun _ => rfl)
    (fun pre W => ∃ B k, PrS w w.heap.size (w.heap.size + 1) (.slice B pre.length k) (.slice A l.length c) pre.length (prTx pre) W)
    (fun _ _ _ => False)
    ?hI (fun _ _ _ _ _ hs _ _ => hs) ⟨none, 0, hS0⟩
    (fun x => { tmps := #[.slice A l.length c, undef, .string { data := #[] }, .int .i64 0, .int .i64 0, .pointer (some ⟨w.heap.size, 0, none⟩), undef, .int .u64 x.1.2, undef, .slice A l.length c, .int .i64 0, .int .i64 0, .bool false, undef, .slice A l.length c, .func (.func 32) #[] #[.pointer (some ⟨w.heap.size + 1, 0, none⟩)], .int .i64 x.1.1, .int .u64 x.1.2, undef, undef, undef, undef, undef, undef, undef, undef, undef, undef, undef, undef, undef], defers := [] }) ?assign ?body ?done ?stop
  case hI =>
    rintro s X Y row ⟨B, k, hs⟩ hg hr
    exact ⟨B, k, hs.turn (by rw [Hsz.out]; omega) hg hr⟩
  case assign =>
    intro L x W K hK
    gi_wp2
    exact hK
  case body =>
    rintro L pre ⟨⟨q, x⟩, hx⟩ W ⟨B, k, hs⟩ hlt
    gi_wp2_with (refine ⟨trivial, ?_⟩; gi_at_call 18; refine (CallsIn.inRound L (callsIn_wide.2 (format_ _ x hx (tz16_below HT.out hs.fr.bel)))).mono ?_; rintro e w' ⟨rfl, hb⟩)
    have hdl := hexB_len x hx
    have hpad := hexB_pad x hx
    obtain ⟨D, hD⟩ : ∃ D : ByteArray, D = ⟨(hexB x).toArray⟩ := ⟨_, rfl⟩
    rw [← hD]
    have hDs : D.size = (hexB x).length := by rw [hD]; rfl
    obtain ⟨m, hm⟩ : ∃ m : Nat, D.size + m = 16 := ⟨16 - D.size, by omega⟩
    have hrep : ∀ W, Calls Tryz.prog 19 #[.string ⟨#[48]⟩, .int .i64 m] W fun e w' => e = .returned (.string ⟨(List.replicate m 48).toArray⟩) ∧ Below W.heap.size W w' := fun W => by
      have hh := Tryz.strings_Repeat ⟨#[48]⟩ m W (by omega) (by show 1 * m ≤ _; omega)
      rw [show Lib.repeatL (⟨#[48]⟩ : ByteArray).data.toList m = List.replicate m 48 from repeat_one m] at hh
      exact hh
    obtain ⟨R, hR⟩ : ∃ R : ByteArray, R = ⟨(List.replicate m 48).toArray⟩ := ⟨_, rfl⟩
    rw [← hR] at hrep
    have hRs : R.size = m := by rw [hR]; exact List.length_replicate
    have hRD : R ++ D = hexS x := by
      unfold hexS
      rw [← hpad]
      apply ByteArray.ext
      rw [ByteArray.data_append, hR, hD]
      simp only [List.append_toArray]
      rw [show 16 - (hexB x).length = m by omega]
    have Hrep := Lib.hid hrep
    have HRD := Lib.hid hRD
    have hsub : IntKind.i64.wrap (16 - (D.size : Int)) = (m : Int) := by rw [IntWalk.i64_in _ (by omega)]; omega
    have hwm : IntKind.i64.wrap (m : Int) = (m : Int) := IntWalk.i64_in _ (by omega)
    have hmx : ¬ (9223372036854775807 < R.size + D.size) := by omega
    have hlb : pre.length < 8 := by omega
    have HS := Lib.hid (hs.go hb).drew
    have hn0 := hs.fr.bel.size
    have HRd := Lib.hid ((Rd.refl w.heap.size W).go hn0 hb).drew
    have HWb := Lib.hid (hs.fr.at (g := w.heap.size + 1) (List.mem_cons_of_mem _ List.mem_cons_self))
    clear hdl hpad hD hDs hR hRs hrep hRD hm hs hb
    refine region_round_last (S := Fr w [(w.heap.size, .cells #[.slice B pre.length k] 45 (0, 0)), (w.heap.size + 1, .cells #[.slice A l.length c] 22 (0, 0))]) 9 (by kernel_rfl) (by kernel_rfl) (fun ⟨_, _, hh⟩ => hh) HS.out.fr ?_
    intro hS1
    refine wpAnyL_take (i := 0) (oi := ⟨some 20, Op.load _ _, _, _, _, _⟩) (v := ?_) (by kernel_rfl) rfl (by kernel_rfl) (by kernel_rfl) (by kernel_rfl) (fun _ _ _ h => h) (Or.inl ⟨by rfl, ?_⟩) hS1 ?_
    rotate_left
    · intro w2 hS2
      have hc2 := Lib.cell_of_heap (hS2.at (g := w.heap.size) List.mem_cons_self) 0
      go_simp
      with_reducible rfl
    try simp only [Act.put, List.setIfInBounds_toArray, List.set_cons_zero, List.set_cons_succ]
    refine wpAnyL_take (i := 1) (oi := ⟨some 21, Op.move _, _, _, _, _⟩) (v := ?_) (by kernel_rfl) rfl (by kernel_rfl) (by kernel_rfl) (by kernel_rfl) (fun _ _ _ h => h) (Or.inl ⟨by rfl, ?_⟩) hS1 ?_
    rotate_left
    · intro w2 _
      go_simp
      with_reducible rfl
    try simp only [Act.put, List.setIfInBounds_toArray, List.set_cons_zero, List.set_cons_succ]
    refine wpAnyL_take (i := 2) (oi := ⟨some 22, Op.call _, _, _, _, _⟩) (v := ?_) (by kernel_rfl) rfl (by kernel_rfl) (by kernel_rfl) (by kernel_rfl) (fun _ _ _ h => h) (Or.inl ⟨by rfl, ?_⟩) hS1 ?_
    rotate_left
    · intro w2 _
      go_simp
      with_reducible rfl
    try simp only [Act.put, List.setIfInBounds_toArray, List.set_cons_zero, List.set_cons_succ]
    refine wpAnyL_take (i := 3) (oi := ⟨some 23, Op.binOp _ _ _ _ _, _, _, _, _⟩) (v := ?_) (by kernel_rfl) rfl (by kernel_rfl) (by kernel_rfl) (by kernel_rfl) (fun _ _ _ h => h) (Or.inl ⟨by rfl, ?_⟩) hS1 ?_
    rotate_left
    · intro w2 _
      go_simp
      with_reducible rfl
    try simp only [Act.put, List.setIfInBounds_toArray, List.set_cons_zero, List.set_cons_succ]
    refine wpAnyL_take (i := 5) (oi := ⟨some 25, Op.move _, _, _, _, _⟩) (v := ?_) (by kernel_rfl) rfl (by kernel_rfl) (by kernel_rfl) (by kernel_rfl) (fun _ _ _ h => h) (Or.inl ⟨by rfl, ?_⟩) hS1 ?_
    rotate_left
    · intro w2 _
      go_simp
      with_reducible rfl
    try simp only [Act.put, List.setIfInBounds_toArray, List.set_cons_zero, List.set_cons_succ]
    refine wpAnyL_one (i := 4) (o := ⟨some 24, Op.call _, _, _, _, _⟩) (by kernel_rfl) rfl fun K hK => ?_
    go_simp
    (with_reducible refine (Hrep.out _).mono ?_)
    rintro e w3 ⟨rfl, hb3⟩
    refine hK.out _ _ (fun _ => hS1.go hb3) fun hS3 => ?_
    have hS3 := hS3 (by decide)
    clear hK K
    try simp only [Act.put, List.setIfInBounds_toArray, List.set_cons_zero, List.set_cons_succ]
    refine wpAnyL_take (i := 6) (oi := ⟨some 26, Op.binOp _ _ _ _ _, _, _, _, _⟩) (v := ?_) (by kernel_rfl) rfl (by kernel_rfl) (by kernel_rfl) (by kernel_rfl) (fun _ _ _ h => h) (Or.inl ⟨by rfl, ?_⟩) hS3 ?_
    rotate_left
    · intro w2 _
      go_simp
      with_reducible rfl
    try simp only [Act.put, List.setIfInBounds_toArray, List.set_cons_zero, List.set_cons_succ]
    rw [HRD.out]
    refine wpAnyL_one (i := 7) (o := ⟨some 27, Op.buildSlice _ _ _, _, _, _, _⟩) (by kernel_rfl) rfl fun K hK => ?_
    go_simp
    refine hK.out _ _ (fun _ => hS3.al _) fun hS4 => ?_
    have hS4 := hS4 (by decide)
    clear hK K
    try simp only [Act.put, List.setIfInBounds_toArray, List.set_cons_zero, List.set_cons_succ]
    refine wpAnyL_one (i := 8) (o := ⟨some 28, Op.call _, _, _, _, _⟩) (by kernel_rfl) rfl fun K hK => ?_
    have hO4 := (own_below HS.out.own hb3).alloc (.cells #[.string (hexS x)] 9 (0, 0))
    refine step_apr strEl (w0 := w) (n := pre.length) (m := 1) (news := [.string (hexS x)]) hO4 hS4.bel (reads_blkN (t := 9) (alloc1_new _ _) (by simp)) (by simp [Value.oneCell']) ?_
    intro v5 w5 hO5 hB5 hG5
    obtain ⟨g5, cap5, rfl, hgb, hgl⟩ := hO5.form (by omega)
    have hS5 := hS4.grown hB5 hG5 (fun p hp => by
      rcases List.mem_cons.1 hp with rfl | hp
      · exact own_blk_ne hO4 (hS4.at List.mem_cons_self) (by decide)
      · rw [List.mem_singleton.1 hp]
        exact own_blk_ne hO4 (hS4.at (List.mem_cons_of_mem _ List.mem_cons_self)) (by decide))
    refine hK.out _ _ (fun _ => hS5) fun hS5 => ?_
    have hS5 := hS5 (by decide)
    clear hK K
    try simp only [Act.put, List.setIfInBounds_toArray, List.set_cons_zero, List.set_cons_succ]
    refine wpAnyL_one (i := 9) (o := ⟨none, Op.store _ _ _, _, _, _, _⟩) (by kernel_rfl) rfl fun K hK => ?_
    have c5 := Lib.cell_of_heap (hS5.at (g := w.heap.size) List.mem_cons_self) 0
    have f5 := Lib.frozen_of_heap (hS5.at (g := w.heap.size) List.mem_cons_self) 0
    go_simp
    refine hK.out _ _ (fun hh => absurd rfl hh) fun _ => ?_
    refine wpAnyL_done (by kernel_rfl) ?_ _
    clear hK K
    have hF6 := hS5.set (Nat.le_refl _) (by intro p hp; rw [List.mem_singleton.1 hp]; show w.heap.size + 1 ≠ w.heap.size; omega) 0 (.slice (some ⟨g5, 0, none⟩) (pre.length + 1) cap5)
    have hO6 := own_set hO5 ⟨w.heap.size, 0, none⟩ (.slice (some ⟨g5, 0, none⟩) (pre.length + 1) cap5) (own_blk_ne hO5 (hS5.at List.mem_cons_self) (by decide))
    have hR6 := (((HRd.out.go hn0 hb3).al hn0 (.cells #[.string (hexS x)] 9 (0, 0))).app hn0 hO4 hG5).set (p := ⟨w.heap.size, 0, none⟩) (Nat.le_refl _) (.slice (some ⟨g5, 0, none⟩) (pre.length + 1) cap5)
    refine ⟨hR6.oth.from _, ⟨hR6.bel, (hF6.at (g := w.heap.size + 1) (List.mem_cons_of_mem _ List.mem_cons_self)).trans HWb.out.symm⟩, some ⟨g5, 0, none⟩, cap5, ?_⟩
    rw [show (pre ++ [(⟨(q, x), hx⟩ : BW)]).length = pre.length + 1 by simp, show prTx (pre ++ [(⟨(q, x), hx⟩ : BW)]) = prTx pre ++ [.string (hexS x)] by simp]
    exact ⟨hF6, hO6⟩
  case done =>
    rintro D ys W hD rfl ⟨B, k, hs⟩ hK
    rw [bwUp_len] at hs
    have hc0 := hs.cell
    obtain ⟨g, hown⟩ : ∃ g, B = some ⟨g, 0, none⟩ := by
      obtain ⟨g, cap, he, _, _⟩ := hs.own.form (by omega)
      injection he with e1
      exact ⟨g, e1⟩
    subst hown
    have hgl : g < W.heap.size := (hs.own.lt g rfl).2
    have hkc : l.length ≤ k := by
      obtain ⟨_, _, he, _, hh, _⟩ := own_sl hs.own
      injection he with _ _ e3
      rw [e3]; exact hh
    have htx : prTx (bwUp l Hw.out l.length) = (l.reverse.map hexS).map Value.string := by
      rw [← bwUp_all l Hw.out]
      simp [prTx]
    have hjoin : Lib.join ((l.reverse.map hexS).map (·.data.toList)) [46] = prtB l := by
      unfold prtB
      congr 1
      simp [hexS]
    have hown := hs.own
    rw [htx] at hown
    have hj : Calls Tryz.prog 20 #[.slice (some ⟨g, 0, none⟩) l.length k, .string ⟨#[46]⟩] W fun e w' => e = .returned (.string ⟨(prtB l).toArray⟩) ∧ Below W.heap.size W w' := by
      have hlen : (l.reverse.map hexS).length = l.length := by simp
      have hcl : ∀ (j : Nat) x, (l.reverse.map hexS)[j]? = some x → W.cell? ⟨g, 0 + j, none⟩ = some (.string x) := fun j x hjx => by
        have hjl : j < l.length := by
          rcases Nat.lt_or_ge j l.length with hh | hh
          · exact hh
          · rw [List.getElem?_eq_none (by rw [hlen]; exact hh)] at hjx; cases hjx
        rw [Nat.zero_add, hown.cellAt j (by omega), List.getElem?_map, hjx]
        rfl
      have hh := Tryz.strings_Join g 0 k (l.reverse.map hexS) ⟨#[46]⟩ W hcl hgl (by omega) (by omega) (by
        show (Lib.join ((l.reverse.map hexS).map (·.data.toList)) [46]).length ≤ _
        rw [hjoin]
        have := prtB_len l
        omega)
      rw [hlen, show Lib.join ((l.reverse.map hexS).map (·.data.toList)) (⟨#[46]⟩ : ByteArray).data.toList = prtB l from hjoin] at hh
      exact hh
    have HB := Lib.hid hs.fr.bel
    have HJ := Lib.hid hj
    clear hj hown htx hjoin hs
    gi_wp2_with (refine ⟨trivial, ?_⟩; gi_at_call 20; refine (callsIn_wide.2 HJ.out).mono ?_; rintro e w5 ⟨rfl, hb5⟩)
    have hK5 := (hb5.block D (heap_lt hK)).trans hK
    refine ⟨by simp, .inl ⟨_, _, rfl, run_takeDeferred hK5, ?_⟩⟩
    refine ⟨.tuple #[.string ⟨(prtB l).toArray⟩, .int .i64 0], by simp [results, Tryz.f6, go_sem], rfl, ?_⟩
    exact (bt HB.out hb5).trans (belowK_b (w := w) (Nat.le_refl _) w5 D _ _ (by rw [Hsz.out] at hD; omega) hK5 rfl rfl)
  case stop =>
    rintro D cc pre W _ _ hh _
    exact hh.elim
end Go.Proofs.YtaogplmcabbikaaGreatDoor
