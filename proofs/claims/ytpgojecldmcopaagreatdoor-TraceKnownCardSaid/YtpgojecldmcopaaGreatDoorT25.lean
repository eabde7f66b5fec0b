/- Traces: Print of a trace of more than 5000 runs, and of one that Check does not accept. No condition. -/
import Derived.Test.YtpgojecldmcopaaGreatDoorT15
namespace Go.Proofs.YtpgojecldmcopaaGreatDoor
open Go.RowKit Go.Shelf
attribute [local go_sem] Oper.semAt_some
def PM (w : World) (ob lb : Nat) (pre : List RnE) (W : World) : Prop := pre.length ≤ 5000 ∧ PI w ob lb pre W
abbrev e3O : Obj := .cells #[.int .i64 3] 25 (0, 0)
/-- a round has left the function -/
def PXm (w : World) (ob : Nat) (c : Code) (_ : List RnE) (W : World) : Prop := c = .ret ∧ ob + 3 ≤ W.heap.size ∧ Fr w [(w.heap.size, s0O), (w.heap.size + 1, e3O)] W
theorem PXm.turn {w W W' : World} {ob : Nat} {c : Code} {pre : List RnE} (h : PXm w ob c pre W) {row : Option Nat} (hg : W.grownBy W' row) (hr : ∀ r, row = some r → w.heap.size + 1 < r) : PXm w ob c pre W' := by
  obtain ⟨h1, h3, hF⟩ := h
  have hs := hF.bel.size
  refine ⟨h1, Nat.le_trans h3 hg.size, hF.grown (hF.bel.grown hg hs fun k hk => by have := hr k hk; omega) hg (fun p hp e => ?_)⟩
  have := hr _ e
  simp only [List.mem_cons, List.not_mem_nil, or_false] at hp
  rcases hp with rfl | rfl <;> simp only at this <;> omega
theorem PXm.of {w W : World} {ob lb k : Nat} (h : Fr w [(lb, lnO k), (w.heap.size, s0O), (w.heap.size + 1, e0O)] W) (hsz : ob + 3 ≤ W.heap.size) (pre : List RnE) :
    PXm w ob .ret pre ((W.setCell ⟨w.heap.size, 0, none⟩ (.string ⟨#[]⟩)).setCell ⟨w.heap.size + 1, 0, none⟩ (.int .i64 3)) := by
  have e0 := h.at (g := w.heap.size) (o := s0O) (by simp)
  have e1 := h.at (g := w.heap.size + 1) (o := e0O) (by simp)
  refine ⟨rfl, by simpa [World.setCell] using hsz, bs (bs h.bel (by simp)) (by simp), ?_⟩
  intro p hp
  simp only [List.mem_cons, List.not_mem_nil, or_false] at hp
  rcases hp with rfl | rfl
  · refine set_blk ?_ _ _ (by simp only; omega)
    rw [set_same (i := 0) e0]; rfl
  · rw [set_same (i := 0) (set_blk e1 _ _ (by simp only; omega))]; rfl
set_option maxRecDepth 100000 in
set_option maxHeartbeats 4000000 in
theorem print_many (w : World) (A : Option Addr) (c : Nat) (l : List Ev) (h : Reads w w.heap.size 2 A l.length (evs l)) (hc : l.length ≤ c) (ho : Ok32 l) (hck : chkT l 65536 = (0, 0)) (hn : 5000 < (runsT l).length) (hP : Pow w) :
    Calls Tryz.prog 8 #[.slice A l.length c] w fun e w' => e = .returned (.tuple #[.string ⟨#[]⟩, .int .i64 3]) ∧ Below w.heap.size w w' := by
  have hok := okR_of hck
  have hch := check_ ((w.alloc s0O).alloc e0O) A c l ((h.al _).al _) ho (by have := hok.1; omega) 65536
  rw [hck] at hch
  have Hch := Lib.hid hch
  have HR := Lib.hid h
  have HP := Lib.hid hP
  have HOk := Lib.hid hok
  have hl8 := hok.1
  clear h ho hck hP hok hch
  refine (callsIn_wide (n := 4)).1 ?_
  refine callsIn_of_wp_marks Tryz.func8 rfl trivial ?_ rfl
  simp only [Tryz.ntmps8, List.size_toArray, List.length_cons, List.length_nil, Nat.reduceAdd, Nat.reduceSub, Array.replicate_succ, Array.replicate_zero, List.push_toArray, List.append_toArray, List.nil_append, List.cons_append]
  gi_wp2_with (first | (refine ⟨trivial, ?_⟩; gi_at_call 13; refine (callsIn_wide.2 Hch.out).mono ?_; rintro e w1 ⟨rfl, hb1⟩) | (refine ⟨trivial, ?_⟩; gi_at_call 20; refine (runs_in _ _ _ _ _).mono ?_; rintro e w' ⟨rfl, rfl⟩))
  have hF1 : Fr w [(w.heap.size, s0O), (w.heap.size + 1, e0O)] w1 := ((((Fr.start w).new s0O).newN (World.size_alloc _ _) e0O).go hb1).sub (by intro p hp; simp at hp ⊢; rcases hp with h | h <;> simp [h])
  have hI1 := bld_newb hF1.bel
  obtain ⟨ob, hobe⟩ : ∃ ob, ob = w1.heap.size := ⟨_, rfl⟩
  have hw1s : w.heap.size + 1 < w1.heap.size := hF1.lt (g := w.heap.size + 1) (o := e0O) (by simp)
  have hF2 := (((hF1.al (.cells #[.pointer none, .slice none 0 0] bT)).newN (g := ob + 1) (by simp [hobe]) (lnO 0)).al (bxE A l.length c))
  have hI2 := (hI1.alloc (lnO 0)).alloc (bxE A l.length c)
  have hbx2 : (((w1.alloc (.cells #[.pointer none, .slice none 0 0] bT)).alloc (lnO 0)).alloc (bxE A l.length c)).heap[ob + 2]? = some (bxE A l.length c) := by rw [hobe]; exact alloc3_new _ _ _ _
  have hsz2 : (((w1.alloc (.cells #[.pointer none, .slice none 0 0] bT)).alloc (lnO 0)).alloc (bxE A l.length c)).heap.size = ob + 3 := by simp [hobe]
  rw [← hobe] at hI2
  have hob1 := hw1s
  rw [← hobe] at hob1
  simp only [← hobe]
  obtain ⟨w2, hw2⟩ : ∃ w2, w2 = (((w1.alloc (.cells #[.pointer none, .slice none 0 0] bT)).alloc (.cells #[.int .i64 0] 3)).alloc (.cells #[.slice A l.length c] 22)) := ⟨_, rfl⟩
  replace hF2 : Fr w [(ob + 1, lnO 0), (w.heap.size, s0O), (w.heap.size + 1, e0O)] w2 := by rw [hw2]; exact hF2
  replace hI2 : Lib.IsBuilderF bT bE w.heap.size ob [] w2 := by rw [hw2]; exact hI2
  replace hbx2 : w2.heap[ob + 2]? = some (bxE A l.length c) := by rw [hw2]; exact hbx2
  replace hsz2 : w2.heap.size = ob + 3 := by rw [hw2]; exact hsz2
  have hI0 : PI w ob (ob + 1) [] w2 := ⟨⟨by omega, _, _, hbx2⟩, hF2, Lib.hid hI2⟩
  rw [← hw2]
  have hR2 : Reads w2 w.heap.size 2 A l.length (evs l) := HR.out.below hF2.bel
  clear hw2 hF1 hI1 hF2 hI2 hobe hw1s hb1 Hch
  clear w1
  refine wpIn_range_rel rfl (by omega) (gf := 41) (lb := #[.pointer (some ⟨ob + 2, 0, none⟩)]) rfl trivial (enters_of Tryz.func41 (by kernel_rfl) rfl)
    (runs_rel l HOk.out A c hc w.heap.size ob (ob + 1) (ob + 2) (by omega) (by omega) (by omega) w2 hbx2 (by omega) hR2 (by omega) (by omega))
    (fun X Y hg => KeepsFrom.of_grownBy hg.1 (fun j hj => by cases hj; omega)) (fun h k => h.trans k) (keepO_b (by omega)) (fun _ => rfl)
    (PM w ob (ob + 1)) (PXm w ob) ?hI ?hIx ?hIr ?hIxr ⟨Nat.zero_le _, hI0⟩
    (fun x W => { tmps := #[Value.slice A l.length c, undef, Value.pointer (some ⟨w.heap.size, 0, none⟩), Value.pointer (some ⟨w.heap.size + 1, 0, none⟩), Value.int .i64 0, Value.int .i64 0, Value.pointer (some ⟨ob, 0, none⟩), Value.pointer (some ⟨ob + 1, 0, none⟩), Value.pointer (some ⟨W.heap.size, 0, none⟩), Value.tuple #[Value.int .i64 0, Value.int .i64 0], Value.slice A l.length c, Value.tuple #[Value.int .i64 0, Value.int .i64 0], Value.int .i64 0, Value.int .i64 0, Value.int .i64 0, Value.bool false, undef, Value.slice A l.length c, Value.func (.func 41) #[] #[Value.pointer (some ⟨ob + 1 + 1, 0, none⟩)], runV x.1.1.1 x.1.1.2 x.1.2, undef, undef, undef, undef, undef, undef, undef, undef, undef, undef, undef, undef, undef, undef, undef, undef, undef, undef, undef, undef, undef, undef, undef, undef], defers := [] }) (fun x W => W.alloc (runO x.1.1.1 x.1.1.2 x.1.2)) (fun pre x a W => ∃ g, a = { tmps := #[Value.slice A l.length c, undef, Value.pointer (some ⟨w.heap.size, 0, none⟩), Value.pointer (some ⟨w.heap.size + 1, 0, none⟩), Value.int .i64 0, Value.int .i64 0, Value.pointer (some ⟨ob, 0, none⟩), Value.pointer (some ⟨ob + 1, 0, none⟩), Value.pointer (some ⟨g, 0, none⟩), Value.tuple #[Value.int .i64 0, Value.int .i64 0], Value.slice A l.length c, Value.tuple #[Value.int .i64 0, Value.int .i64 0], Value.int .i64 0, Value.int .i64 0, Value.int .i64 0, Value.bool false, undef, Value.slice A l.length c, Value.func (.func 41) #[] #[Value.pointer (some ⟨ob + 1 + 1, 0, none⟩)], runV x.1.1.1 x.1.1.2 x.1.2, undef, undef, undef, undef, undef, undef, undef, undef, undef, undef, undef, undef, undef, undef, undef, undef, undef, undef, undef, undef, undef, undef, undef, undef], defers := [] } ∧ ob + 3 ≤ g ∧ PM w ob (ob + 1) pre W ∧ W.heap[g]? = some (runO x.1.1.1 x.1.1.2 x.1.2)) ?hw1 ?hI1 ?hI1o ?assign ?body ?done ?stop
  case hI =>
    intro s X Y row hs hg hr
    exact ⟨hs.1, hs.2.turn hg (fun r e => by
      obtain ⟨h1, o, h2, h3⟩ := hr r e
      exact ⟨by omega, by omega, by omega, fun c fz hh => by rw [h2] at hh; cases hh; cases h3⟩) (bs_kept hs.2.1.2 hg fun e => by have := (hr _ e).1; omega)⟩
  case hIx =>
    intro c pre X Y row hs hg hr
    exact PXm.turn hs hg (fun r e => by have := (hr r e).1; omega)
  case hIr =>
    intro s X Y hs hg
    exact ⟨hs.1, hs.2.turn hg.1 (fun r e => by
      cases e
      obtain ⟨c, fz, hx⟩ := hs.2.1.2
      exact ⟨by omega, by omega, by omega, fun c' fz' hh => by rw [hx] at hh; injection hh with hh; injection hh with _ hh _; exact absurd hh (by decide)⟩) hg.2⟩
  case hIxr =>
    intro c pre X Y hs hg
    exact PXm.turn hs hg.1 (fun r e => by cases e; omega)
  case hw1 =>
    intro pre x W hs
    have hn := hs.2.2.1.bel.size
    exact ⟨(KeepsOthers.alloc _ _).from _, ((Rw.refl W).al hn _).kp⟩
  case hI1 =>
    intro pre x W hs
    exact ⟨W.heap.size, rfl, hs.2.1.1, ⟨hs.1, hs.2.turn (World.grownBy_alloc W _ none) (fun r e => by cases e) (bs_kept hs.2.1.2 (World.grownBy_alloc W _ none) (by simp))⟩, alloc1_new _ _⟩
  case hI1o =>
    rintro x act pre X Y row ⟨g, rfl, h1, hs, h2⟩ hg hr
    refine ⟨g, rfl, h1, ⟨hs.1, hs.2.turn hg (fun r e => ?_) (bs_kept hs.2.1.2 hg fun e => by have := (hr _ e).1; omega)⟩, (hg.block g (heap_lt h2) fun e => ?_).trans h2⟩
    · obtain ⟨k1, o, k2, k3⟩ := hr r e
      exact ⟨by omega, by omega, by omega, fun c fz hh => by rw [k2] at hh; cases hh; cases k3⟩
    · obtain ⟨k1, o, k2, k3⟩ := hr g e.symm
      rw [h2] at k2; cases k2; cases k3
  case assign =>
    intro L x W K hK
    gi_wp2
    exact hK
  case body =>
    rintro L pre ⟨⟨⟨K, a⟩, m⟩, hx1, hx2, hx3⟩ act W ⟨g, rfl, hg3, ⟨h50, ⟨hWs, hBs⟩, hF, hBl⟩, hgr⟩ hlt
    simp only at hx1 hx2 hx3 hgr
    obtain ⟨hx2, hx2'⟩ := hx2
    have hc0 := Lib.cell_of_heap (hF.at (g := ob + 1) (o := lnO pre.length) List.mem_cons_self) 0
    have hf0 := Lib.frozen_of_heap (hF.at (g := ob + 1) (o := lnO pre.length) List.mem_cons_self) 0
    have hF1 : Fr w [(ob + 1, lnO (pre.length + 1)), (w.heap.size, s0O), (w.heap.size + 1, e0O)] (W.setCell ⟨ob + 1, 0, none⟩ (.int .i64 ((pre.length : Int) + 1))) := by
      have := Fr.set hF (by omega) (by intro p hp; simp only [List.mem_cons, List.not_mem_nil, or_false] at hp; rcases hp with rfl | rfl <;> simp only <;> omega) 0 (.int .i64 ((pre.length : Int) + 1))
      rw [show lnO (pre.length + 1) = Obj.cells #[Value.int .i64 ((pre.length : Int) + 1)] 3 (0, 0) by show Obj.cells #[Value.int .i64 ((pre.length + 1 : Nat) : Int)] _ _ = _; rw [Int.natCast_add]; rfl]
      simpa using this
    have hgr1 : (W.setCell ⟨ob + 1, 0, none⟩ (.int .i64 ((pre.length : Int) + 1))).heap[g]? = some (runO K a m) := set_blk hgr _ _ (by simp only; omega)
    have hBl1 : Bl w (W.setCell ⟨ob + 1, 0, none⟩ (.int .i64 ((pre.length : Int) + 1))) ob (prTx (pre.map (·.1))) := bld_grown hBl.out (grown_set W (ob + 1) 0 _) (by intro e; injection e with e; omega) (by
      intro q c fz e hq; injection e with e; subst e; rw [hF.at (g := ob + 1) (o := lnO pre.length) List.mem_cons_self] at hq; injection hq with hq; injection hq with _ hq _; exact absurd hq (by decide))
    have hRw1 : Rw w.heap.size ob (ob + 1) W (W.setCell ⟨ob + 1, 0, none⟩ (.int .i64 ((pre.length : Int) + 1))) := (Rw.refl W).set (by omega) 0 _
    have hsz1 : ob + 3 ≤ (W.setCell ⟨ob + 1, 0, none⟩ (.int .i64 ((pre.length : Int) + 1))).heap.size := by simpa [World.setCell] using hWs
    have i1 : IntKind.i64.wrap ((pre.length : Int) + 1) = (pre.length : Int) + 1 := IntWalk.i64_in _ (by omega)
    by_cases h5 : pre.length < 5000
    case neg =>
      have n1 : 5000 < (pre.length : Int) + 1 := by omega
      have hc1 := Lib.cell_of_heap (hF1.at (g := ob + 1) (o := lnO (pre.length + 1)) List.mem_cons_self) 0
      have e0 := hF1.at (g := w.heap.size) (o := s0O) (by simp)
      have e1 := hF1.at (g := w.heap.size + 1) (o := e0O) (by simp)
      have q0 : (W.setCell ⟨ob + 1, 0, none⟩ (.int .i64 ((pre.length : Int) + 1))).frozen? ⟨w.heap.size, 0, none⟩ = false := Lib.frozen_of_heap e0 0
      have q1 : (W.setCell ⟨ob + 1, 0, none⟩ (.int .i64 ((pre.length : Int) + 1))).frozen? ⟨w.heap.size + 1, 0, none⟩ = false := Lib.frozen_of_heap e1 0
      have p0 : (W.setCell ⟨ob + 1, 0, none⟩ (.int .i64 ((pre.length : Int) + 1))).cell? ⟨w.heap.size, 0, none⟩ = some (.string ⟨#[]⟩) := Lib.cell_of_heap e0 0
      have p1 : (W.setCell ⟨ob + 1, 0, none⟩ (.int .i64 ((pre.length : Int) + 1))).cell? ⟨w.heap.size + 1, 0, none⟩ = some (.int .i64 0) := Lib.cell_of_heap e1 0
      have hT := PXm.of hF1 hsz1
      have hk : KeepsOthers W (((W.setCell ⟨ob + 1, 0, none⟩ (.int .i64 ((pre.length : Int) + 1))).setCell ⟨w.heap.size, 0, none⟩ (.string ⟨#[]⟩)).setCell ⟨w.heap.size + 1, 0, none⟩ (.int .i64 3)) := ((KeepsOthers.setCell _ _ _).trans (KeepsOthers.setCell _ _ _)).trans (KeepsOthers.setCell _ _ _)
      have HT := Lib.hid (And.intro hk (hT (pre ++ [⟨((K, a), m), hx1, ⟨hx2, hx2'⟩, hx3⟩])))
      clear hF hBl hgr hF1 hgr1 hBl1 hRw1 hsz1 hT hk e0 e1
      gi_wp2
      generalize W.setCell ⟨ob + 1, 0, none⟩ (.int .i64 ((pre.length : Int) + 1)) = Wa at *
      gi_wp2
      exact ⟨HT.out.1.from _, HT.out.2⟩
    case pos =>
    have n1 : ¬ (5000 < (pre.length : Int) + 1) := by omega
    have hc1 := Lib.cell_of_heap (hF1.at (g := ob + 1) (o := lnO (pre.length + 1)) List.mem_cons_self) 0
    have HF1 := Lib.hid hF1
    have Hgr1 := Lib.hid hgr1
    have HBl1 := Lib.hid hBl1
    have HRw1 := Lib.hid hRw1
    have Hsz1 := Lib.hid hsz1
    have Hx1 := Lib.hid hx1
    clear hF hBl hgr hF1 hgr1 hBl1 hRw1 hsz1
    gi_wp2
    generalize W.setCell ⟨ob + 1, 0, none⟩ (.int .i64 ((pre.length : Int) + 1)) = Wa at *
    have hS0 : Fr w [(g, runO K a m), (ob + 1, lnO (pre.length + 1)), (w.heap.size, s0O), (w.heap.size + 1, e0O)] Wa.drew := (HF1.out.cons Hgr1.out).drew
    refine region_round (by kernel_rfl) (by kernel_rfl) (fun ⟨_, _, hh⟩ => hh) (wpAny_of_held (S := Fr w [(g, runO K a m), (ob + 1, lnO (pre.length + 1)), (w.heap.size, s0O), (w.heap.size + 1, e0O)]) _ _ _ _ ?_)
    obtain ⟨d1, hd1⟩ : ∃ d, d = Dg a := ⟨_, rfl⟩
    obtain ⟨d2, hd2⟩ : ∃ d, d = Dg (m : Int) := ⟨_, rfl⟩
    obtain ⟨kw, hkw⟩ : ∃ k, k = kwd K := ⟨_, rfl⟩
    have s1 : d1.size ≤ 21 := hd1 ▸ Dg_size a (by omega) (by omega)
    have s2 : d2.size ≤ 21 := hd2 ▸ Dg_size (m : Int) (by omega) (by omega)
    have s3 : kw.size ≤ 5 := hkw ▸ kwd_size K
    have j1 : ¬ (9223372036854775807 < kw.size + 1) := by omega
    have j2 : ¬ (9223372036854775807 < kw.size + 1 + d1.size) := by omega
    have j3 : ¬ (9223372036854775807 < kw.size + 1 + d1.size + 1) := by omega
    have j4 : ¬ (9223372036854775807 < kw.size + 1 + d1.size + 1 + d2.size) := by omega
    have j5 : ¬ (9223372036854775807 < kw.size + 1 + d1.size + 1 + d2.size + 1) := by omega
    have hix := ix3 K Hx1.out
    rw [← hkw] at hix
    have Hd1 := Lib.hid hd1
    have Hd2 := Lib.hid hd2
    have Hkw := Lib.hid hkw
    have ha64 : IntKind.i64.wrap a = a := IntWalk.i64_in _ (by omega)
    clear hd1 hd2 hkw i1 n1 hc1 hc0 hf0
    have hBlA : Bl w Wa.drew ob (prTx (pre.map (·.1))) := HBl1.out.below (drewN_below Wa 1)
    have hRwA := HRw1.out.drew
    have hn0 := hS0.bel.size
    refine wpAnyH_take (i := 1) (oi := ⟨some 25, Op.fieldAddr _ _ _, _, _, _, _⟩) (v := ?_) rfl (by kernel_rfl) (by kernel_rfl) (by kernel_rfl) (fun _ _ _ h => h) (Or.inl ⟨by rfl, ?_⟩) hS0 ?_
    rotate_left
    · intro wz hz
      go_simp
      with_reducible rfl
    try simp only [Act.put, List.setIfInBounds_toArray, List.set_cons_zero, List.set_cons_succ]
    refine wpAnyH_take (i := 2) (oi := ⟨some 26, Op.fieldAddr _ _ _, _, _, _, _⟩) (v := ?_) rfl (by kernel_rfl) (by kernel_rfl) (by kernel_rfl) (fun _ _ _ h => h) (Or.inl ⟨by rfl, ?_⟩) hS0 ?_
    rotate_left
    · intro wz hz
      go_simp
      with_reducible rfl
    try simp only [Act.put, List.setIfInBounds_toArray, List.set_cons_zero, List.set_cons_succ]
    refine wpAnyH_take (i := 3) (oi := ⟨some 27, Op.load _ _, _, _, _, _⟩) (v := ?_) rfl (by kernel_rfl) (by kernel_rfl) (by kernel_rfl) (fun _ _ _ h => h) (Or.inl ⟨by rfl, ?_⟩) hS0 ?_
    rotate_left
    · intro wz hz
      have z0 := Lib.cell_of_heap (hz.at (g := g) (o := runO K a m) (by simp)) 0
      go_simp
      with_reducible rfl
    try simp only [Act.put, List.setIfInBounds_toArray, List.set_cons_zero, List.set_cons_succ]
    refine wpAnyH_take (i := 6) (oi := ⟨some 30, Op.fieldAddr _ _ _, _, _, _, _⟩) (v := ?_) rfl (by kernel_rfl) (by kernel_rfl) (by kernel_rfl) (fun _ _ _ h => h) (Or.inl ⟨by rfl, ?_⟩) hS0 ?_
    rotate_left
    · intro wz hz
      go_simp
      with_reducible rfl
    try simp only [Act.put, List.setIfInBounds_toArray, List.set_cons_zero, List.set_cons_succ]
    refine wpAnyH_take (i := 7) (oi := ⟨some 31, Op.fieldAddr _ _ _, _, _, _, _⟩) (v := ?_) rfl (by kernel_rfl) (by kernel_rfl) (by kernel_rfl) (fun _ _ _ h => h) (Or.inl ⟨by rfl, ?_⟩) hS0 ?_
    rotate_left
    · intro wz hz
      go_simp
      with_reducible rfl
    try simp only [Act.put, List.setIfInBounds_toArray, List.set_cons_zero, List.set_cons_succ]
    refine wpAnyH_take (i := 8) (oi := ⟨some 32, Op.load _ _, _, _, _, _⟩) (v := ?_) rfl (by kernel_rfl) (by kernel_rfl) (by kernel_rfl) (fun _ _ _ h => h) (Or.inl ⟨by rfl, ?_⟩) hS0 ?_
    rotate_left
    · intro wz hz
      have z1 := Lib.cell_of_heap (hz.at (g := g) (o := runO K a m) (by simp)) 1
      go_simp
      with_reducible rfl
    try simp only [Act.put, List.setIfInBounds_toArray, List.set_cons_zero, List.set_cons_succ]
    refine wpAnyH_take (i := 9) (oi := ⟨some 33, Op.convert _ _ _, _, _, _, _⟩) (v := ?_) rfl (by kernel_rfl) (by kernel_rfl) (by kernel_rfl) (fun _ _ _ h => h) (Or.inl ⟨by rfl, ?_⟩) hS0 ?_
    rotate_left
    · intro wz hz
      go_simp
      with_reducible rfl
    try simp only [Act.put, List.setIfInBounds_toArray, List.set_cons_zero, List.set_cons_succ]
    refine wpAnyH_take (i := 13) (oi := ⟨some 37, Op.fieldAddr _ _ _, _, _, _, _⟩) (v := ?_) rfl (by kernel_rfl) (by kernel_rfl) (by kernel_rfl) (fun _ _ _ h => h) (Or.inl ⟨by rfl, ?_⟩) hS0 ?_
    rotate_left
    · intro wz hz
      go_simp
      with_reducible rfl
    try simp only [Act.put, List.setIfInBounds_toArray, List.set_cons_zero, List.set_cons_succ]
    refine wpAnyH_take (i := 14) (oi := ⟨some 38, Op.load _ _, _, _, _, _⟩) (v := ?_) rfl (by kernel_rfl) (by kernel_rfl) (by kernel_rfl) (fun _ _ _ h => h) (Or.inl ⟨by rfl, ?_⟩) hS0 ?_
    rotate_left
    · intro wz hz
      have z2 := Lib.cell_of_heap (hz.at (g := g) (o := runO K a m) (by simp)) 2
      go_simp
      with_reducible rfl
    try simp only [Act.put, List.setIfInBounds_toArray, List.set_cons_zero, List.set_cons_succ]
    refine wpAnyH_all (rs := [0]) (by kernel_rfl) (by simp) (fun j hj => ?_)
    obtain rfl := List.mem_singleton.1 hj
    refine wpOp_step (o := ⟨some 24, Op.call _, _, _, _, _⟩) rfl fun K' hK0 => ?_
    have hK := Lib.hid hK0
    clear hK0
    go_simp
    (with_reducible refine (kinds_ _).mono ?_)
    rintro e w5 ⟨rfl, hb⟩
    have hS1 := hS0.go hb
    have hBl1 := hBlA.below hb
    have hRw1 := hRwA.go hS0.bel.size hb
    refine hK.out _ _ ⟨hS1, ?_⟩
    clear hb
    clear hK K'
    try simp only [Act.put, List.setIfInBounds_toArray, List.set_cons_zero, List.set_cons_succ]
    refine wpAnyH_take (i := 4) (oi := ⟨some 28, Op.index _ _ _, _, _, _, _⟩) (v := ?_) rfl (by kernel_rfl) (by kernel_rfl) (by kernel_rfl) (fun _ _ _ h => h) (Or.inl ⟨by rfl, ?_⟩) hS1 ?_
    rotate_left
    · intro wz hz
      go_simp
      with_reducible rfl
    try simp only [Act.put, List.setIfInBounds_toArray, List.set_cons_zero, List.set_cons_succ]
    refine wpAnyH_take (i := 5) (oi := ⟨some 29, Op.binOp _ _ _ _ _, _, _, _, _⟩) (v := ?_) rfl (by kernel_rfl) (by kernel_rfl) (by kernel_rfl) (fun _ _ _ h => h) (Or.inl ⟨by rfl, ?_⟩) hS1 ?_
    rotate_left
    · intro wz hz
      go_simp
      with_reducible rfl
    try simp only [Act.put, List.setIfInBounds_toArray, List.set_cons_zero, List.set_cons_succ]
    refine wpAnyH_all (rs := [10]) (by kernel_rfl) (by simp) (fun j hj => ?_)
    obtain rfl := List.mem_singleton.1 hj
    refine wpOp_step (o := ⟨some 34, Op.call _, _, _, _, _⟩) rfl fun K' hK0 => ?_
    have hK := Lib.hid hK0
    clear hK0
    go_simp
    (with_reducible refine (digits_ a d1 Hd1 (by omega) (by omega) _ (HP.out.below hS1.bel)).mono ?_)
    rintro e w6 ⟨rfl, hb⟩
    have hS2 := hS1.go hb
    have hBl2 := hBl1.below hb
    have hRw2 := hRw1.go hS1.bel.size hb
    refine hK.out _ _ ⟨hS2, ?_⟩
    clear hb
    clear hK K'
    try simp only [Act.put, List.setIfInBounds_toArray, List.set_cons_zero, List.set_cons_succ]
    refine wpAnyH_take (i := 11) (oi := ⟨some 35, Op.binOp _ _ _ _ _, _, _, _, _⟩) (v := ?_) rfl (by kernel_rfl) (by kernel_rfl) (by kernel_rfl) (fun _ _ _ h => h) (Or.inl ⟨by rfl, ?_⟩) hS2 ?_
    rotate_left
    · intro wz hz
      go_simp
      with_reducible rfl
    try simp only [Act.put, List.setIfInBounds_toArray, List.set_cons_zero, List.set_cons_succ]
    refine wpAnyH_take (i := 12) (oi := ⟨some 36, Op.binOp _ _ _ _ _, _, _, _, _⟩) (v := ?_) rfl (by kernel_rfl) (by kernel_rfl) (by kernel_rfl) (fun _ _ _ h => h) (Or.inl ⟨by rfl, ?_⟩) hS2 ?_
    rotate_left
    · intro wz hz
      go_simp
      with_reducible rfl
    try simp only [Act.put, List.setIfInBounds_toArray, List.set_cons_zero, List.set_cons_succ]
    refine wpAnyH_all (rs := [15]) (by kernel_rfl) (by simp) (fun j hj => ?_)
    obtain rfl := List.mem_singleton.1 hj
    refine wpOp_step (o := ⟨some 39, Op.call _, _, _, _, _⟩) rfl fun K' hK0 => ?_
    have hK := Lib.hid hK0
    clear hK0
    go_simp
    (with_reducible refine (digits_ (m : Int) d2 Hd2 (by omega) (by omega) _ (HP.out.below hS2.bel)).mono ?_)
    rintro e w7 ⟨rfl, hb⟩
    have hS3 := hS2.go hb
    have hBl3 := hBl2.below hb
    have hRw3 := hRw2.go hS2.bel.size hb
    refine hK.out _ _ ⟨hS3, ?_⟩
    clear hb
    clear hK K'
    try simp only [Act.put, List.setIfInBounds_toArray, List.set_cons_zero, List.set_cons_succ]
    refine wpAnyH_take (i := 16) (oi := ⟨some 40, Op.binOp _ _ _ _ _, _, _, _, _⟩) (v := ?_) rfl (by kernel_rfl) (by kernel_rfl) (by kernel_rfl) (fun _ _ _ h => h) (Or.inl ⟨by rfl, ?_⟩) hS3 ?_
    rotate_left
    · intro wz hz
      go_simp
      with_reducible rfl
    try simp only [Act.put, List.setIfInBounds_toArray, List.set_cons_zero, List.set_cons_succ]
    refine wpAnyH_take (i := 17) (oi := ⟨some 41, Op.binOp _ _ _ _ _, _, _, _, _⟩) (v := ?_) rfl (by kernel_rfl) (by kernel_rfl) (by kernel_rfl) (fun _ _ _ h => h) (Or.inl ⟨by rfl, ?_⟩) hS3 ?_
    rotate_left
    · intro wz hz
      go_simp
      with_reducible rfl
    try simp only [Act.put, List.setIfInBounds_toArray, List.set_cons_zero, List.set_cons_succ]
    have HT := Lib.hid (show kw ++ (⟨#[32]⟩ : ByteArray) ++ d1 ++ (⟨#[32]⟩ : ByteArray) ++ d2 ++ (⟨#[10]⟩ : ByteArray) = rnB ((K, a), m) by rw [Hkw.out, Hd1.out, Hd2.out]; rfl)
    have hrs := rnB_size ⟨((K, a), m), hx1, ⟨hx2, hx2'⟩, hx3⟩
    have hpl := prTx_len pre
    have Hbw := Lib.hid (bl_write2 w w7 ob (prTx (pre.map (·.1))) (rnB ((K, a), m)) hBl3 hS3.bel (by simp only at hrs; omega))
    rw [HT.out]
    generalize rnB ((K, a), m) = RB at *
    refine wpAnyH_all (rs := [18]) (by kernel_rfl) (by simp) (fun j hj => ?_)
    obtain rfl := List.mem_singleton.1 hj
    refine wpOp_step (o := ⟨some 42, Op.call _, _, _, _, _⟩) rfl fun K' hK0 => ?_
    have hK := Lib.hid hK0
    clear hK0
    go_simp
    (with_reducible refine (Hbw.out).mono ?_)
    rintro e w8 ⟨rfl, hI8, hB8, hO8⟩
    obtain ⟨cb, hcb⟩ := bld_blk hBl3
    have hRw4 := hRw3.put hB8 hO8 hcb
    have hS4 : Fr w [(g, runO K a m), (ob + 1, lnO (pre.length + 1)), (w.heap.size, s0O), (w.heap.size + 1, e0O)] w8 := by
      refine ⟨hS3.bel.trans hB8, fun p hp => ?_⟩
      simp only [List.mem_cons, List.not_mem_nil, or_false] at hp
      rcases hp with rfl | rfl | rfl | rfl
      · exact others_blk hO8 (hS3.at (g := g) (o := runO K a m) (by simp)) (by omega) (by decide)
      · exact others_blk hO8 (hS3.at (g := ob + 1) (o := lnO (pre.length + 1)) (by simp)) (by omega) (by decide)
      · exact others_blk hO8 (hS3.at (g := w.heap.size) (o := s0O) (by simp)) (by omega) (by decide)
      · exact others_blk hO8 (hS3.at (g := w.heap.size + 1) (o := e0O) (by simp)) (by omega) (by decide)
    refine hK.out _ _ ⟨hS4, ?_⟩
    clear hK K'
    refine wpAnyH_done (by kernel_rfl) ?_ _
    obtain ⟨cB, fB, hcB⟩ := hBs
    have hRBe : RB.data.toList = rnTx ((K, a), m) := by rw [← HT.out, Hkw.out, Hd1.out, Hd2.out]; rfl
    refine ⟨hRw4.oth.from _, hRw4.kp, by simp; omega, ⟨Nat.le_trans hWs hRw4.kp.1.size, cB, fB, hRw4.kp.at hcB (by omega) (by omega) (by decide)⟩, ?_, ?_⟩
    · rw [List.length_append]
      exact hS4.sub (fun p hp => List.mem_cons_of_mem _ hp)
    · refine Lib.hid ?_
      rw [List.map_append, prTx_snoc', ← hRBe]
      exact hI8
  case done =>
    rintro D ys W hD hys ⟨h50, _⟩ _
    exfalso
    have := congrArg List.length hys
    rw [List.length_map] at this
    omega
  case stop =>
    rintro D c pre W hD _ ⟨rfl, hsz, hF⟩ hK
    have e0 := hF.at (g := w.heap.size) (o := s0O) (by simp)
    have e1 := hF.at (g := w.heap.size + 1) (o := e3O) (by simp)
    have p0 : (W.putObj D (.deferred none)).cell? ⟨w.heap.size, 0, none⟩ = some (.string ⟨#[]⟩) := Lib.cell_of_heap ((World.putObj_heap_other (by omega)).trans e0) 0
    have p1 : (W.putObj D (.deferred none)).cell? ⟨w.heap.size + 1, 0, none⟩ = some (.int .i64 3) := Lib.cell_of_heap ((World.putObj_heap_other (by omega)).trans e1) 0
    have hBf : Below w.heap.size w (W.putObj D (.deferred none)) := hF.bel.trans (belowK_b (w := w) (Nat.le_refl _) W D _ _ (by omega) hK rfl rfl)
    gi_wp2
    refine ⟨by simp, .inl ⟨_, _, rfl, run_takeDeferred hK, ?_⟩⟩
    exact ⟨.tuple #[.string ⟨#[]⟩, .int .i64 3], by simp [results, Tryz.f8, go_sem, p0, p1], rfl, hBf⟩
end Go.Proofs.YtpgojecldmcopaaGreatDoor
