/- Traces' texts: the program reads a line. No condition. -/
import Derived.Test.YtpgojecldmcopaaGreatDoorT21
import Derived.Test.YtpgojecldmcopaaGreatDoorN9
namespace Go.Proofs.YtpgojecldmcopaaGreatDoor
open Go.RowKit
theorem tInt (x : ByteArray) (n e0 : Int) (w : World) (hR : ER w) (hs : x.size ≤ 1099511627776) (h : Hid (intR x.data.toList 0 1000000000 = (n, e0))) :
    Calls Tryz.prog 52 #[.string x, .int .i64 0, .int .i64 1000000000] w fun e w' => e = .returned (.tuple #[.int .i64 n, .int .i64 e0]) ∧ Below w.heap.size w w' := by
  have := int_ x 0 1000000000 w hs hR
  rw [h.out] at this
  exact this
def RetRn (w : World) (q : Rn × Int) (e : Ending) (w' : World) : Prop := e = .returned (.tuple #[runV q.1.1.1 q.1.1.2 q.1.2, .int .i64 q.2]) ∧ Below w.heap.size w w'
theorem RetRn.no {w w' : World} {q : Rn × Int} {er : Int} (hq : q = (Rn0, er)) (hb : Below w.heap.size w w') : RetRn w q (.returned (.tuple #[.agg #[.int .i32 0, .int .i32 0, .int .i64 0], .int .i64 er])) w' := by
  subst hq; exact ⟨rfl, hb⟩
theorem RetRn.yes {w w' : World} {q : Rn × Int} {K a m : Int} (hm : 0 ≤ m) (hq : q = (((K, a), m.toNat), 0)) (hb : Below w.heap.size w w') : RetRn w q (.returned (.tuple #[.agg #[.int .i32 K, .int .i32 a, .int .i64 m], .int .i64 0])) w' := by
  subst hq
  refine ⟨?_, hb⟩
  simp only [runV]
  rw [Int.toNat_of_nonneg hm]
theorem rnL_of_pts {x : ByteArray} {L : List ByteArray} (h : ptsB 32 x = L) : rnL x.data.toList = rnP (L.map dat) := by
  unfold rnL
  rw [← h, ptsB_dat]
theorem rnP_len {P : List (List UInt8)} (h : P.length ≠ 3) : rnP P = (Rn0, 6) := by
  unfold rnP
  split
  · simp at h
  · rfl
theorem rnP_three (a b c : List UInt8) : rnP [a, b, c] = if kindL a = 0 then (Rn0, 6) else runP b c (kindL a) := rfl
theorem three_of {α : Type} {l : List α} (h : l.length = 3) : ∃ a b c, l = [a, b, c] := by
  match l with
  | [a, b, c] => exact ⟨a, b, c, rfl⟩
  | [] => simp at h
  | [_] => simp at h
  | [_, _] => simp at h
  | _ :: _ :: _ :: _ :: _ => simp at h
theorem three_cells {w : World} {B : Nat} {A : Option Addr} {a b c : ByteArray} (h : Reads w B 1 A 3 (Ssb [a, b, c])) :
    ∃ bk off, A = some ⟨bk, off, none⟩ ∧ bk < B ∧ (w.cell? ⟨bk, off, none⟩ = some (.string a) ∧ w.cell? ⟨bk, off + 1, none⟩ = some (.string b) ∧ w.cell? ⟨bk, off + 2, none⟩ = some (.string c)) := by
  obtain ⟨bk, off, e1, hb, hc⟩ := h.2 (by omega)
  exact ⟨bk, off, e1, hb, hc 0 _ rfl, hc 1 _ rfl, hc 2 _ rfl⟩
abbrev rnO0 : Obj := .cells #[.int .i32 0, .int .i32 0, .int .i64 0] 56 (0, 0)
abbrev kdO : Obj := .cells #[.string ⟨#[]⟩, .string ⟨#[108, 111, 97, 100]⟩, .string ⟨#[115, 116, 111, 114, 101]⟩] 61 (0, 0)
theorem runP_form {b c : List UInt8} {K n m e0 e1 : Int} (hb : intR b 0 1000000000 = (n, e0)) (hc : intR c 0 1000000000 = (m, e1)) (h : e0 ≠ 0 ∨ e1 ≠ 0) : runP b c K = (Rn0, 6) := by
  unfold runP; rw [hb, hc]; simp only; rw [if_pos h]
theorem runP_range {b c : List UInt8} {K n m : Int} (hb : intR b 0 1000000000 = (n, 0)) (hc : intR c 0 1000000000 = (m, 0)) (h : m < 1 ∨ 65536 < n + m) : runP b c K = (Rn0, 7) := by
  unfold runP; rw [hb, hc]; simp only; rw [if_neg (by simp), if_pos h]
theorem runP_ok {b c : List UInt8} {K n m : Int} (hb : intR b 0 1000000000 = (n, 0)) (hc : intR c 0 1000000000 = (m, 0)) (h : ¬ (m < 1 ∨ 65536 < n + m)) : runP b c K = (((K, n), m.toNat), 0) := by
  unfold runP; rw [hb, hc]; simp only; rw [if_neg (by simp), if_neg h]
theorem sl_arr (g : Nat) (W : World) : (Instr.sliceAt 61 (.pointer (some ⟨g, 0, none⟩)) none none none).run Tryz.prog W = .ok (.slice (some ⟨g, 0, none⟩) 3 3) W := by kernel_rfl
set_option maxRecDepth 100000 in
set_option maxHeartbeats 4000000 in
theorem line_ (x : ByteArray) (w : World) (hM : ML w) (hR : ER w) (hx : x.size ≤ 1000000) :
    Calls Tryz.prog 32 #[.string x] w (RetRn w (rnL x.data.toList)) := by
  obtain ⟨L, hL⟩ : ∃ L, ptsB 32 x = L := ⟨_, rfl⟩
  have hq := rnL_of_pts hL
  have HF0 := Lib.hid ((Fr.start w).newN rfl rnO0)
  have hLz : ∀ y ∈ L, y.size ≤ 1000000 := by rw [← hL]; intro y hy; have := ptsB_sz hy; omega
  have hL0 : 0 < L.length := by rw [← hL, ptsB_len, pts_len]; omega
  have HL := Lib.hid hL
  clear hL
  by_cases h3 : L.length = 3
  case neg =>
    have Hq := Lib.hid (hq.trans (rnP_len (by rw [List.length_map]; exact h3)))
    have e3 : ((L.length : Int) != 3) = true := by rw [bne_iff_ne]; omega
    have i0 : (0 : Int) < (L.length : Int) := by omega
    clear hq h3
    go_enter Tryz.func32, Tryz.ntmps32
    go_wp2_with fail
    (with_reducible refine (splitP 32 _ (Lib.hid rfl) x _ (hM.below HF0.out.bel) hx HL).mono ?_); rintro e w1 ⟨⟨A1, rfl, hr1⟩, hb1⟩
    have HF1 := Lib.hid (HF0.out.go hb1)
    obtain ⟨bk, off, rfl, hbk, d0⟩ := sbAt hr1 rfl hL0
    rw [Nat.add_zero] at d0
    clear hb1 hr1
    go_wp2_with fail
    (with_reducible refine (kinds_ _).mono ?_); rintro e w2 ⟨rfl, hb2⟩
    have HF2 := Lib.hid ((HF1.out.go hb2).new kdO)
    have d0' := (hb2.cell (p := ⟨bk, off, none⟩) hbk).trans d0
    have hbk2 : bk < w2.heap.size := Nat.lt_of_lt_of_le hbk hb2.size
    have hg := alloc1_new w2 kdO
    have sa := sl_arr w2.heap.size
    clear d0 hb2 HF1
    generalize L[0] = y at *
    have Hix := Lib.hid (fun (W : World) (hW : W.heap[w2.heap.size]? = some kdO) => indexK y W w2.heap.size hW (Lib.hid rfl))
    generalize idxK y.data.toList = ix at *
    have Hg := Lib.hid hg
    clear hg
    go_wp2_with fail
    go_quiet ((go_at_call 51; exact Calls.quiet_of_same (Hix.out _ (by exact Hg.out))))
    have hO := HF2.out.at (g := w.heap.size) (o := rnO0) (by simp)
    obtain ⟨o0, o1, o2⟩ : _ ∧ _ ∧ _ := ⟨Lib.cell_of_heap hO 0, Lib.cell_of_heap hO 1, Lib.cell_of_heap hO 2⟩
    obtain ⟨f0, f1, f2⟩ : _ ∧ _ ∧ _ := ⟨Lib.frozen_of_heap hO 0, Lib.frozen_of_heap hO 1, Lib.frozen_of_heap hO 2⟩
    have hlt := heap_lt hO
    have hB := HF2.out.bel
    clear hO
    go_wp2
    refine bodyPost_ret (v := .tuple #[.agg #[.int .i32 0, .int .i32 0, .int .i64 0], .int .i64 6]) (by simp [results, go_sem, o0, o1, o2]) rfl (RetRn.no Hq.out ?_)
    repeat' (first | with_reducible exact hB | with_reducible refine bd ?_ _ | with_reducible refine Below.drew ?_ | with_reducible refine bs ?_ ?_ | (simp only; omega))
  case pos =>
  obtain ⟨a, b, c, rfl⟩ := three_of h3
  have hza := hLz a (by simp)
  have hzb := hLz b (by simp)
  have hzc := hLz c (by simp)
  rw [List.map_cons, List.map_cons, List.map_cons, List.map_nil, rnP_three] at hq
  have Hqq := Lib.hid hq
  clear hL0 hLz h3 hq
  go_enter Tryz.func32, Tryz.ntmps32
  go_wp2_with fail
  (with_reducible refine (splitP 32 _ (Lib.hid rfl) x _ (hM.below HF0.out.bel) hx HL).mono ?_); rintro e w1 ⟨⟨A1, rfl, hr1⟩, hb1⟩
  have HF1 := Lib.hid (HF0.out.go hb1)
  obtain ⟨bk, off, rfl, hbk, d0, d1, d2⟩ := three_cells hr1
  clear hb1 hr1
  go_wp2_with fail
  (with_reducible refine (kinds_ _).mono ?_); rintro e w2 ⟨rfl, hb2⟩
  have hF2 := ((HF1.out.go hb2).new kdO)
  obtain ⟨c0, c1, c2⟩ : _ ∧ _ ∧ _ := ⟨(hb2.cell (p := ⟨bk, off, none⟩) hbk).trans d0, (hb2.cell (p := ⟨bk, off + 1, none⟩) hbk).trans d1, (hb2.cell (p := ⟨bk, off + 2, none⟩) hbk).trans d2⟩
  have hbk2 : bk < w2.heap.size := Nat.lt_of_lt_of_le hbk hb2.size
  obtain ⟨W, hW⟩ : ∃ W, W = w2.alloc (.cells #[.string ⟨#[]⟩, .string ⟨#[108, 111, 97, 100]⟩, .string ⟨#[115, 116, 111, 114, 101]⟩] 61) := ⟨_, rfl⟩
  have hFW : Fr w [(w2.heap.size, kdO), (w.heap.size, rnO0)] W := by rw [hW]; exact hF2
  have hbkW : bk < W.heap.size := by rw [hW]; simp; omega
  obtain ⟨k0, k1, k2⟩ : W.cell? ⟨bk, off, none⟩ = some (.string a) ∧ W.cell? ⟨bk, off + 1, none⟩ = some (.string b) ∧ W.cell? ⟨bk, off + 2, none⟩ = some (.string c) := by
    rw [hW]
    exact ⟨(World.cell?_alloc_lt w2 _ ⟨bk, off, none⟩ hbk2).trans c0, (World.cell?_alloc_lt w2 _ ⟨bk, off + 1, none⟩ hbk2).trans c1, (World.cell?_alloc_lt w2 _ ⟨bk, off + 2, none⟩ hbk2).trans c2⟩
  have sa := sl_arr w2.heap.size
  have Hg := Lib.hid (hFW.at (g := w2.heap.size) (o := kdO) (by simp))
  have HFW := Lib.hid hFW
  clear d0 d1 d2 c0 c1 c2 hb2 HF1 hF2 hbk hbk2 hFW
  have Hix := Lib.hid (fun (W : World) (hW : W.heap[w2.heap.size]? = some kdO) => indexK a W w2.heap.size hW (Lib.hid rfl))
  have hkk := idxK_kind a.data.toList
  generalize idxK a.data.toList = ix at *
  have HW := Lib.hid hW
  clear hW
  go_wp2_with fail
  rw [← HW.out]
  go_quiet ((go_at_call 51; exact Calls.quiet_of_same (Hix.out _ (by exact Hg.out))))
  rcases hkk with ⟨hk, hi⟩ | ⟨hk, hi1, hi2⟩
  · have Hq := Lib.hid (Hqq.out.trans (if_pos hk))
    have hO := HFW.out.at (g := w.heap.size) (o := rnO0) (by simp)
    obtain ⟨o0, o1, o2⟩ : _ ∧ _ ∧ _ := ⟨Lib.cell_of_heap hO 0, Lib.cell_of_heap hO 1, Lib.cell_of_heap hO 2⟩
    obtain ⟨f0, f1, f2⟩ : _ ∧ _ ∧ _ := ⟨Lib.frozen_of_heap hO 0, Lib.frozen_of_heap hO 1, Lib.frozen_of_heap hO 2⟩
    have hlt := heap_lt hO
    have hB := HFW.out.bel
    clear hO
    clear hk Hqq k0 k1 k2
    go_wp2
    refine bodyPost_ret (v := .tuple #[.agg #[.int .i32 0, .int .i32 0, .int .i64 0], .int .i64 6]) (by simp [results, go_sem, o0, o1, o2]) rfl (RetRn.no Hq.out ?_)
    repeat' (first | with_reducible exact hB | with_reducible refine bd ?_ _ | with_reducible refine Below.drew ?_ | with_reducible refine bs ?_ ?_ | (simp only; omega))
  have hi0 : ¬ (ix < 1) := by omega
  have Hq2 := Lib.hid (Hqq.out.trans (if_neg (by rw [hk]; omega)))
  rw [hk] at Hq2
  rcases hnb : intR b.data.toList 0 1000000000 with ⟨n, e0⟩
  rcases hnc : intR c.data.toList 0 1000000000 with ⟨m, e1⟩
  have Hnb := Lib.hid hnb
  have Hnc := Lib.hid hnc
  clear hnb hnc hk Hqq k0 Hix Hg sa
  go_wp2_with fail
  (with_reducible refine (tInt b n e0 _ (by exact hR.below (HFW.out.drewN _).bel) (by omega) Hnb).mono ?_); rintro e w3 ⟨rfl, hb3⟩
  have hF3 := (HFW.out.drewN _).go hb3
  have k2' := (hb3.cell (p := ⟨bk, off + 2, none⟩) (by exact hbkW)).trans (show (World.drewN W _).cell? ⟨bk, off + 2, none⟩ = some (.string c) by simpa using k2)
  have HF3 := Lib.hid hF3
  clear hb3 k1 k2 hF3 HFW
  go_wp2_with fail
  (with_reducible refine (tInt c m e1 _ (by exact hR.below HF3.out.bel) (by omega) Hnc).mono ?_); rintro e w4 ⟨rfl, hb4⟩
  have hF4 := HF3.out.go hb4
  have hO := hF4.at (g := w.heap.size) (o := rnO0) (by simp)
  obtain ⟨o0, o1, o2⟩ : _ ∧ _ ∧ _ := ⟨Lib.cell_of_heap hO 0, Lib.cell_of_heap hO 1, Lib.cell_of_heap hO 2⟩
  obtain ⟨f0, f1, f2⟩ : _ ∧ _ ∧ _ := ⟨Lib.frozen_of_heap hO 0, Lib.frozen_of_heap hO 1, Lib.frozen_of_heap hO 2⟩
  have hlt := heap_lt hO
  have hB := hF4.bel
  clear hO
  clear hb4 hF4 HF3 k2'
  by_cases he0 : e0 = 0
  case neg =>
    have Hq := Lib.hid (Hq2.out.trans (runP_form Hnb.out Hnc.out (.inl he0)))
    have x0 : (e0 != 0) = true := by simpa using he0
    clear he0
    go_wp2
    refine bodyPost_ret (v := .tuple #[.agg #[.int .i32 0, .int .i32 0, .int .i64 0], .int .i64 6]) (by simp [results, go_sem, o0, o1, o2]) rfl (RetRn.no Hq.out ?_)
    repeat' (first | with_reducible exact hB | with_reducible refine bd ?_ _ | with_reducible refine Below.drew ?_ | with_reducible refine bs ?_ ?_ | (simp only; omega))
  subst he0
  by_cases he1 : e1 = 0
  case neg =>
    have Hq := Lib.hid (Hq2.out.trans (runP_form Hnb.out Hnc.out (.inr he1)))
    have x1 : (e1 != 0) = true := by simpa using he1
    clear he1
    go_wp2
    refine bodyPost_ret (v := .tuple #[.agg #[.int .i32 0, .int .i32 0, .int .i64 0], .int .i64 6]) (by simp [results, go_sem, o0, o1, o2]) rfl (RetRn.no Hq.out ?_)
    repeat' (first | with_reducible exact hB | with_reducible refine bd ?_ _ | with_reducible refine Below.drew ?_ | with_reducible refine bs ?_ ?_ | (simp only; omega))
  subst he1
  obtain ⟨_, _, n0, n1⟩ := intR_zero Hnb.out
  obtain ⟨_, _, m0, m1⟩ := intR_zero Hnc.out
  by_cases hm1 : m < 1
  · have Hq := Lib.hid (Hq2.out.trans (runP_range Hnb.out Hnc.out (.inl hm1)))
    go_wp2
    refine bodyPost_ret (v := .tuple #[.agg #[.int .i32 0, .int .i32 0, .int .i64 0], .int .i64 7]) (by simp [results, go_sem, o0, o1, o2]) rfl (RetRn.no Hq.out ?_)
    repeat' (first | with_reducible exact hB | with_reducible refine bd ?_ _ | with_reducible refine Below.drew ?_ | with_reducible refine bs ?_ ?_ | (simp only; omega))
  by_cases hm2 : 65536 < n + m
  · have Hq := Lib.hid (Hq2.out.trans (runP_range Hnb.out Hnc.out (.inr hm2)))
    go_wp2
    refine bodyPost_ret (v := .tuple #[.agg #[.int .i32 0, .int .i32 0, .int .i64 0], .int .i64 7]) (by simp [results, go_sem, o0, o1, o2]) rfl (RetRn.no Hq.out ?_)
    repeat' (first | with_reducible exact hB | with_reducible refine bd ?_ _ | with_reducible refine Below.drew ?_ | with_reducible refine bs ?_ ?_ | (simp only; omega))
  have Hq := Lib.hid (Hq2.out.trans (runP_ok Hnb.out Hnc.out (by omega)))
  have wK : IntKind.i32.wrap ix = ix := by simp [IntKind.wrap, IntKind.bits, IntKind.signed]; omega
  have wn : IntKind.i32.wrap n = n := by simp [IntKind.wrap, IntKind.bits, IntKind.signed]; omega
  go_wp2
  refine bodyPost_ret (v := .tuple #[.agg #[.int .i32 ix, .int .i32 n, .int .i64 m], .int .i64 0]) (by simp [results, go_sem, o0, o1, o2]) rfl (RetRn.yes m0 Hq.out ?_)
  repeat' (first | with_reducible exact hB | with_reducible refine bd ?_ _ | with_reducible refine Below.drew ?_ | with_reducible refine bs ?_ ?_ | (simp only; omega))
end Go.Proofs.YtpgojecldmcopaaGreatDoor
