/- Configurations' texts: Parse of the reference. No condition. -/
import Derived.Test.YtljmidaapgppfaaDoorD5
import Derived.Test.YtljmidaapgppfaaDoorD4
import Derived.Test.YtljmidaapgppfaaDoorN15
namespace Go.Proofs.YtljmidaapgppfaaDoor
open Go.RowKit
def nQ (x : ByteArray) : Int := (intR x.data.toList (-1000000000) 1000000000).1
def oQ (x : ByteArray) : Bool := (intR x.data.toList (-1000000000) 1000000000).2 != 0
theorem intQ_cases {x : ByteArray} (h : decL x.data.toList = true) : (intR x.data.toList (-1000000000) 1000000000 = (nQ x, 0) ∧ oQ x = false ∧ nQ x = intL x.data.toList) ∨ (intR x.data.toList (-1000000000) 1000000000 = (nQ x, 7) ∧ oQ x = true ∧ (intL x.data.toList < -1000000000 ∨ 1000000000 < intL x.data.toList)) := by
  by_cases h1 : intL x.data.toList < -1000000000 ∨ 1000000000 < intL x.data.toList
  · have hq := intR_out h h1
    refine .inr ⟨?_, ?_, h1⟩
    · unfold nQ; rw [hq]
    · unfold oQ; rw [hq]; rfl
  · have hq := intR_in h (lo := -1000000000) (hi := 1000000000) (by omega) (by omega) (by omega) (by omega)
    refine .inl ⟨?_, ?_, ?_⟩
    · unfold nQ; rw [hq]
    · unfold oQ; rw [hq]; rfl
    · unfold nQ; rw [hq]
theorem intQ {x : ByteArray} (h : decL x.data.toList = true) : intR x.data.toList (-1000000000) 1000000000 = (nQ x, if oQ x = true then 7 else 0) := by
  rcases intQ_cases h with ⟨h1, h2, _⟩ | ⟨h1, h2, _⟩ <;> rw [h1, h2] <;> rfl
theorem okQ_far {a b c : ByteArray} (ha : decL a.data.toList = true) (hb : decL b.data.toList = true) (hc : decL c.data.toList = true) (h : (oQ a || oQ b || oQ c) = true) : okP a.data.toList b.data.toList c.data.toList = ((0, 0, 0), 7) := by
  unfold okP
  rw [if_neg]
  intro ho
  unfold OkC at ho
  simp only [Bool.or_eq_true] at h
  rcases intQ_cases ha with ⟨_, h1, _⟩ | ⟨_, _, h1⟩
  · rcases intQ_cases hb with ⟨_, h2, _⟩ | ⟨_, _, h2⟩
    · rcases intQ_cases hc with ⟨_, h3, _⟩ | ⟨_, _, h3⟩
      · rw [h1, h2, h3] at h; simp at h
      · omega
    · omega
  · omega
theorem okQ_near {a b c : ByteArray} (ha : decL a.data.toList = true) (hb : decL b.data.toList = true) (hc : decL c.data.toList = true) (h : (oQ a || oQ b || oQ c) = false) :
    okP a.data.toList b.data.toList c.data.toList = (if OkC (nQ a) (nQ b) (nQ c) then ((nQ a, nQ b, nQ c), 0) else ((0, 0, 0), 7)) := by
  simp only [Bool.or_eq_false_iff] at h
  have n1 : nQ a = intL a.data.toList := by
    rcases intQ_cases ha with ⟨_, _, h1⟩ | ⟨_, h1, _⟩
    · exact h1
    · rw [h.1.1] at h1; cases h1
  have n2 : nQ b = intL b.data.toList := by
    rcases intQ_cases hb with ⟨_, _, h1⟩ | ⟨_, h1, _⟩
    · exact h1
    · rw [h.1.2] at h1; cases h1
  have n3 : nQ c = intL c.data.toList := by
    rcases intQ_cases hc with ⟨_, _, h1⟩ | ⟨_, h1, _⟩
    · exact h1
    · rw [h.2] at h1; cases h1
  rw [n1, n2, n3]
  rfl
theorem rInt28 (x : ByteArray) (n e0 : Int) (w : World) (hs : x.size ≤ 1000000) (h : Hid (intR x.data.toList (-1000000000) 1000000000 = (n, e0))) :
    Calls Tryd.prog 24 #[.string x, .int .i64 (-1000000000), .int .i64 1000000000] w fun e w' => e = .returned (.tuple #[.int .i64 n, .int .i64 e0]) ∧ Below w.heap.size w w' := by
  have := rint_ x (-1000000000) 1000000000 w (by omega)
  rw [h.out] at this
  exact this
abbrev n3O (x y z : Int) : Obj := .cells #[.int .i64 x, .int .i64 y, .int .i64 z] 54 (0, 0)
--WALK
theorem fr_n3 {w W : World} {G : Nat} {x y z : Int} (h : Fr w [(G, n3O x y z)] W) (hG : w.heap.size ≤ G) (i : Nat) (u : Int) {o : Obj} (ho : o = .cells ((#[.int .i64 x, .int .i64 y, .int .i64 z] : Array Value).setIfInBounds i (.int .i64 u)) 54 (0, 0)) : Fr w [(G, o)] (W.setCell ⟨G, i, none⟩ (.int .i64 u)) := by
  subst ho
  refine ⟨bs h.bel hG, fun p hp => ?_⟩
  rw [List.mem_singleton.1 hp]
  exact set_same (h.at List.mem_cons_self) _
theorem n3_cells {w W : World} {G : Nat} {x y z : Int} (h : Fr w [(G, n3O x y z)] W) : (W.cell? ⟨G, 0, none⟩ = some (.int .i64 x) ∧ W.cell? ⟨G, 1, none⟩ = some (.int .i64 y) ∧ W.cell? ⟨G, 2, none⟩ = some (.int .i64 z)) ∧
    (W.frozen? ⟨G, 0, none⟩ = false ∧ W.frozen? ⟨G, 1, none⟩ = false ∧ W.frozen? ⟨G, 2, none⟩ = false) ∧ G < W.heap.size := by
  have a := h.at (g := G) List.mem_cons_self
  exact ⟨⟨Lib.cell_of_heap a 0, Lib.cell_of_heap a 1, Lib.cell_of_heap a 2⟩, ⟨Lib.frozen_of_heap a 0, Lib.frozen_of_heap a 1, Lib.frozen_of_heap a 2⟩, heap_lt a⟩
set_option maxRecDepth 100000 in
set_option maxHeartbeats 4000000 in
theorem rparse (s : ByteArray) (w : World) (hs : s.size ≤ 1000000) :
    Calls Tryd.prog 9 #[.string s] w (RetCf w (psC s.data.toList)) := by
  have hsl : s.data.toList.length = s.size := rfl
  have HF0 := Lib.hid ((Fr.start w).newN rfl cfZ)
  by_cases h1 : 100 < s.size
  · have hRs := Lib.hid (psC_long (by rw [hsl]; exact h1))
    have i1 : (100 : Int) < (s.size : Int) := by omega
    clear hsl h1
    go_enter Tryd.func9, Tryd.ntmps9
    go_wp2
    exact bodyPost_ret (v := .tuple #[cfV 0 0 0, .int .i64 3]) (by simp [results, go_sem]) rfl ⟨by rw [hRs.out], HF0.out.bel⟩
  have i1 : ¬ ((100 : Int) < (s.size : Int)) := by omega
  have h1' : ¬ 100 < s.data.toList.length := by rw [hsl]; exact h1
  obtain ⟨L, hL⟩ : ∃ L, ptsB 32 s = L := ⟨_, rfl⟩
  have hLd : L.map dat = pts 32 [] s.data.toList := by rw [← hL]; exact ptsB_dat 32 s
  have hLz : ∀ x ∈ L, x.size ≤ 100 := by rw [← hL]; intro x hx; have := ptsB_sz hx; omega
  have HL := Lib.hid hL
  by_cases h6 : L.length = 6
  case neg =>
    have hRs := Lib.hid (psC_not h1' (by rw [← hLd, List.length_map]; exact h6))
    have i6 : ((L.length : Int) != 6) = true := by rw [bne_iff_ne]; omega
    clear h6 hLd hL h1' hsl h1 hLz
    go_enter Tryd.func9, Tryd.ntmps9
    go_wp2_with fail
    (with_reducible refine (rparts28 s _ hs HL).mono ?_); rintro e w1 ⟨⟨A1, cap1, rfl, hr1, _⟩, hb1⟩
    have hF1 := HF0.out.go hb1
    obtain ⟨⟨o0, o1, o2⟩, ⟨f0, f1, f2⟩, hlt0⟩ := outC hF1
    have hB := hF1.bel
    clear hF1 hb1 hr1
    go_wp2
    refine bodyPost_ret (v := .tuple #[cfV 0 0 0, .int .i64 6]) (by simp [results, go_sem, o0, o1, o2]) rfl ⟨by rw [hRs.out], ?_⟩
    repeat' (first | with_reducible exact hB | with_reducible refine bs ?_ ?_ | (simp only; omega))
  case pos =>
  obtain ⟨k1, a, k2, b, k3, c, rfl⟩ := six_of h6
  have hz : a.size ≤ 100 ∧ b.size ≤ 100 ∧ c.size ≤ 100 := ⟨hLz a (by simp), hLz b (by simp), hLz c (by simp)⟩
  have hps := psC_six h1' (show pts 32 [] s.data.toList = [dat k1, dat a, dat k2, dat b, dat k3, dat c] from hLd.symm)
  clear hLd hL h1' hsl h1 hLz h6
  by_cases hk1 : dat k1 = kwB
  case neg =>
    have hRs := Lib.hid (hps.trans (six_kw (fun h => hk1 h.1)))
    have q1 := str_ne (l := [98, 108, 111, 99, 107]) hk1
    clear hk1 hps
    go_enter Tryd.func9, Tryd.ntmps9
    go_wp2_with fail
    (with_reducible refine (rparts28 s _ hs HL).mono ?_); rintro e w1 ⟨⟨A1, cap1, rfl, hr1, _⟩, hb1⟩
    have hF1 := HF0.out.go hb1
    obtain ⟨bk, off, rfl, hbk, c0, c1, c2, c3, c4, c5⟩ := six_cells hr1
    obtain ⟨⟨o0, o1, o2⟩, ⟨f0, f1, f2⟩, hlt0⟩ := outC hF1
    have hB := hF1.bel
    clear hF1 hb1 hr1
    go_wp2
    refine bodyPost_ret (v := .tuple #[cfV 0 0 0, .int .i64 6]) (by simp [results, go_sem, o0, o1, o2]) rfl ⟨by rw [hRs.out], ?_⟩
    repeat' (first | with_reducible exact hB | with_reducible refine bs ?_ ?_ | (simp only; omega))
  case pos =>
  have q1 := str_eq (l := [98, 108, 111, 99, 107]) hk1
  by_cases hk2 : dat k2 = kwK
  case neg =>
    have hRs := Lib.hid (hps.trans (six_kw (fun h => hk2 h.2.1)))
    have q2 := str_ne (l := [107, 101, 101, 112]) hk2
    clear hk1 hk2 hps
    go_enter Tryd.func9, Tryd.ntmps9
    go_wp2_with fail
    (with_reducible refine (rparts28 s _ hs HL).mono ?_); rintro e w1 ⟨⟨A1, cap1, rfl, hr1, _⟩, hb1⟩
    have hF1 := HF0.out.go hb1
    obtain ⟨bk, off, rfl, hbk, c0, c1, c2, c3, c4, c5⟩ := six_cells hr1
    obtain ⟨⟨o0, o1, o2⟩, ⟨f0, f1, f2⟩, hlt0⟩ := outC hF1
    have hB := hF1.bel
    clear hF1 hb1 hr1
    go_wp2
    refine bodyPost_ret (v := .tuple #[cfV 0 0 0, .int .i64 6]) (by simp [results, go_sem, o0, o1, o2]) rfl ⟨by rw [hRs.out], ?_⟩
    repeat' (first | with_reducible exact hB | with_reducible refine bs ?_ ?_ | (simp only; omega))
  case pos =>
  have q2 := str_eq (l := [107, 101, 101, 112]) hk2
  by_cases hk3 : dat k3 = kwL
  case neg =>
    have hRs := Lib.hid (hps.trans (six_kw (fun h => hk3 h.2.2)))
    have q3 := str_ne (l := [108, 105, 109, 105, 116]) hk3
    clear hk1 hk2 hk3 hps
    go_enter Tryd.func9, Tryd.ntmps9
    go_wp2_with fail
    (with_reducible refine (rparts28 s _ hs HL).mono ?_); rintro e w1 ⟨⟨A1, cap1, rfl, hr1, _⟩, hb1⟩
    have hF1 := HF0.out.go hb1
    obtain ⟨bk, off, rfl, hbk, c0, c1, c2, c3, c4, c5⟩ := six_cells hr1
    obtain ⟨⟨o0, o1, o2⟩, ⟨f0, f1, f2⟩, hlt0⟩ := outC hF1
    have hB := hF1.bel
    clear hF1 hb1 hr1
    go_wp2
    refine bodyPost_ret (v := .tuple #[cfV 0 0 0, .int .i64 6]) (by simp [results, go_sem, o0, o1, o2]) rfl ⟨by rw [hRs.out], ?_⟩
    repeat' (first | with_reducible exact hB | with_reducible refine bs ?_ ?_ | (simp only; omega))
  case pos =>
  have q3 := str_eq (l := [108, 105, 109, 105, 116]) hk3
  have hform : ∀ x ∈ [a, b, c], decL x.data.toList = false → psC s.data.toList = ((0, 0, 0), 6) := by
    intro x hx hd
    refine hps.trans (six_form ⟨hk1, hk2, hk3⟩ ?_)
    rintro ⟨h1, h2, h3⟩
    simp only [List.mem_cons, List.not_mem_nil, or_false] at hx
    rcases hx with rfl | rfl | rfl
    · rw [hd] at h1; cases h1
    · rw [hd] at h2; cases h2
    · rw [hd] at h3; cases h3
  have hfine : (∀ x ∈ [a, b, c], decL x.data.toList = true) → psC s.data.toList = okP a.data.toList b.data.toList c.data.toList := fun h => hps.trans (six_ok ⟨hk1, hk2, hk3⟩ ⟨h a (by simp), h b (by simp), h c (by simp)⟩)
  have Hform := Lib.hid hform
  have Hfine := Lib.hid hfine
  have Hform := Lib.hid hform
  have Hfine := Lib.hid hfine
  obtain ⟨hza, hzb, hzc⟩ : a.size ≤ 1000000 ∧ b.size ≤ 1000000 ∧ c.size ≤ 1000000 := by omega
  clear hform hfine hps hk1 hk2 hk3 hz
  go_enter Tryd.func9, Tryd.ntmps9
  go_wp2_with fail
  (with_reducible refine (rparts28 s _ hs HL).mono ?_); rintro e w1 ⟨⟨A1, cap1, rfl, hr1, _⟩, hb1⟩
  have HF1 := Lib.hid (HF0.out.go hb1)
  obtain ⟨bk, off, rfl, hbk, c0, c1, c2, c3, c4, c5⟩ := six_cells hr1
  have hN0 := Lib.hid ((Fr.start w1).new (n3O 0 0 0))
  clear hb1 hr1 HF0 HL
  go_wp2
  go_loopw [6, 7] (fun fr i wr => (i = .int .i64 0 ∧ fr = .bool false ∧ Hid (Fr w1 [(w1.heap.size, n3O 0 0 0)] wr)) ∨ (i = .int .i64 1 ∧ fr = .bool (oQ a) ∧ Hid (Fr w1 [(w1.heap.size, n3O (nQ a) 0 0)] wr) ∧ Hid (decL a.data.toList = true)) ∨ (i = .int .i64 2 ∧ fr = .bool (oQ a || oQ b) ∧ Hid (Fr w1 [(w1.heap.size, n3O (nQ a) (nQ b) 0)] wr) ∧ Hid (decL a.data.toList = true ∧ decL b.data.toList = true)) ∨ (i = .int .i64 3 ∧ fr = .bool (oQ a || oQ b || oQ c) ∧ Hid (Fr w1 [(w1.heap.size, n3O (nQ a) (nQ b) (nQ c))] wr) ∧ Hid (decL a.data.toList = true ∧ decL b.data.toList = true ∧ decL c.data.toList = true))) (fun _ i _ => 3 - (intOf i).toNat)
  case atStart => exact .inl ⟨rfl, rfl, hN0⟩
  case round =>
    clear hN0
    rcases hrel with ⟨rfl, rfl, hF⟩ | ⟨rfl, rfl, hF, hD⟩ | ⟨rfl, rfl, hF, hD⟩ | ⟨rfl, rfl, hF, hD⟩
    · have hcx := (hF.out.bel.cell (p := ⟨bk, off + 1, none⟩) hbk).trans c1
      have hFw := Lib.hid (HF1.out.go hF.out.bel)
      rcases (Bool.eq_false_or_eq_true (decL a.data.toList)).symm with hd | hd
      · have hRs := Lib.hid (Hform.out a (by simp) hd)
        have hq := Lib.hid (intR_form hd (-1000000000) 1000000000)
        clear hd
        go_wp2_with fail
        (with_reducible refine (rInt28 a 0 6 _ hza hq).mono ?_); rintro e w4 ⟨rfl, hb4⟩
        have hF4 := hFw.out.go hb4
        obtain ⟨⟨o0, o1, o2⟩, ⟨f0, f1, f2⟩, hlt0⟩ := outC hF4
        have hB := hF4.bel
        clear hF4 hb4
        go_wp2
        refine bodyPost_ret (v := .tuple #[cfV 0 0 0, .int .i64 6]) (by simp [results, go_sem, o0, o1, o2]) rfl ⟨by rw [hRs.out], ?_⟩
        repeat' (first | with_reducible exact hB | with_reducible refine bs ?_ ?_ | (simp only; omega))
      · have hq := intQ hd
        obtain ⟨nx, hnx⟩ : ∃ nx, nQ a = nx := ⟨_, rfl⟩
        obtain ⟨ox, hox⟩ : ∃ ox, oQ a = ox := ⟨_, rfl⟩
        rw [hnx, hox] at hq
        rw [hnx, hox]
        have HD2 := Lib.hid (show decL a.data.toList = true from hd)
        clear hd
        cases ox
        · have Hq := Lib.hid (show intR a.data.toList (-1000000000) 1000000000 = (nx, 0) from hq)
          clear hq
          go_wp2_with fail
          (with_reducible refine (rInt28 a nx 0 _ hza Hq).mono ?_); rintro e w4 ⟨rfl, hb4⟩
          have hF4 := Lib.hid (hF.out.go hb4)
          obtain ⟨⟨m0, m1, m2⟩, ⟨g0, g1, g2⟩, hltG⟩ := n3_cells hF4.out
          clear hb4
          go_wp2
          go_roundw
          case rel => exact .inr (.inl ⟨rfl, by first | rfl | rw [hox], Lib.hid (by first | exact fr_n3 hF4.out (Nat.le_refl _) 0 nx rfl | (rw [hnx]; exact fr_n3 hF4.out (Nat.le_refl _) 0 nx rfl)), HD2⟩)
          case measure => (simp [intOf]) <;> omega
        · have Hq := Lib.hid (show intR a.data.toList (-1000000000) 1000000000 = (nx, 7) from hq)
          clear hq
          go_wp2_with fail
          (with_reducible refine (rInt28 a nx 7 _ hza Hq).mono ?_); rintro e w4 ⟨rfl, hb4⟩
          have hF4 := Lib.hid (hF.out.go hb4)
          obtain ⟨⟨m0, m1, m2⟩, ⟨g0, g1, g2⟩, hltG⟩ := n3_cells hF4.out
          clear hb4
          go_wp2
          go_roundw
          case rel => exact .inr (.inl ⟨rfl, by first | rfl | rw [hox], Lib.hid (by first | exact fr_n3 hF4.out (Nat.le_refl _) 0 nx rfl | (rw [hnx]; exact fr_n3 hF4.out (Nat.le_refl _) 0 nx rfl)), HD2⟩)
          case measure => (simp [intOf]) <;> omega
    · have hcx := (hF.out.bel.cell (p := ⟨bk, off + 3, none⟩) hbk).trans c3
      have hFw := Lib.hid (HF1.out.go hF.out.bel)
      rcases (Bool.eq_false_or_eq_true (decL b.data.toList)).symm with hd | hd
      · have hRs := Lib.hid (Hform.out b (by simp) hd)
        have hq := Lib.hid (intR_form hd (-1000000000) 1000000000)
        clear hd
        go_wp2_with fail
        (with_reducible refine (rInt28 b 0 6 _ hzb hq).mono ?_); rintro e w4 ⟨rfl, hb4⟩
        have hF4 := hFw.out.go hb4
        obtain ⟨⟨o0, o1, o2⟩, ⟨f0, f1, f2⟩, hlt0⟩ := outC hF4
        have hB := hF4.bel
        clear hF4 hb4
        go_wp2
        refine bodyPost_ret (v := .tuple #[cfV 0 0 0, .int .i64 6]) (by simp [results, go_sem, o0, o1, o2]) rfl ⟨by rw [hRs.out], ?_⟩
        repeat' (first | with_reducible exact hB | with_reducible refine bs ?_ ?_ | (simp only; omega))
      · have hq := intQ hd
        obtain ⟨nx, hnx⟩ : ∃ nx, nQ b = nx := ⟨_, rfl⟩
        obtain ⟨ox, hox⟩ : ∃ ox, oQ b = ox := ⟨_, rfl⟩
        rw [hnx, hox] at hq
        rw [hnx, hox]
        obtain ⟨fx, hfx⟩ : ∃ fx, (oQ a) = fx := ⟨_, rfl⟩
        rw [hfx]
        have HD2 := Lib.hid (show decL a.data.toList = true ∧ decL b.data.toList = true from ⟨hD.out, hd⟩)
        clear hd
        cases ox
        · cases fx
          · have Hq := Lib.hid (show intR b.data.toList (-1000000000) 1000000000 = (nx, 0) from hq)
            clear hq
            go_wp2_with fail
            (with_reducible refine (rInt28 b nx 0 _ hzb Hq).mono ?_); rintro e w4 ⟨rfl, hb4⟩
            have hF4 := Lib.hid (hF.out.go hb4)
            obtain ⟨⟨m0, m1, m2⟩, ⟨g0, g1, g2⟩, hltG⟩ := n3_cells hF4.out
            clear hb4
            go_wp2
            go_roundw
            case rel => exact .inr (.inr (.inl ⟨rfl, by first | rfl | (rw [hfx, hox]; rfl) | simp [hfx, hox], Lib.hid (by first | exact fr_n3 hF4.out (Nat.le_refl _) 1 nx rfl | (rw [hnx]; exact fr_n3 hF4.out (Nat.le_refl _) 1 nx rfl)), HD2⟩))
            case measure => (simp [intOf]) <;> omega
          · have Hq := Lib.hid (show intR b.data.toList (-1000000000) 1000000000 = (nx, 0) from hq)
            clear hq
            go_wp2_with fail
            (with_reducible refine (rInt28 b nx 0 _ hzb Hq).mono ?_); rintro e w4 ⟨rfl, hb4⟩
            have hF4 := Lib.hid (hF.out.go hb4)
            obtain ⟨⟨m0, m1, m2⟩, ⟨g0, g1, g2⟩, hltG⟩ := n3_cells hF4.out
            clear hb4
            go_wp2
            go_roundw
            case rel => exact .inr (.inr (.inl ⟨rfl, by first | rfl | (rw [hfx, hox]; rfl) | simp [hfx, hox], Lib.hid (by first | exact fr_n3 hF4.out (Nat.le_refl _) 1 nx rfl | (rw [hnx]; exact fr_n3 hF4.out (Nat.le_refl _) 1 nx rfl)), HD2⟩))
            case measure => (simp [intOf]) <;> omega
        · cases fx
          · have Hq := Lib.hid (show intR b.data.toList (-1000000000) 1000000000 = (nx, 7) from hq)
            clear hq
            go_wp2_with fail
            (with_reducible refine (rInt28 b nx 7 _ hzb Hq).mono ?_); rintro e w4 ⟨rfl, hb4⟩
            have hF4 := Lib.hid (hF.out.go hb4)
            obtain ⟨⟨m0, m1, m2⟩, ⟨g0, g1, g2⟩, hltG⟩ := n3_cells hF4.out
            clear hb4
            go_wp2
            go_roundw
            case rel => exact .inr (.inr (.inl ⟨rfl, by first | rfl | (rw [hfx, hox]; rfl) | simp [hfx, hox], Lib.hid (by first | exact fr_n3 hF4.out (Nat.le_refl _) 1 nx rfl | (rw [hnx]; exact fr_n3 hF4.out (Nat.le_refl _) 1 nx rfl)), HD2⟩))
            case measure => (simp [intOf]) <;> omega
          · have Hq := Lib.hid (show intR b.data.toList (-1000000000) 1000000000 = (nx, 7) from hq)
            clear hq
            go_wp2_with fail
            (with_reducible refine (rInt28 b nx 7 _ hzb Hq).mono ?_); rintro e w4 ⟨rfl, hb4⟩
            have hF4 := Lib.hid (hF.out.go hb4)
            obtain ⟨⟨m0, m1, m2⟩, ⟨g0, g1, g2⟩, hltG⟩ := n3_cells hF4.out
            clear hb4
            go_wp2
            go_roundw
            case rel => exact .inr (.inr (.inl ⟨rfl, by first | rfl | (rw [hfx, hox]; rfl) | simp [hfx, hox], Lib.hid (by first | exact fr_n3 hF4.out (Nat.le_refl _) 1 nx rfl | (rw [hnx]; exact fr_n3 hF4.out (Nat.le_refl _) 1 nx rfl)), HD2⟩))
            case measure => (simp [intOf]) <;> omega
    · have hcx := (hF.out.bel.cell (p := ⟨bk, off + 5, none⟩) hbk).trans c5
      have hFw := Lib.hid (HF1.out.go hF.out.bel)
      rcases (Bool.eq_false_or_eq_true (decL c.data.toList)).symm with hd | hd
      · have hRs := Lib.hid (Hform.out c (by simp) hd)
        have hq := Lib.hid (intR_form hd (-1000000000) 1000000000)
        clear hd
        go_wp2_with fail
        (with_reducible refine (rInt28 c 0 6 _ hzc hq).mono ?_); rintro e w4 ⟨rfl, hb4⟩
        have hF4 := hFw.out.go hb4
        obtain ⟨⟨o0, o1, o2⟩, ⟨f0, f1, f2⟩, hlt0⟩ := outC hF4
        have hB := hF4.bel
        clear hF4 hb4
        go_wp2
        refine bodyPost_ret (v := .tuple #[cfV 0 0 0, .int .i64 6]) (by simp [results, go_sem, o0, o1, o2]) rfl ⟨by rw [hRs.out], ?_⟩
        repeat' (first | with_reducible exact hB | with_reducible refine bs ?_ ?_ | (simp only; omega))
      · have hq := intQ hd
        obtain ⟨nx, hnx⟩ : ∃ nx, nQ c = nx := ⟨_, rfl⟩
        obtain ⟨ox, hox⟩ : ∃ ox, oQ c = ox := ⟨_, rfl⟩
        rw [hnx, hox] at hq
        rw [hnx, hox]
        obtain ⟨fx, hfx⟩ : ∃ fx, (oQ a || oQ b) = fx := ⟨_, rfl⟩
        rw [hfx]
        have HD2 := Lib.hid (show decL a.data.toList = true ∧ decL b.data.toList = true ∧ decL c.data.toList = true from ⟨hD.out.1, hD.out.2, hd⟩)
        clear hd
        cases ox
        · cases fx
          · have Hq := Lib.hid (show intR c.data.toList (-1000000000) 1000000000 = (nx, 0) from hq)
            clear hq
            go_wp2_with fail
            (with_reducible refine (rInt28 c nx 0 _ hzc Hq).mono ?_); rintro e w4 ⟨rfl, hb4⟩
            have hF4 := Lib.hid (hF.out.go hb4)
            obtain ⟨⟨m0, m1, m2⟩, ⟨g0, g1, g2⟩, hltG⟩ := n3_cells hF4.out
            clear hb4
            go_wp2
            go_roundw
            case rel => exact .inr (.inr (.inr ⟨rfl, by first | rfl | (rw [hfx, hox]; rfl) | simp [hfx, hox], Lib.hid (by first | exact fr_n3 hF4.out (Nat.le_refl _) 2 nx rfl | (rw [hnx]; exact fr_n3 hF4.out (Nat.le_refl _) 2 nx rfl)), HD2⟩))
            case measure => (simp [intOf]) <;> omega
          · have Hq := Lib.hid (show intR c.data.toList (-1000000000) 1000000000 = (nx, 0) from hq)
            clear hq
            go_wp2_with fail
            (with_reducible refine (rInt28 c nx 0 _ hzc Hq).mono ?_); rintro e w4 ⟨rfl, hb4⟩
            have hF4 := Lib.hid (hF.out.go hb4)
            obtain ⟨⟨m0, m1, m2⟩, ⟨g0, g1, g2⟩, hltG⟩ := n3_cells hF4.out
            clear hb4
            go_wp2
            go_roundw
            case rel => exact .inr (.inr (.inr ⟨rfl, by first | rfl | (rw [hfx, hox]; rfl) | simp [hfx, hox], Lib.hid (by first | exact fr_n3 hF4.out (Nat.le_refl _) 2 nx rfl | (rw [hnx]; exact fr_n3 hF4.out (Nat.le_refl _) 2 nx rfl)), HD2⟩))
            case measure => (simp [intOf]) <;> omega
        · cases fx
          · have Hq := Lib.hid (show intR c.data.toList (-1000000000) 1000000000 = (nx, 7) from hq)
            clear hq
            go_wp2_with fail
            (with_reducible refine (rInt28 c nx 7 _ hzc Hq).mono ?_); rintro e w4 ⟨rfl, hb4⟩
            have hF4 := Lib.hid (hF.out.go hb4)
            obtain ⟨⟨m0, m1, m2⟩, ⟨g0, g1, g2⟩, hltG⟩ := n3_cells hF4.out
            clear hb4
            go_wp2
            go_roundw
            case rel => exact .inr (.inr (.inr ⟨rfl, by first | rfl | (rw [hfx, hox]; rfl) | simp [hfx, hox], Lib.hid (by first | exact fr_n3 hF4.out (Nat.le_refl _) 2 nx rfl | (rw [hnx]; exact fr_n3 hF4.out (Nat.le_refl _) 2 nx rfl)), HD2⟩))
            case measure => (simp [intOf]) <;> omega
          · have Hq := Lib.hid (show intR c.data.toList (-1000000000) 1000000000 = (nx, 7) from hq)
            clear hq
            go_wp2_with fail
            (with_reducible refine (rInt28 c nx 7 _ hzc Hq).mono ?_); rintro e w4 ⟨rfl, hb4⟩
            have hF4 := Lib.hid (hF.out.go hb4)
            obtain ⟨⟨m0, m1, m2⟩, ⟨g0, g1, g2⟩, hltG⟩ := n3_cells hF4.out
            clear hb4
            go_wp2
            go_roundw
            case rel => exact .inr (.inr (.inr ⟨rfl, by first | rfl | (rw [hfx, hox]; rfl) | simp [hfx, hox], Lib.hid (by first | exact fr_n3 hF4.out (Nat.le_refl _) 2 nx rfl | (rw [hnx]; exact fr_n3 hF4.out (Nat.le_refl _) 2 nx rfl)), HD2⟩))
            case measure => (simp [intOf]) <;> omega
    · have hps := Hfine.out (by
        intro x hx
        simp only [List.mem_cons, List.not_mem_nil, or_false] at hx
        obtain ⟨d1, d2, d3⟩ := hD.out
        rcases hx with rfl | rfl | rfl <;> assumption)
      obtain ⟨⟨m0, m1, m2⟩, _, hltG⟩ := n3_cells hF.out
      have HFw := Lib.hid ((HF1.out.go hF.out.bel).new (.cells #[.int .i64 (nQ a), .int .i64 (nQ b), .int .i64 (nQ c)] 23 (0, 0)))
      have hltW := (HF1.out.go hF.out.bel).lt (g := w.heap.size) (o := cfZ) (by simp)
      rcases hfa : (oQ a || oQ b || oQ c) with _ | _
      · have hps := hps.trans (okQ_near hD.out.1 hD.out.2.1 hD.out.2.2 hfa)
        obtain ⟨x, hx⟩ : ∃ x, nQ a = x := ⟨_, rfl⟩
        obtain ⟨y, hy⟩ : ∃ y, nQ b = y := ⟨_, rfl⟩
        obtain ⟨z, hz⟩ : ∃ z, nQ c = z := ⟨_, rfl⟩
        rw [hx, hy, hz] at hps HFw
        rw [hx] at m0
        rw [hy] at m1
        rw [hz] at m2
        have Hps := Lib.hid hps
        clear hps hx hy hz hfa hF
        by_cases hok : OkC x y z
        · have hRs := Lib.hid (Hps.out.trans (if_pos hok))
          have He := Lib.hid (errC_yes hok)
          clear hok Hps
          go_wp2_with fail
          (with_reducible refine (rccheck x y z _).mono ?_); rintro e w6 ⟨rfl, hb6⟩
          rw [He.out]
          have hF6 := HFw.out.go hb6
          have a2 := hF6.at (g := wr.heap.size) List.mem_cons_self
          obtain ⟨p0', p1', p2'⟩ : _ ∧ _ ∧ _ := ⟨Lib.cell_of_heap a2 0, Lib.cell_of_heap a2 1, Lib.cell_of_heap a2 2⟩
          obtain ⟨⟨o0, o1, o2⟩, ⟨f0, f1, f2⟩, hlt0⟩ := outC (hF6.sub (by simp))
          have hB := hF6.bel
          clear m0 m1 m2 a2 hF6 hb6
          go_wp2
          refine bodyPost_ret (v := .tuple #[cfV x y z, .int .i64 0]) (by simp [results, go_sem, o0, o1, o2]) rfl ⟨by rw [hRs.out], ?_⟩
          repeat' (first | with_reducible exact hB | with_reducible refine bs ?_ ?_ | (simp only; omega))
        · have hRs := Lib.hid (Hps.out.trans (if_neg hok))
          have He := Lib.hid (errC_no hok)
          clear hok Hps
          go_wp2_with fail
          (with_reducible refine (rccheck x y z _).mono ?_); rintro e w6 ⟨rfl, hb6⟩
          rw [He.out]
          have hF6 := HFw.out.go hb6
          obtain ⟨⟨o0, o1, o2⟩, ⟨f0, f1, f2⟩, hlt0⟩ := outC (hF6.sub (by simp))
          have hB := hF6.bel
          clear m0 m1 m2 hF6 hb6
          go_wp2
          refine bodyPost_ret (v := .tuple #[cfV 0 0 0, .int .i64 7]) (by simp [results, go_sem, o0, o1, o2]) rfl ⟨by rw [hRs.out], ?_⟩
          repeat' (first | with_reducible exact hB | with_reducible refine bs ?_ ?_ | (simp only; omega))
      · have hRs := Lib.hid (hps.trans (okQ_far hD.out.1 hD.out.2.1 hD.out.2.2 hfa))
        obtain ⟨⟨o0, o1, o2⟩, ⟨f0, f1, f2⟩, hlt0⟩ := outC (HF1.out.go hF.out.bel)
        have hB := (HF1.out.go hF.out.bel).bel
        clear hps hfa hF
        go_wp2
        refine bodyPost_ret (v := .tuple #[cfV 0 0 0, .int .i64 7]) (by simp [results, go_sem, o0, o1, o2, hlt0]) rfl ⟨by rw [hRs.out], ?_⟩
        repeat' (first | with_reducible exact hB | with_reducible refine bs ?_ ?_ | with_reducible refine ba ?_ _ | (simp only; omega))
end Go.Proofs.YtljmidaapgppfaaDoor
