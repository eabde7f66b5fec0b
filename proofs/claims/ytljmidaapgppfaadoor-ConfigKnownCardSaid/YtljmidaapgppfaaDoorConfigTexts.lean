/- ConfigTexts: for every configuration and string the law returns true. No condition. -/
import Derived.Test.YtljmidaapgppfaaDoorD3
import Derived.Test.YtljmidaapgppfaaDoorD6
namespace Go.Proofs.YtljmidaapgppfaaDoor
open Go.RowKit
theorem cparseQ (s : ByteArray) (x y z e0 : Int) (w : World) (hM : ML w) (hR : ER w) (hs : s.size ≤ 1000000) (h : Hid (psC s.data.toList = ((x, y, z), e0))) :
    Calls Tryd.prog 8 #[.string s] w fun e w' => e = .returned (.tuple #[cfV x y z, .int .i64 e0]) ∧ Below w.heap.size w w' := by
  have := cparse s w hM hR hs
  unfold RetCf at this
  rw [h.out] at this
  exact this
theorem rparseQ (s : ByteArray) (x y z e0 : Int) (w : World) (hs : s.size ≤ 1000000) (h : Hid (psC s.data.toList = ((x, y, z), e0))) :
    Calls Tryd.prog 9 #[.string s] w fun e w' => e = .returned (.tuple #[cfV x y z, .int .i64 e0]) ∧ Below w.heap.size w w' := by
  have := rparse s w hs
  unfold RetCf at this
  rw [h.out] at this
  exact this
theorem cprintQ (b k l : Int) (T : ByteArray) (e0 : Int) (w : World) (hP : Pow w) (h : Hid (prS b k l = T ∧ errC b k l = e0)) :
    Calls Tryd.prog 6 #[cfV b k l] w fun e w' => e = .returned (.tuple #[.string T, .int .i64 e0]) ∧ Below w.heap.size w w' := by
  have := cprint_any b k l w hP
  rw [h.out.1, h.out.2] at this
  exact this
theorem rprintQ (b k l : Int) (T : ByteArray) (e0 : Int) (w : World) (h : Hid (prS b k l = T ∧ errC b k l = e0)) :
    Calls Tryd.prog 7 #[cfV b k l] w fun e w' => e = .returned (.tuple #[.string T, .int .i64 e0]) ∧ Below w.heap.size w w' := by
  have := rprint_any b k l w
  rw [h.out.1, h.out.2] at this
  exact this
theorem c3_cells {W : World} {g : Nat} {x y z : Int} (h : W.heap[g]? = some (cfO x y z)) : W.cell? ⟨g, 0, none⟩ = some (.int .i64 x) ∧ W.cell? ⟨g, 1, none⟩ = some (.int .i64 y) ∧ W.cell? ⟨g, 2, none⟩ = some (.int .i64 z) :=
  ⟨Lib.cell_of_heap h 0, Lib.cell_of_heap h 1, Lib.cell_of_heap h 2⟩
set_option maxRecDepth 100000 in
set_option maxHeartbeats 4000000 in
theorem configTexts_walk (w : World) (b k l : Int) (s : ByteArray) (_hs : s.size ≤ 140737488351232) (hP : Pow w) (hR : ER w) (hM : ML w) :
    Calls Tryd.prog 3 #[cfV b k l, .string s] w fun e w' => e = .returned (.bool true) ∧ Below w.heap.size w w' := by
  have HF0 := Lib.hid ((Fr.start w).newN rfl (cfO b k l))
  by_cases h2 : 200 < s.size
  · have i1 : (200 : Int) < (s.size : Int) := by omega
    clear h2
    go_enter Tryd.func3, Tryd.ntmps3
    go_wp2_with fail
    (with_reducible refine (awake _ (hP.below HF0.out.bel)).mono ?_); rintro e w9 ⟨rfl, hb9⟩
    go_wp2
    go_ret
    exact ⟨rfl, bt HF0.out.bel hb9⟩
  have i1 : ¬ ((200 : Int) < (s.size : Int)) := by omega
  have hs1 : s.size ≤ 1000000 := by omega
  clear h2
  obtain ⟨T, E, hT⟩ : ∃ T E, Hid (prS b k l = T ∧ errC b k l = E) := ⟨_, _, Lib.hid ⟨rfl, rfl⟩⟩
  have hT2 : Hid (E = 0 → psC T.data.toList = ((b, k, l), 0) ∧ T.size ≤ 1000000) := Lib.hid (fun h0 => by
    obtain ⟨h1, h2⟩ := hT.out
    have hok : OkC b k l := by
      by_cases h : OkC b k l
      · exact h
      · rw [errC_no h] at h2; omega
    rw [prS_yes hok] at h1
    have h3 : T.data.toList = txC b k l := by rw [← h1]; exact txtC_dat b k l
    have h4 : T.data.toList.length = T.size := rfl
    refine ⟨by rw [h3]; exact ps_txC hok, ?_⟩
    rw [h3] at h4
    have := txC_len hok
    omega)
  obtain ⟨x, y, z, G, hS⟩ : ∃ x y z G, Hid (psC s.data.toList = ((x, y, z), G)) := ⟨_, _, _, _, Lib.hid rfl⟩
  have hS2 : Hid (G = 0 → prS x y z = s ∧ errC x y z = 0) := Lib.hid (fun h0 => by
    obtain ⟨h1, h2⟩ := txC_ps (by rw [← h0]; exact hS.out : psC s.data.toList = ((x, y, z), 0))
    refine ⟨?_, errC_yes h1⟩
    rw [prS_yes h1]
    apply ByteArray.ext
    apply Array.toList_inj.1
    rw [txtC_dat, h2])
  obtain ⟨p0, p1, p2⟩ := c3_cells (HF0.out.at (g := w.heap.size) List.mem_cons_self)
  go_enter Tryd.func3, Tryd.ntmps3
  go_wp2_with fail
  (with_reducible refine (cprintQ b k l T E _ (hP.below HF0.out.bel) hT).mono ?_); rintro e w1 ⟨rfl, hb1⟩
  have HF1 := Lib.hid (HF0.out.go hb1)
  clear p0 p1 p2 HF0 hb1
  obtain ⟨p0, p1, p2⟩ := c3_cells (HF1.out.at (g := w.heap.size) List.mem_cons_self)
  go_wp2_with fail
  (with_reducible refine (rprintQ b k l T E _ hT).mono ?_); rintro e w2 ⟨rfl, hb2⟩
  have HF2 := Lib.hid (HF1.out.go hb2)
  clear p0 p1 p2 HF1 hb2 hT
  go_wp2_with fail
  (with_reducible refine (cparseQ s x y z G _ (hM.below HF2.out.bel) (hR.below HF2.out.bel) hs1 hS).mono ?_); rintro e w3 ⟨rfl, hb3⟩
  have HF3 := Lib.hid ((HF2.out.go hb3).new (cfO x y z))
  have hg3 := (HF2.out.go hb3).lt (g := w.heap.size) List.mem_cons_self
  obtain ⟨g9, hg9⟩ : ∃ g9, w3.heap.size = g9 := ⟨_, rfl⟩
  clear HF2 hb3
  go_wp2_with fail
  (with_reducible refine (rparseQ s x y z G _ hs1 hS).mono ?_); rintro e w4 ⟨rfl, hb4⟩
  rw [hg9] at HF3 hg3
  have HF4 := Lib.hid ((HF3.out.go hb4).new (cfO x y z))
  have hg4 := (HF3.out.go hb4).lt (g := g9) List.mem_cons_self
  obtain ⟨q0, q1, q2⟩ := c3_cells (x := x) (y := y) (z := z) ((HF3.out.go hb4).at (g := g9) (by simp))
  clear HF3 hb4 hg9 hS
  go_upto_if 60 with (fail)
  go_cut [13, 14] (fun _ _ wx => Fr w [(g9, cfO x y z), (w.heap.size, cfO b k l)] wx)
  case first =>
    have hF5 := HF4.out.sub (M := [(g9, cfO x y z), (w.heap.size, cfO b k l)]) (by simp)
    by_cases h0 : E = 0
    · obtain ⟨ht1, ht2⟩ := hT2.out h0
      have Ht := Lib.hid ht1
      subst h0
      clear hT2 ht1
      go_wp2_with fail
      (with_reducible refine (cparseQ T b k l 0 _ (hM.below HF4.out.bel) (hR.below HF4.out.bel) ht2 Ht).mono ?_); rintro e w5 ⟨rfl, hb5⟩
      have hF6 := (hF5.go hb5).new (cfO b k l)
      obtain ⟨v0, v1, v2⟩ := c3_cells (x := b) (y := k) (z := l) ((hF5.go hb5).at (g := w.heap.size) (by simp))
      have hlw := (hF5.go hb5).lt (g := w.heap.size) (o := cfO b k l) (by simp)
      have hF7 := hF6.sub (M := [(g9, cfO x y z), (w.heap.size, cfO b k l)]) (by simp)
      clear q0 q1 q2 hb5 hF5 hF6
      go_wp2
      go_meet
      exact hF7
    · have e1 : (E == 0) = false := by simpa using h0
      clear h0
      go_wp2
      go_meet
      exact hF5
  case rest =>
  have HF5 := Lib.hid hcut
  obtain ⟨q0', q1', q2'⟩ := c3_cells (x := x) (y := y) (z := z) (hcut.at (g := g9) (by simp))
  clear hcut HF4 q0 q1 q2 hT2 hg4
  go_upto_if 74 with (fail)
  go_cut [15, 16] (fun _ _ wx => Below w.heap.size w wx)
  case first =>
    by_cases h0 : G = 0
    · have Hs := Lib.hid (hS2.out h0)
      subst h0
      clear hS2
      go_wp2_with fail
      (with_reducible refine (cprintQ x y z s 0 _ (hP.below HF5.out.bel) Hs).mono ?_); rintro e w6 ⟨rfl, hb6⟩
      have hB6 := bt HF5.out.bel hb6
      go_wp2
      go_meet
      exact hB6
    · have e1 : (G == 0) = false := by simpa using h0
      have hB6 := HF5.out.bel
      clear h0
      go_wp2
      go_meet
      exact hB6
  case rest =>
  go_wp2_with fail
  (with_reducible refine (awake _ (hP.below hcut)).mono ?_); rintro e w9 ⟨rfl, hb9⟩
  go_wp2
  go_ret
  exact ⟨rfl, bt hcut hb9⟩
end Go.Proofs.YtljmidaapgppfaaDoor
