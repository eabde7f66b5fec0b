/- Configurations' texts: Parse of the program. No condition. -/
import Derived.Test.YtljmidaapgppfaaDoorSp
import Derived.Test.YtljmidaapgppfaaDoorD1
import Derived.Test.YtljmidaapgppfaaDoorN9
import Derived.Test.YtljmidaapgppfaaDoorApp
import Derived.Deep.DeepCutAuto
namespace Go.Proofs.YtljmidaapgppfaaDoor
open Go.RowKit
abbrev RetCf (w : World) (r : C3 × Int) (e : Ending) (w' : World) : Prop := e = .returned (.tuple #[cfV r.1.1 r.1.2.1 r.1.2.2, .int .i64 r.2]) ∧ Below w.heap.size w w'
abbrev cfZ : Obj := .cells #[.int .i64 0, .int .i64 0, .int .i64 0] 23 (0, 0)
theorem i64El : Elem Tryd.prog 50 2 (.int .i64 0) 1 8 := ⟨Tryd.underlying50, by kernel_rfl, rfl, by decide⟩
theorem outC {w W : World} (h : Fr w [(w.heap.size, cfZ)] W) :
    (W.cell? ⟨w.heap.size, 0, none⟩ = some (.int .i64 0) ∧ W.cell? ⟨w.heap.size, 1, none⟩ = some (.int .i64 0) ∧ W.cell? ⟨w.heap.size, 2, none⟩ = some (.int .i64 0)) ∧
    (W.frozen? ⟨w.heap.size, 0, none⟩ = false ∧ W.frozen? ⟨w.heap.size, 1, none⟩ = false ∧ W.frozen? ⟨w.heap.size, 2, none⟩ = false) ∧ w.heap.size < W.heap.size := by
  have a := h.at (g := w.heap.size) (o := cfZ) (by simp)
  exact ⟨⟨Lib.cell_of_heap a 0, Lib.cell_of_heap a 1, Lib.cell_of_heap a 2⟩, ⟨Lib.frozen_of_heap a 0, Lib.frozen_of_heap a 1, Lib.frozen_of_heap a 2⟩, heap_lt a⟩
theorem six_cells {w : World} {B : Nat} {A : Option Addr} {a b c d e f : ByteArray} (h : Reads w B 1 A 6 (Ssb [a, b, c, d, e, f])) :
    ∃ bk off, A = some ⟨bk, off, none⟩ ∧ bk < B ∧ (w.cell? ⟨bk, off, none⟩ = some (.string a) ∧ w.cell? ⟨bk, off + 1, none⟩ = some (.string b) ∧ w.cell? ⟨bk, off + 2, none⟩ = some (.string c) ∧ w.cell? ⟨bk, off + 3, none⟩ = some (.string d) ∧ w.cell? ⟨bk, off + 4, none⟩ = some (.string e) ∧ w.cell? ⟨bk, off + 5, none⟩ = some (.string f)) := by
  obtain ⟨bk, off, e1, hb, hc⟩ := h.2 (by omega)
  exact ⟨bk, off, e1, hb, hc 0 _ rfl, hc 1 _ rfl, hc 2 _ rfl, hc 3 _ rfl, hc 4 _ rfl, hc 5 _ rfl⟩
theorem three_cells {w : World} {B : Nat} {A : Option Addr} {x y z : Value} (h : Reads w B 1 A 3 [x, y, z]) :
    ∃ bk off, A = some ⟨bk, off, none⟩ ∧ bk < B ∧ (w.cell? ⟨bk, off, none⟩ = some x ∧ w.cell? ⟨bk, off + 1, none⟩ = some y ∧ w.cell? ⟨bk, off + 2, none⟩ = some z) := by
  obtain ⟨bk, off, e1, hb, hc⟩ := h.2 (by omega)
  exact ⟨bk, off, e1, hb, hc 0 _ rfl, hc 1 _ rfl, hc 2 _ rfl⟩
def nR (x : ByteArray) : Int := (intR x.data.toList (-1) 1000000).1
def oR (x : ByteArray) : Bool := (intR x.data.toList (-1) 1000000).2 != 0
def i64s (l : List ByteArray) : List Value := l.map fun x => .int .i64 (nR x)
def farI (l : List ByteArray) : Int := if l.any oR = true then 7 else 0
theorem i64s_snoc (l : List ByteArray) (x : ByteArray) : i64s (l ++ [x]) = i64s l ++ [.int .i64 (nR x)] := by simp [i64s]
theorem farI_in {l : List ByteArray} {x : ByteArray} (h : oR x = false) : farI (l ++ [x]) = farI l := by unfold farI; rw [List.any_append]; simp [h]
theorem farI_out {l : List ByteArray} {x : ByteArray} (h : oR x = true) : farI (l ++ [x]) = 7 := by unfold farI; rw [List.any_append]; simp [h]
theorem farI_or (l : List ByteArray) : (l.any oR = true ∧ farI l = 7) ∨ (l.any oR = false ∧ farI l = 0) := by
  unfold farI
  rcases h : l.any oR with _ | _
  · exact .inr ⟨rfl, by simp⟩
  · exact .inl ⟨rfl, by simp⟩
theorem int_cases {x : ByteArray} (h : decL x.data.toList = true) : (intR x.data.toList (-1) 1000000 = (intL x.data.toList, 0) ∧ -1 ≤ intL x.data.toList ∧ intL x.data.toList ≤ 1000000) ∨ (intR x.data.toList (-1) 1000000 = (0, 7) ∧ (intL x.data.toList < -1 ∨ 1000000 < intL x.data.toList)) := by
  by_cases h1 : intL x.data.toList < -1 ∨ 1000000 < intL x.data.toList
  · exact .inr ⟨intR_out h h1, h1⟩
  · exact .inl ⟨intR_in h (by omega) (by omega) (by omega) (by omega), by omega, by omega⟩
theorem oR_out {x : ByteArray} (h : decL x.data.toList = true) (ho : oR x = true) : intL x.data.toList < -1 ∨ 1000000 < intL x.data.toList := by
  rcases int_cases h with ⟨h1, _⟩ | ⟨_, h1⟩
  · unfold oR at ho; rw [h1] at ho; simp at ho
  · exact h1
theorem nR_in {x : ByteArray} (h : decL x.data.toList = true) (ho : oR x = false) : nR x = intL x.data.toList := by
  rcases int_cases h with ⟨h1, _⟩ | ⟨h1, _⟩
  · unfold nR; rw [h1]
  · unfold oR at ho; rw [h1] at ho; simp at ho
theorem okP_far {a b c : ByteArray} (ha : decL a.data.toList = true) (hb : decL b.data.toList = true) (hc : decL c.data.toList = true) (h : [a, b, c].any oR = true) : okP a.data.toList b.data.toList c.data.toList = ((0, 0, 0), 7) := by
  unfold okP
  rw [if_neg]
  intro ho
  unfold OkC at ho
  simp only [List.any_cons, List.any_nil, Bool.or_false, Bool.or_eq_true] at h
  rcases h with h | h | h
  · have := oR_out ha h; omega
  · have := oR_out hb h; omega
  · have := oR_out hc h; omega
theorem okP_near {a b c : ByteArray} (ha : decL a.data.toList = true) (hb : decL b.data.toList = true) (hc : decL c.data.toList = true) (h : [a, b, c].any oR = false) :
    okP a.data.toList b.data.toList c.data.toList = (if OkC (nR a) (nR b) (nR c) then ((nR a, nR b, nR c), 0) else ((0, 0, 0), 7)) := by
  simp only [List.any_cons, List.any_nil, Bool.or_false, Bool.or_eq_false_iff] at h
  rw [nR_in ha h.1, nR_in hb h.2.1, nR_in hc h.2.2]
  rfl
theorem cInt (x : ByteArray) (n e0 : Int) (w : World) (hR : ER w) (hs : x.size ≤ 1000000) (h : Hid (intR x.data.toList (-1) 1000000 = (n, e0))) :
    Calls Tryd.prog 22 #[.string x, .int .i64 (-1), .int .i64 1000000] w fun e w' => e = .returned (.tuple #[.int .i64 n, .int .i64 e0]) ∧ Below w.heap.size w w' := by
  have := int_ x (-1) 1000000 w (by omega) hR
  rw [h.out] at this
  exact this
theorem str_eq {x : ByteArray} {l : List UInt8} (h : x.data.toList = l) : (x.toList == l) = true := by rw [ByteArray.toList_eq, h]; simp
theorem str_ne {x : ByteArray} {l : List UInt8} (h : x.data.toList ≠ l) : (x.toList == l) = false := by rw [ByteArray.toList_eq]; simpa using h
theorem take_P {P : List ByteArray} {k : Nat} (h : k < P.length) : P.take (k + 1) = P.take k ++ [P[k]] := by rw [List.take_add_one, List.getElem?_eq_getElem h]; rfl
set_option maxRecDepth 100000 in
set_option maxHeartbeats 4000000 in
theorem cparse (s : ByteArray) (w : World) (hM : ML w) (hR : ER w) (hs : s.size ≤ 1000000) :
    Calls Tryd.prog 8 #[.string s] w (RetCf w (psC s.data.toList)) := by
  have hsl : s.data.toList.length = s.size := rfl
  have HF0 := Lib.hid ((Fr.start w).newN rfl cfZ)
  by_cases h1 : 100 < s.size
  · have hRs := Lib.hid (psC_long (by rw [hsl]; exact h1))
    have i1 : (100 : Int) < (s.size : Int) := by omega
    clear hsl h1
    go_enter Tryd.func8, Tryd.ntmps8
    go_wp2
    exact bodyPost_ret (v := .tuple #[cfV 0 0 0, .int .i64 3]) (by simp [results, go_sem]) rfl ⟨by rw [hRs.out], HF0.out.bel⟩
  have i1 : ¬ ((100 : Int) < (s.size : Int)) := by omega
  have h1' : ¬ 100 < s.data.toList.length := by rw [hsl]; exact h1
  obtain ⟨L, hL⟩ : ∃ L, ptsB 32 s = L := ⟨_, rfl⟩
  have hLd : L.map dat = pts 32 [] s.data.toList := by rw [← hL]; exact ptsB_dat 32 s
  have hLz : ∀ x ∈ L, x.size ≤ 100 := by rw [← hL]; intro x hx; have := ptsB_sz hx; omega
  have HL := Lib.hid hL
  by_cases h6 : L.length = 6
  case neg =>
    have hRs := Lib.hid (psC_not h1' (by rw [← hLd, List.length_map]; exact h6))
    have i6 : ((L.length : Int) != 6) = true := by rw [bne_iff_ne]; omega
    clear h6 hLd hL h1' hsl h1 hLz
    go_enter Tryd.func8, Tryd.ntmps8
    go_wp2_with fail
    (with_reducible refine (splitP 32 _ (Lib.hid rfl) s _ (hM.below HF0.out.bel) hs HL).mono ?_); rintro e w1 ⟨⟨A1, rfl, hr1⟩, hb1⟩
    have hF1 := HF0.out.go hb1
    obtain ⟨⟨o0, o1, o2⟩, ⟨f0, f1, f2⟩, hlt0⟩ := outC hF1
    have hB := hF1.bel
    clear hF1 hb1 hr1
    go_wp2
    refine bodyPost_ret (v := .tuple #[cfV 0 0 0, .int .i64 6]) (by simp [results, go_sem, o0, o1, o2]) rfl ⟨by rw [hRs.out], ?_⟩
    repeat' (first | with_reducible exact hB | with_reducible refine bs ?_ ?_ | (simp only; omega))
  case pos =>
  obtain ⟨k1, a, k2, b, k3, c, rfl⟩ := six_of h6
  have hz : a.size ≤ 100 ∧ b.size ≤ 100 ∧ c.size ≤ 100 := ⟨hLz a (by simp), hLz b (by simp), hLz c (by simp)⟩
  have hps := psC_six h1' (show pts 32 [] s.data.toList = [dat k1, dat a, dat k2, dat b, dat k3, dat c] from hLd.symm)
  clear hLd hL h1' hsl h1 hLz h6
  by_cases hk1 : dat k1 = kwB
  case neg =>
    have hRs := Lib.hid (hps.trans (six_kw (fun h => hk1 h.1)))
    have q1 := str_ne (l := [98, 108, 111, 99, 107]) hk1
    clear hk1 hps
    go_enter Tryd.func8, Tryd.ntmps8
    go_wp2_with fail
    (with_reducible refine (splitP 32 _ (Lib.hid rfl) s _ (hM.below HF0.out.bel) hs HL).mono ?_); rintro e w1 ⟨⟨A1, rfl, hr1⟩, hb1⟩
    have hF1 := HF0.out.go hb1
    obtain ⟨bk, off, rfl, hbk, c0, c1, c2, c3, c4, c5⟩ := six_cells hr1
    obtain ⟨⟨o0, o1, o2⟩, ⟨f0, f1, f2⟩, hlt0⟩ := outC hF1
    have hB := hF1.bel
    clear hF1 hb1 hr1
    go_wp2
    refine bodyPost_ret (v := .tuple #[cfV 0 0 0, .int .i64 6]) (by simp [results, go_sem, o0, o1, o2]) rfl ⟨by rw [hRs.out], ?_⟩
    repeat' (first | with_reducible exact hB | with_reducible refine bs ?_ ?_ | (simp only; omega))
  case pos =>
  have q1 := str_eq (l := [98, 108, 111, 99, 107]) hk1
  by_cases hk2 : dat k2 = kwK
  case neg =>
    have hRs := Lib.hid (hps.trans (six_kw (fun h => hk2 h.2.1)))
    have q2 := str_ne (l := [107, 101, 101, 112]) hk2
    clear hk1 hk2 hps
    go_enter Tryd.func8, Tryd.ntmps8
    go_wp2_with fail
    (with_reducible refine (splitP 32 _ (Lib.hid rfl) s _ (hM.below HF0.out.bel) hs HL).mono ?_); rintro e w1 ⟨⟨A1, rfl, hr1⟩, hb1⟩
    have hF1 := HF0.out.go hb1
    obtain ⟨bk, off, rfl, hbk, c0, c1, c2, c3, c4, c5⟩ := six_cells hr1
    obtain ⟨⟨o0, o1, o2⟩, ⟨f0, f1, f2⟩, hlt0⟩ := outC hF1
    have hB := hF1.bel
    clear hF1 hb1 hr1
    go_wp2
    refine bodyPost_ret (v := .tuple #[cfV 0 0 0, .int .i64 6]) (by simp [results, go_sem, o0, o1, o2]) rfl ⟨by rw [hRs.out], ?_⟩
    repeat' (first | with_reducible exact hB | with_reducible refine bs ?_ ?_ | (simp only; omega))
  case pos =>
  have q2 := str_eq (l := [107, 101, 101, 112]) hk2
  by_cases hk3 : dat k3 = kwL
  case neg =>
    have hRs := Lib.hid (hps.trans (six_kw (fun h => hk3 h.2.2)))
    have q3 := str_ne (l := [108, 105, 109, 105, 116]) hk3
    clear hk1 hk2 hk3 hps
    go_enter Tryd.func8, Tryd.ntmps8
    go_wp2_with fail
    (with_reducible refine (splitP 32 _ (Lib.hid rfl) s _ (hM.below HF0.out.bel) hs HL).mono ?_); rintro e w1 ⟨⟨A1, rfl, hr1⟩, hb1⟩
    have hF1 := HF0.out.go hb1
    obtain ⟨bk, off, rfl, hbk, c0, c1, c2, c3, c4, c5⟩ := six_cells hr1
    obtain ⟨⟨o0, o1, o2⟩, ⟨f0, f1, f2⟩, hlt0⟩ := outC hF1
    have hB := hF1.bel
    clear hF1 hb1 hr1
    go_wp2
    refine bodyPost_ret (v := .tuple #[cfV 0 0 0, .int .i64 6]) (by simp [results, go_sem, o0, o1, o2]) rfl ⟨by rw [hRs.out], ?_⟩
    repeat' (first | with_reducible exact hB | with_reducible refine bs ?_ ?_ | (simp only; omega))
  case pos =>
  have q3 := str_eq (l := [108, 105, 109, 105, 116]) hk3
  have hform : ∀ x ∈ [a, b, c], decL x.data.toList = false → psC s.data.toList = ((0, 0, 0), 6) := by
    intro x hx hd
    refine hps.trans (six_form ⟨hk1, hk2, hk3⟩ ?_)
    rintro ⟨h1, h2, h3⟩
    simp only [List.mem_cons, List.not_mem_nil, or_false] at hx
    rcases hx with rfl | rfl | rfl
    · rw [hd] at h1; cases h1
    · rw [hd] at h2; cases h2
    · rw [hd] at h3; cases h3
  have hfine : (∀ x ∈ [a, b, c], decL x.data.toList = true) → psC s.data.toList = okP a.data.toList b.data.toList c.data.toList := fun h => hps.trans (six_ok ⟨hk1, hk2, hk3⟩ ⟨h a (by simp), h b (by simp), h c (by simp)⟩)
  have Hform := Lib.hid hform
  have Hfine := Lib.hid hfine
  obtain ⟨P, hP⟩ : ∃ P, P = [a, b, c] := ⟨_, rfl⟩
  have hPl : P.length = 3 := by rw [hP]; rfl
  have HPz : Hid (∀ x ∈ P, x.size ≤ 100) := Lib.hid (by rw [hP]; intro x hx; simp only [List.mem_cons, List.not_mem_nil, or_false] at hx; rcases hx with rfl | rfl | rfl <;> omega)
  have HPp := Lib.hid hP
  clear hform hfine hps hk1 hk2 hk3 hz hP
  go_enter Tryd.func8, Tryd.ntmps8
  go_wp2_with fail
  (with_reducible refine (splitP 32 _ (Lib.hid rfl) s _ (hM.below HF0.out.bel) hs HL).mono ?_); rintro e w1 ⟨⟨A1, rfl, hr1⟩, hb1⟩
  have HF1 := Lib.hid (HF0.out.go hb1)
  obtain ⟨bk, off, rfl, hbk, c0, c1, c2, c3, c4, c5⟩ := six_cells hr1
  clear hb1 hr1 HF0 HL
  go_upto_region 8 with fail
  go_cut [49, 50, 51] (fun s49 s50 s51 wx => (∃ g, s49 = .slice (some ⟨g, 0, none⟩) 3 3 ∧ s50 = .int .i64 3 ∧ s51 = .int .i64 0 ∧ wx.heap[g]? = some (.cells #[.string a, .string b, .string c] 9 (0, 0))) ∧ Fr w [(w.heap.size, cfZ)] wx)
  case first =>
    have hF1 := HF1.out
    go_wp2
    go_region
    all_goals
      go_wp2
      go_meet
      first
        | exact ⟨⟨_, rfl, rfl, rfl, alloc1_new _ _⟩, (hF1.al _).drew⟩
        | exact ⟨⟨_, rfl, rfl, rfl, alloc1_new _ _⟩, (hF1.drew).al _⟩
  case rest =>
  obtain ⟨⟨g, rfl, rfl, rfl, hg⟩, hF2⟩ := hcut
  have hrP : Reads wc wc.heap.size 1 (some ⟨g, 0, none⟩) 3 (Ssb P) := by
    have := reads_blkN (size := 1) (n := 3) (w := wc) (g := g) (cs := Ssb [a, b, c]) hg rfl
    rw [HPp.out]; exact this
  have HrP := Lib.hid hrP
  have HF2 := Lib.hid hF2
  clear hg hF2 hrP HF1 c0 c1 c2 c3 c4 c5 hbk q1 q2 q3
  go_wp2
  go_loopw [5, 6, 51] (fun v fr i wr => ∃ k : Nat, k ≤ 3 ∧ i = .int .i64 k ∧ fr = .int .i64 (farI (P.take k)) ∧ Below wc.heap.size wc wr ∧ wr.ownsRow wc.heap.size 2 1 v k (i64s (P.take k)) ∧ Hid (∀ x ∈ P.take k, decL x.data.toList = true)) (fun _ _ i _ => 3 - (intOf i).toNat)
  case atStart => exact ⟨0, Nat.zero_le _, rfl, rfl, Below.refl _ _, World.ownsRow_nil _ _ _ _, Lib.hid (by simp)⟩
  case round =>
    obtain ⟨k, hk, rfl, rfl, hbl, hown, hall⟩ := hrel
    by_cases hlt : k < 3
    case pos =>
      have i2 : (k : Int) < 3 := by omega
      have hkP : k < P.length := by omega
      obtain ⟨g', off', hA, hg', hcell⟩ := sbAt HrP.out hPl.symm hkP
      injection hA with hA; injection hA with a1 a2; subst a1 a2
      have hcell := (hbl.cell (p := ⟨g, 0 + k, none⟩) hg').trans hcell
      rw [Nat.zero_add] at hcell
      obtain ⟨x, hx⟩ : ∃ x, x = P[k] := ⟨_, rfl⟩
      rw [← hx] at hcell
      have hxm : x ∈ P := by rw [hx]; exact List.getElem_mem hkP
      have hxz : x.size ≤ 1000000 := by have := HPz.out x hxm; omega
      have htk : P.take (k + 1) = P.take k ++ [x] := by rw [hx]; exact take_P hkP
      have hF3 := Lib.hid (HF2.out.go hbl)
      rcases hd : decL x.data.toList with _ | _
      · have hRs := Lib.hid (Hform.out x (by rw [← HPp.out]; exact hxm) hd)
        have hq := Lib.hid (intR_form hd (-1) 1000000)
        clear hx hxm htk hd hown
        go_wp2_with fail
        (with_reducible refine (cInt x 0 6 _ (hR.below hF3.out.bel) hxz hq).mono ?_); rintro e w4 ⟨rfl, hb4⟩
        have hF4 := hF3.out.go hb4
        obtain ⟨⟨o0, o1, o2⟩, ⟨f0, f1, f2⟩, hlt0⟩ := outC hF4
        have hB := hF4.bel
        clear hF4 hb4
        go_wp2
        refine bodyPost_ret (v := .tuple #[cfV 0 0 0, .int .i64 6]) (by simp [results, go_sem, o0, o1, o2]) rfl ⟨by rw [hRs.out], ?_⟩
        repeat' (first | with_reducible exact hB | with_reducible refine bs ?_ ?_ | (simp only; omega))
      · have hall2 := Lib.hid (show ∀ y ∈ P.take (k + 1), decL y.data.toList = true by
          rw [htk]; intro y hy
          rcases List.mem_append.1 hy with hy | hy
          · exact hall.out y hy
          · rw [List.mem_singleton.1 hy]; exact hd)
        rcases int_cases hd with ⟨hq, hq1, hq2⟩ | ⟨hq, hq1⟩
        · have hn : nR x = intL x.data.toList := by unfold nR; rw [hq]
          have ho : oR x = false := by unfold oR; rw [hq]; rfl
          have hfar := Lib.hid (show farI (P.take (k + 1)) = farI (P.take k) by rw [htk]; exact farI_in ho)
          have hrow := Lib.hid (show i64s (P.take (k + 1)) = i64s (P.take k) ++ [.int .i64 (intL x.data.toList)] by rw [htk, i64s_snoc, hn])
          have Hq := Lib.hid hq
          clear hx hxm htk hd hq hq1 hq2 hn ho
          generalize intL x.data.toList = n at *
          go_wp2_with fail
          (with_reducible refine (cInt x n 0 _ (hR.below hF3.out.bel) hxz Hq).mono ?_); rintro e w4 ⟨rfl, hb4⟩
          have hO := own_below hown hb4
          have hB4 := bt hbl hb4
          go_wp2_with (at_builtin; refine wpList_ap i64El (w0 := wc) (hO.alloc _) (ba hB4 _) [.int .i64 n] (alloc1_new _ _) ?_)
          intro g5 cap5 w5 ho5 hb5 hg5
          go_wp2
          go_roundw
          case rel => exact ⟨k + 1, by omega, by go_num, by rw [hfar.out], hb5, by rw [hrow.out]; exact ho5, hall2⟩
          case measure => (simp [intOf]) <;> omega
        · have hn : nR x = 0 := by unfold nR; rw [hq]
          have ho : oR x = true := by unfold oR; rw [hq]; rfl
          have hfar := Lib.hid (show farI (P.take (k + 1)) = 7 by rw [htk]; exact farI_out ho)
          have hrow := Lib.hid (show i64s (P.take (k + 1)) = i64s (P.take k) ++ [.int .i64 0] by rw [htk, i64s_snoc, hn])
          have Hq := Lib.hid hq
          clear hx hxm htk hd hq hq1 hn ho
          go_wp2_with fail
          (with_reducible refine (cInt x 0 7 _ (hR.below hF3.out.bel) hxz Hq).mono ?_); rintro e w4 ⟨rfl, hb4⟩
          have hO := own_below hown hb4
          have hB4 := bt hbl hb4
          go_wp2_with (at_builtin; refine wpList_ap i64El (w0 := wc) (hO.alloc _) (ba hB4 _) [.int .i64 0] (alloc1_new _ _) ?_)
          intro g5 cap5 w5 ho5 hb5 hg5
          go_wp2
          go_roundw
          case rel => exact ⟨k + 1, by omega, by go_num, by rw [hfar.out], hb5, by rw [hrow.out]; exact ho5, hall2⟩
          case measure => (simp [intOf]) <;> omega
    case neg =>
      have i2 : ¬ ((k : Int) < 3) := by omega
      obtain rfl : k = 3 := by omega
      have hpt : P.take 3 = P := List.take_of_length_le (by omega)
      rw [hpt] at hown hall ⊢
      have hall3 : ∀ y ∈ [a, b, c], decL y.data.toList = true := by rw [← HPp.out]; exact hall.out
      have hps := Hfine.out hall3
      have hfo := farI_or P
      obtain ⟨A5, c5', rfl, hr5, hc5, hm5⟩ := own_sl hown
      rw [HPp.out] at hr5
      obtain ⟨b5, f5, rfl, hb5, n0, n1, n2⟩ := three_cells (x := .int .i64 (nR a)) (y := .int .i64 (nR b)) (z := .int .i64 (nR c)) hr5
      have HF3 := Lib.hid (HF2.out.go hbl)
      have hlt3 := HF3.out.lt (g := w.heap.size) (o := cfZ) (by simp)
      obtain ⟨x, hx⟩ : ∃ x, x = nR a := ⟨_, rfl⟩
      obtain ⟨y, hy⟩ : ∃ y, y = nR b := ⟨_, rfl⟩
      obtain ⟨z, hz⟩ : ∃ z, z = nR c := ⟨_, rfl⟩
      rw [← hx] at n0
      rw [← hy] at n1
      rw [← hz] at n2
      rcases hfo with ⟨hf1, hf2⟩ | ⟨hf1, hf2⟩
      · have hRs := Lib.hid (hps.trans (okP_far (hall3 a (by simp)) (hall3 b (by simp)) (hall3 c (by simp)) (by rw [← HPp.out]; exact hf1)))
        rw [hf2]
        clear hps hall3 hf1 hf2 hown hr5 hall hpt hx hy hz
        go_upto_region 19 with fail
        go_cut [11] (fun q wx => ∃ g2, q = .pointer (some ⟨g2, 0, none⟩) ∧ w.heap.size < g2 ∧ Fr w [(g2, .cells #[.int .i64 x, .int .i64 y, .int .i64 z] 23 (0, 0)), (w.heap.size, cfZ)] wx)
        case first =>
          have hF3 := HF3.out
          go_wp2
          go_region
          all_goals
            go_wp2
            go_meet
            first
              | exact ⟨_, rfl, hlt3, (hF3.new _).drew⟩
              | exact ⟨_, rfl, hlt3, hF3.drew.new _⟩
        case rest =>
        obtain ⟨g2, rfl, hg2, hF5⟩ := hcut
        have a2 := hF5.at (g := g2) List.mem_cons_self
        obtain ⟨p0, p1, p2⟩ : _ ∧ _ ∧ _ := ⟨Lib.cell_of_heap a2 0, Lib.cell_of_heap a2 1, Lib.cell_of_heap a2 2⟩
        have HF5 := Lib.hid hF5
        clear hF5 a2 n0 n1 n2 hb5 hbl HF3 HF2 HrP
        obtain ⟨⟨o0, o1, o2⟩, ⟨f0, f1, f2⟩, hlt0⟩ := outC (HF5.out.sub (by simp))
        have hB := HF5.out.bel
        go_wp2
        refine bodyPost_ret (v := .tuple #[cfV 0 0 0, .int .i64 7]) (by simp [results, go_sem, o0, o1, o2]) rfl ⟨by rw [hRs.out], ?_⟩
        repeat' (first | with_reducible exact hB | with_reducible refine bs ?_ ?_ | (simp only; omega))
      · have hps := hps.trans (okP_near (hall3 a (by simp)) (hall3 b (by simp)) (hall3 c (by simp)) (by rw [← HPp.out]; exact hf1))
        rw [← hx, ← hy, ← hz] at hps
        have Hps := Lib.hid hps
        rw [hf2]
        clear hps hall3 hf1 hf2 hown hr5 hall hpt hx hy hz
        go_upto_region 19 with fail
        go_cut [11] (fun q wx => ∃ g2, q = .pointer (some ⟨g2, 0, none⟩) ∧ w.heap.size < g2 ∧ Fr w [(g2, .cells #[.int .i64 x, .int .i64 y, .int .i64 z] 23 (0, 0)), (w.heap.size, cfZ)] wx)
        case first =>
          have hF3 := HF3.out
          go_wp2
          go_region
          all_goals
            go_wp2
            go_meet
            first
              | exact ⟨_, rfl, hlt3, (hF3.new _).drew⟩
              | exact ⟨_, rfl, hlt3, hF3.drew.new _⟩
        case rest =>
        obtain ⟨g2, rfl, hg2, hF5⟩ := hcut
        have a2 := hF5.at (g := g2) List.mem_cons_self
        obtain ⟨p0, p1, p2⟩ : _ ∧ _ ∧ _ := ⟨Lib.cell_of_heap a2 0, Lib.cell_of_heap a2 1, Lib.cell_of_heap a2 2⟩
        have HF5 := Lib.hid hF5
        clear hF5 a2 n0 n1 n2 hb5 hbl HF3 HF2 HrP
        by_cases hok : OkC x y z
        · have hRs := Lib.hid (Hps.out.trans (if_pos hok))
          have He := Lib.hid (errC_yes hok)
          clear hok Hps
          go_wp2_with fail
          (with_reducible refine (ccheck x y z _).mono ?_); rintro e w6 ⟨rfl, hb6⟩
          rw [He.out]
          have hF6 := HF5.out.go hb6
          have a2 := hF6.at (g := g2) List.mem_cons_self
          obtain ⟨p0', p1', p2'⟩ : _ ∧ _ ∧ _ := ⟨Lib.cell_of_heap a2 0, Lib.cell_of_heap a2 1, Lib.cell_of_heap a2 2⟩
          obtain ⟨⟨o0, o1, o2⟩, ⟨f0, f1, f2⟩, hlt0⟩ := outC (hF6.sub (by simp))
          have hB := hF6.bel
          clear p0 p1 p2 a2 hF6 hb6
          go_wp2
          refine bodyPost_ret (v := .tuple #[cfV x y z, .int .i64 0]) (by simp [results, go_sem, o0, o1, o2]) rfl ⟨by rw [hRs.out], ?_⟩
          repeat' (first | with_reducible exact hB | with_reducible refine bs ?_ ?_ | (simp only; omega))
        · have hRs := Lib.hid (Hps.out.trans (if_neg hok))
          have He := Lib.hid (errC_no hok)
          clear hok Hps
          go_wp2_with fail
          (with_reducible refine (ccheck x y z _).mono ?_); rintro e w6 ⟨rfl, hb6⟩
          rw [He.out]
          have hF6 := HF5.out.go hb6
          obtain ⟨⟨o0, o1, o2⟩, ⟨f0, f1, f2⟩, hlt0⟩ := outC (hF6.sub (by simp))
          have hB := hF6.bel
          clear p0 p1 p2 hF6 hb6
          go_wp2
          refine bodyPost_ret (v := .tuple #[cfV 0 0 0, .int .i64 7]) (by simp [results, go_sem, o0, o1, o2]) rfl ⟨by rw [hRs.out], ?_⟩
          repeat' (first | with_reducible exact hB | with_reducible refine bs ?_ ?_ | (simp only; omega))
end Go.Proofs.YtljmidaapgppfaaDoor
