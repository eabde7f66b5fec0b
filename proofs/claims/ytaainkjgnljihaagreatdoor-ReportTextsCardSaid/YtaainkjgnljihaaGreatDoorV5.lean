/- Reports' texts: Parse of the reference. No condition. -/
import Derived.Test.YtaainkjgnljihaaGreatDoorV6
import Derived.Deep.DeepCutAuto
namespace Go.Proofs.YtaainkjgnljihaaGreatDoor
open Go.RowKit
theorem lns_sz : ∀ (l cur x : List UInt8), x ∈ lns cur l → x.length ≤ cur.length + l.length
  | [], cur, x, h => by simp [lns] at h
  | c :: t, cur, x, h => by
    by_cases hc : c = 10
    · subst hc
      rw [lns_hit] at h
      rcases List.mem_cons.1 h with rfl | h
      · simp
      · have := lns_sz t [] x h
        simp at this ⊢; omega
    · rw [lns_other hc] at h
      have := lns_sz t _ x h
      simp at this ⊢; omega
theorem lines_sz {s : ByteArray} {L : List ByteArray} {er : Int} (h : linesL s = (L, er)) : ∀ x ∈ L, x.size ≤ s.size := by
  have h1 : (linesL s).1 = L := by rw [h]
  unfold linesL at h1
  intro x hx
  repeat' split at h1
  all_goals first
    | (subst h1; cases hx)
    | (subst h1
       unfold lnsB at hx
       obtain ⟨y, hy, rfl⟩ := List.mem_map.1 hx
       have := lns_sz _ _ _ hy
       simp at this
       show y.length ≤ _
       exact this)
theorem rowO (x word : ByteArray) (wl : List UInt8) (hwl : Hid (word.data.toList = wl)) (m : Int) (many : Nat) (hmm : Hid (m = (many : Int))) (hm : many ≤ 10) (w : World) (hx : x.size ≤ 1099511627776) {o : Option (List Int)} (ho : Hid (lineN wl many x.data.toList = o)) :
    Calls Tryz.prog 27 #[.string x, .string word, .int .i64 m] w (RetNs w o) := by
  obtain rfl := hmm.out
  have := rrow_ x word many hm w hx
  rw [hwl.out, ho.out] at this
  exact this
abbrev rp00 : Obj := rpO (.slice none 0 0) (.bool false) (.int .i64 0)
/-- what the loop has read -/
structure RfT (w w1 : World) (L : List ByteArray) (bR : Nat) (n d : Int) (acc : List Hit) (A : Option Addr) (c : Nat) (wr : World) : Prop where
  fr : Fr w [(bR, repO A acc.length c (decide (0 < d)) d), (w.heap.size, rp00)] wr
  own : wr.ownsRow w1.heap.size 34 2 (.slice A acc.length c) acc.length (hits acc)
  rel : PaRel L n.toNat d acc
  n0 : 0 ≤ n
  n1 : n ≤ 1000000000
def RfI (w w1 : World) (L : List ByteArray) (bR j : Nat) (wt : Int) (wr : World) : Prop :=
  Below w1.heap.size w1 wr ∧ ((j = 0 ∧ wt = 0 ∧ Fr w [(bR, rp00), (w.heap.size, rp00)] wr) ∨ (j = 1 ∧ nxO L 0 wHits 1 = some [wt] ∧ Fr w [(bR, rp00), (w.heap.size, rp00)] wr) ∨ (∃ d acc A c, j = acc.length + 2 ∧ RfT w w1 L bR wt d acc A c wr))
theorem fr_ov2 {w W : World} {bR : Nat} {Ls : List (Nat × Obj)} {x : Value} {b b' : Value} {d d' : Value} (h : Fr w ((bR, rpO x b' d') :: Ls) W) (hg : w.heap.size ≤ bR) (hL : ∀ q ∈ Ls, q.1 ≠ bR) :
    Fr w ((bR, rpO x b d) :: Ls) ((W.setCell ⟨bR, 2, none⟩ d).setCell ⟨bR, 1, none⟩ b) := (h.set hg hL 2 d).set hg hL 1 b
/-- behind an append of the reference's: what lay lies -/
theorem ra_fr {w w1 W w4 : World} {Ls : List (Nat × Obj)} {x : Obj} {v : Value} (h : Fr w Ls W) (hw : w.heap.size < w1.heap.size) (hb1 : Below w.heap.size w w1) (hb : Below w1.heap.size w1 w4) (hg : (W.drew.alloc x).grownBy w4 v.ownBlock) (hne : ∀ p ∈ Ls, v.ownBlock ≠ some p.1) : Fr w Ls w4 :=
  Fr.grown (h.drew.al x) (hb1.trans (hb.mono (by omega))) hg hne
theorem ra_cell {w w1 W w4 : World} {bR c n : Nat} {Ls : List (Nat × Obj)} {A : Option Addr} {o : Bool} {d : Int} {x : Obj} {v : Value} (h : Fr w ((bR, repO A n c o d) :: Ls) W) (hw : w.heap.size < w1.heap.size) (hb1 : Below w.heap.size w w1) (hb : Below w1.heap.size w1 w4) (hg : (W.drew.alloc x).grownBy w4 v.ownBlock)
    (hne : ∀ p ∈ (bR, repO A n c o d) :: Ls, v.ownBlock ≠ some p.1) : w4.cell? ⟨bR, 0, none⟩ = some (.slice A n c) ∧ w4.frozen? ⟨bR, 0, none⟩ = false := by
  have hF := (ra_fr h hw hb1 hb hg hne).at List.mem_cons_self
  exact ⟨Lib.cell_of_heap hF 0, Lib.frozen_of_heap hF 0⟩
theorem ra_app {w w1 W w4 : World} {bR c g4 cap4 : Nat} {A : Option Addr} {l : List Hit} {E I : Int} {o : Bool} {d : Int} {x : Obj} {v : Value} (h : Fr w [(bR, repO A l.length c o d), (w.heap.size, rp00)] W) (hw : w.heap.size < w1.heap.size) (hb1 : Below w.heap.size w w1) (hR : w1.heap.size = bR)
    (hO : w4.ownsRow w1.heap.size 34 2 (.slice (some ⟨g4, 0, none⟩) (l.length + 1) cap4) (l.length + 1) (hits l ++ [.int .i64 E, .int .i64 I])) (hb : Below w1.heap.size w1 w4) (hg : (W.drew.alloc x).grownBy w4 v.ownBlock) (hne : ∀ p ∈ [((bR, repO A l.length c o d) : Nat × Obj), (w.heap.size, rp00)], v.ownBlock ≠ some p.1) :
    Fr w [(bR, repO (some ⟨g4, 0, none⟩) (l.length + 1) cap4 o d), (w.heap.size, rp00)] (w4.setCell ⟨bR, 0, none⟩ (.slice (some ⟨g4, 0, none⟩) (l.length + 1) cap4)) ∧
      (w4.setCell ⟨bR, 0, none⟩ (.slice (some ⟨g4, 0, none⟩) (l.length + 1) cap4)).ownsRow w1.heap.size 34 2 (.slice (some ⟨g4, 0, none⟩) (l.length + 1) cap4) (l.length + 1) (hits (l ++ [(E, I)])) ∧
      Below w1.heap.size w1 (w4.setCell ⟨bR, 0, none⟩ (.slice (some ⟨g4, 0, none⟩) (l.length + 1) cap4)) := by
  have hF := ra_fr h hw hb1 hb hg hne
  have hO5 : w4.ownsRow w1.heap.size 34 2 (.slice (some ⟨g4, 0, none⟩) (l.length + 1) cap4) (l.length + 1) (hits (l ++ [(E, I)])) := by
    rw [hits_app]; exact hO
  exact ⟨hF.set (by omega) (by intro q hq; simp at hq; rcases hq with rfl; simp; omega) 0 (.slice (some ⟨g4, 0, none⟩) (l.length + 1) cap4), own_set hO5 _ _ (own_blk_ne hO5 (hF.at List.mem_cons_self) (by decide)), hb.setCell (by simp only; omega) _⟩
set_option maxRecDepth 100000 in
set_option maxHeartbeats 8000000 in
theorem rparse_ (s : ByteArray) (k : Int) (w : World) (hs : s.size ≤ 1000000000) :
    Calls Tryz.prog 8 #[.string s, .int .i64 k] w (RetPar w (psR s k)) := by
  have HF0 := Lib.hid ((Fr.start w).newN rfl rp00)
  by_cases hcap : capK k = true
  case neg =>
    have hcap : capK k = false := by simpa using hcap
    have Hq := Lib.hid (psR_cap (s := s) hcap)
    have Hc := Lib.hid hcap.symm
    clear hcap
    go_enter Tryz.func8, Tryz.ntmps8
    go_wp2_with fail
    (with_reducible refine (capacity_ k false Hc _).mono ?_); rintro e w' ⟨rfl, rfl⟩
    go_wp2
    refine bodyPost_ret (v := .tuple #[repV none 0 0 false 0, .int .i64 (-1), .int .i64 7]) (by simp [results, go_sem]) rfl (RetPar.no Hq.out ?_)
    exact HF0.out.bel
  have Hc := Lib.hid hcap.symm
  rcases hq : linesL s with ⟨L, er⟩
  have hsz := Lib.hid (lines_sz hq)
  have Hln : Hid (Calls Tryz.prog 26 #[.string s] (w.alloc rp00) (RetSl (w.alloc rp00) 1 (Ss L) L.length er)) := Lib.hid (by
    have h1 := rlines_ s (w.alloc rp00) hs
    rw [hq] at h1
    exact h1)
  by_cases her : er = 0
  case neg =>
    have Hq := Lib.hid (psR_lines hcap hq her)
    have e1 : (er != 0) = true := by simpa using her
    clear hq her hcap
    go_enter Tryz.func8, Tryz.ntmps8
    go_wp2_with fail
    (with_reducible refine (capacity_ k true Hc _).mono ?_); rintro e w' ⟨rfl, rfl⟩
    go_wp2_with fail
    (with_reducible refine (Hln.out).mono ?_); rintro e w1 ⟨A0, c0, rfl, hb1, hr1, hc1, hc2⟩
    have hF := HF0.out.go hb1
    clear hb1 hr1
    have hO := hF.at (g := w.heap.size) (o := rp00) (by simp)
    obtain ⟨o0, o1, o2⟩ : _ ∧ _ ∧ _ := ⟨Lib.cell_of_heap hO 0, Lib.cell_of_heap hO 1, Lib.cell_of_heap hO 2⟩
    obtain ⟨f0, f1, f2⟩ : _ ∧ _ ∧ _ := ⟨Lib.frozen_of_heap hO 0, Lib.frozen_of_heap hO 1, Lib.frozen_of_heap hO 2⟩
    have hlt := heap_lt hO
    have hB := hF.bel
    clear hO
    go_wp2
    refine bodyPost_ret (v := .tuple #[repV none 0 0 false 0, .int .i64 0, .int .i64 er]) (by simp [results, go_sem, o0, o1, o2]) rfl (RetPar.no Hq.out ?_)
    repeat' (first | with_reducible exact hB | with_reducible refine bd ?_ _ | with_reducible refine Below.drew ?_ | with_reducible refine bs ?_ ?_ | (simp only; omega))
  subst her
  have hll : L.length ≤ 5000 := by
    have h1 : (linesL s).1 = L := by rw [hq]
    unfold linesL at h1
    repeat' split at h1
    all_goals first
      | (subst h1; simp only; omega)
      | (subst h1; simp)
  have HQF := Lib.hid (fun (p : Nat) (h : psL L = (p, [], 0)) (h0 : p ≠ 0) => psR_form hcap hq h h0)
  have HQC := Lib.hid (fun (l : List Hit) (d : Int) (h : psL L = (0, l, d)) h0 => psR_chk hcap hq h h0)
  have HQO := Lib.hid (fun (l : List Hit) (d : Int) (h : psL L = (0, l, d)) h0 => psR_ok hcap hq h h0)
  clear hq hcap
  go_enter Tryz.func8, Tryz.ntmps8
  go_wp2_with fail
  (with_reducible refine (capacity_ k true Hc _).mono ?_); rintro e w' ⟨rfl, rfl⟩
  go_wp2_with fail
  (with_reducible refine (Hln.out).mono ?_); rintro e w1 ⟨A0, c0, rfl, hb1, hr1, hc1, hc2⟩
  have hF1 := HF0.out.go hb1
  have hlt0 := hF1.lt (g := w.heap.size) List.mem_cons_self
  obtain ⟨bR, hbR⟩ : ∃ bR, w1.heap.size = bR := ⟨_, rfl⟩
  have hI0 : RfI w w1 L bR 0 0 (w1.alloc rp00) := ⟨(Below.refl _ _).alloc (Nat.le_refl _) _, .inl ⟨rfl, rfl, hF1.newN hbR rp00⟩⟩
  have HR1 := Lib.hid hr1
  have Hb1 := Lib.hid (HF0.out.go hb1).bel
  have hne : w.heap.size < bR := by omega
  have HI0 := Lib.hid hI0
  have hbR' := Lib.hid hbR
  clear hF1 hr1 hb1 Hln HF0 hI0 hbR
  go_wp2
  rw [hbR'.out]
  go_loopw [10, 11] (fun v i wr => ∃ (j : Nat) (wt : Int), i = .int .i64 j ∧ v = .int .i64 wt ∧ j ≤ L.length ∧ RfI w w1 L bR j wt wr) (fun _ i _ => L.length - (intOf i).toNat)
  case atStart => exact ⟨0, 0, rfl, rfl, Nat.zero_le _, HI0.out⟩
  case round =>
    clear HI0
    obtain ⟨j, wt, rfl, rfl, hjl, hbw, hI⟩ := hrel
    have HB := Lib.hid hbw
    rcases hI with ⟨rfl, rfl, hF⟩ | ⟨rfl, h1, hF⟩ | ⟨d, acc, A, c, rfl, hT⟩
    · by_cases hjl2 : 0 < L.length
      case neg =>
        obtain rfl : L = [] := List.eq_nil_of_length_eq_zero (by omega)
        have Hq := Lib.hid (HQF.out 1 (psL_1 (nxO_over _ _ (by simp))) (by omega))
        have m1 : (0 : Int) < max 0 2 := by decide
        clear hjl2 hbw HB
        have hO := hF.at (g := w.heap.size) (o := rp00) (by simp)
        obtain ⟨o0, o1, o2⟩ : _ ∧ _ ∧ _ := ⟨Lib.cell_of_heap hO 0, Lib.cell_of_heap hO 1, Lib.cell_of_heap hO 2⟩
        obtain ⟨f0, f1, f2⟩ : _ ∧ _ ∧ _ := ⟨Lib.frozen_of_heap hO 0, Lib.frozen_of_heap hO 1, Lib.frozen_of_heap hO 2⟩
        have hlt := heap_lt hO
        have hB := hF.bel
        clear hO
        go_wp2
        refine bodyPost_ret (v := .tuple #[repV none 0 0 false 0, .int .i64 1, .int .i64 6]) (by simp [results, go_sem, o0, o1, o2]) rfl (RetPar.no Hq.out ?_)
        repeat' (first | with_reducible exact hB | with_reducible refine bd ?_ _ | with_reducible refine Below.drew ?_ | with_reducible refine bs ?_ ?_ | (simp only; omega))
      case pos =>
        have hn0 : ¬ L = [] := by intro e; rw [e] at hjl2; cases hjl2
        have m1 : (0 : Int) < max (L.length : Int) 2 := by omega
        have i1 : (0 : Int) < (L.length : Int) := by omega
        obtain ⟨bk, off, rfl, hbb, dd⟩ := strAt2 (HR1.out.below hbw) hjl2
        have hbk : bk < wr.heap.size := Nat.lt_of_lt_of_le hbb hbw.size
        rw [Nat.add_zero] at dd
        have hxz : L[0].size ≤ 1099511627776 := by have := hsz.out L[0] (List.getElem_mem hjl2); omega
        have hnx := Lib.hid (nxO_at wHits 1 (List.getElem?_eq_getElem hjl2))
        generalize L[0] = x at *
        have HF := Lib.hid (hF.al (.cells #[.string ⟨#[104, 105, 116, 115]⟩, .string ⟨#[100, 114, 111, 112, 112, 101, 100]⟩] 9 (0, 0)))
        have hbw2 := hbw.alloc hbw.size (.cells #[.string ⟨#[104, 105, 116, 115]⟩, .string ⟨#[100, 114, 111, 112, 112, 101, 100]⟩] 9 (0, 0))
        rcases h2 : nxO L 0 wHits 1 with _ | ns
        · have Hq := Lib.hid (HQF.out 1 (psL_1 h2) (by omega))
          have Hrow := Lib.hid (fun W => rowO x ⟨#[104, 105, 116, 115]⟩ wHits (Lib.hid rfl) 1 1 (Lib.hid rfl) (by omega) W hxz (Lib.hid (hnx.out.symm.trans h2)))
          clear h2 hnx hF hbw2
          go_wp2_with fail
          (with_reducible refine (Hrow.out _).mono ?_); rintro e w5 hh
          obtain ⟨⟨v, rfl⟩, hb5⟩ := RetNs.none_ hh
          have hF := HF.out.go hb5
          clear hh hb5 dd Hrow
          have hO := hF.at (g := w.heap.size) (o := rp00) (by simp)
          obtain ⟨o0, o1, o2⟩ : _ ∧ _ ∧ _ := ⟨Lib.cell_of_heap hO 0, Lib.cell_of_heap hO 1, Lib.cell_of_heap hO 2⟩
          obtain ⟨f0, f1, f2⟩ : _ ∧ _ ∧ _ := ⟨Lib.frozen_of_heap hO 0, Lib.frozen_of_heap hO 1, Lib.frozen_of_heap hO 2⟩
          have hlt := heap_lt hO
          have hB := hF.bel
          clear hO
          go_wp2
          refine bodyPost_ret (v := .tuple #[repV none 0 0 false 0, .int .i64 1, .int .i64 6]) (by simp [results, go_sem, o0, o1, o2]) rfl (RetPar.no Hq.out ?_)
          repeat' (first | with_reducible exact hB | with_reducible refine bd ?_ _ | with_reducible refine Below.drew ?_ | with_reducible refine bs ?_ ?_ | (simp only; omega))
        · obtain ⟨hl1, _, hb01⟩ := nxO_len h2
          obtain ⟨n, rfl⟩ : ∃ n, ns = [n] := by
            rcases ns with _ | ⟨n, _ | ⟨m, r⟩⟩
            · cases hl1
            · exact ⟨n, rfl⟩
            · simp at hl1
          have Hrow := Lib.hid (fun W => rowO x ⟨#[104, 105, 116, 115]⟩ wHits (Lib.hid rfl) 1 1 (Lib.hid rfl) (by omega) W hxz (Lib.hid (hnx.out.symm.trans h2)))
          have Hh2 := Lib.hid h2
          clear h2 hnx hF hl1 hb01
          go_wp2_with fail
          (with_reducible refine (Hrow.out _).mono ?_); rintro e w5 hh
          obtain ⟨⟨g, cap, cur, rfl, hg, hgg, hcu⟩, hb5⟩ := RetNs.some1_ hh
          have q0 := (Lib.cell_of_heap hgg 0).trans hcu.out
          have HF5 := Lib.hid (HF.out.go hb5)
          have HB5 := Lib.hid (bt hbw2 hb5)
          clear hh hb5 dd Hrow hgg hcu hbw2
          go_wp2
          go_roundw
          case rel => exact ⟨1, n, by go_num, rfl, hjl2, HB5.out, .inr (.inl ⟨rfl, Hh2.out, HF5.out⟩)⟩
          case measure => simp [intOf]; omega
    · have i3 := (nxO_len h1).2.2 wt List.mem_cons_self
      by_cases hjl2 : 1 < L.length
      case neg =>
        have Hq := Lib.hid (HQF.out 2 (psL_2 h1 (nxO_over _ _ (by omega))) (by omega))
        have m1 : (1 : Int) < max (L.length : Int) (wt + 2) := by omega
        have i1 : (L.length : Int) ≤ 1 := by omega
        clear h1 hjl2 hbw HB
        have hO := hF.at (g := w.heap.size) (o := rp00) (by simp)
        obtain ⟨o0, o1, o2⟩ : _ ∧ _ ∧ _ := ⟨Lib.cell_of_heap hO 0, Lib.cell_of_heap hO 1, Lib.cell_of_heap hO 2⟩
        obtain ⟨f0, f1, f2⟩ : _ ∧ _ ∧ _ := ⟨Lib.frozen_of_heap hO 0, Lib.frozen_of_heap hO 1, Lib.frozen_of_heap hO 2⟩
        have hlt := heap_lt hO
        have hB := hF.bel
        clear hO
        go_wp2
        refine bodyPost_ret (v := .tuple #[repV none 0 0 false 0, .int .i64 2, .int .i64 6]) (by simp [results, go_sem, o0, o1, o2]) rfl (RetPar.no Hq.out ?_)
        repeat' (first | with_reducible exact hB | with_reducible refine bd ?_ _ | with_reducible refine Below.drew ?_ | with_reducible refine bs ?_ ?_ | (simp only; omega))
      case pos =>
        have m1 : (1 : Int) < max (L.length : Int) (wt + 2) := by omega
        have i1 : ¬ ((L.length : Int) ≤ 1) := by omega
        have i2 : ¬ (wt + 2 ≤ 1) := by omega
        have i4 : (1 : Int) < (L.length : Int) := by omega
        have Hh1 := Lib.hid h1
        clear h1
        obtain ⟨bk, off, rfl, hbb, dd⟩ := strAt2 (HR1.out.below hbw) hjl2
        have hbk : bk < wr.heap.size := Nat.lt_of_lt_of_le hbb hbw.size
        have hxz : L[1].size ≤ 1099511627776 := by have := hsz.out L[1] (List.getElem_mem hjl2); omega
        have hnx := Lib.hid (nxO_at wDropped 1 (List.getElem?_eq_getElem hjl2))
        generalize L[1] = x at *
        have HF := Lib.hid (hF.al (.cells #[.string ⟨#[104, 105, 116, 115]⟩, .string ⟨#[100, 114, 111, 112, 112, 101, 100]⟩] 9 (0, 0)))
        have hbw2 := hbw.alloc hbw.size (.cells #[.string ⟨#[104, 105, 116, 115]⟩, .string ⟨#[100, 114, 111, 112, 112, 101, 100]⟩] 9 (0, 0))
        rcases h2 : nxO L 1 wDropped 1 with _ | ns
        · have Hq := Lib.hid (HQF.out 2 (psL_2 Hh1.out h2) (by omega))
          have Hrow := Lib.hid (fun W => rowO x ⟨#[100, 114, 111, 112, 112, 101, 100]⟩ wDropped (Lib.hid rfl) 1 1 (Lib.hid rfl) (by omega) W hxz (Lib.hid (hnx.out.symm.trans h2)))
          clear h2 hnx hF hbw2
          go_wp2_with fail
          (with_reducible refine (Hrow.out _).mono ?_); rintro e w5 hh
          obtain ⟨⟨v, rfl⟩, hb5⟩ := RetNs.none_ hh
          have hF := HF.out.go hb5
          clear hh hb5 dd Hrow
          have hO := hF.at (g := w.heap.size) (o := rp00) (by simp)
          obtain ⟨o0, o1, o2⟩ : _ ∧ _ ∧ _ := ⟨Lib.cell_of_heap hO 0, Lib.cell_of_heap hO 1, Lib.cell_of_heap hO 2⟩
          obtain ⟨f0, f1, f2⟩ : _ ∧ _ ∧ _ := ⟨Lib.frozen_of_heap hO 0, Lib.frozen_of_heap hO 1, Lib.frozen_of_heap hO 2⟩
          have hlt := heap_lt hO
          have hB := hF.bel
          clear hO
          go_wp2
          refine bodyPost_ret (v := .tuple #[repV none 0 0 false 0, .int .i64 2, .int .i64 6]) (by simp [results, go_sem, o0, o1, o2]) rfl (RetPar.no Hq.out ?_)
          repeat' (first | with_reducible exact hB | with_reducible refine bd ?_ _ | with_reducible refine Below.drew ?_ | with_reducible refine bs ?_ ?_ | (simp only; omega))
        · obtain ⟨hl1, _, hb01⟩ := nxO_len h2
          obtain ⟨d, rfl⟩ : ∃ n, ns = [n] := by
            rcases ns with _ | ⟨n, _ | ⟨m, r⟩⟩
            · cases hl1
            · exact ⟨n, rfl⟩
            · simp at hl1
          have Hrow := Lib.hid (fun W => rowO x ⟨#[100, 114, 111, 112, 112, 101, 100]⟩ wDropped (Lib.hid rfl) 1 1 (Lib.hid rfl) (by omega) W hxz (Lib.hid (hnx.out.symm.trans h2)))
          have Hst := Lib.hid (PaRel.start Hh1.out h2)
          clear h2 hnx hF hl1 hb01
          go_wp2_with fail
          (with_reducible refine (Hrow.out _).mono ?_); rintro e w5 hh
          obtain ⟨⟨g, cap, cur, rfl, hg, hgg, hcu⟩, hb5⟩ := RetNs.some1_ hh
          have q0 := (Lib.cell_of_heap hgg 0).trans hcu.out
          have HF5 := Lib.hid (HF.out.go hb5)
          have HB5 := Lib.hid (bt hbw2 hb5)
          have hO := HF5.out.at (g := bR) (o := rp00) (by simp)
          obtain ⟨o0, o1, o2⟩ : _ ∧ _ ∧ _ := ⟨Lib.cell_of_heap hO 0, Lib.cell_of_heap hO 1, Lib.cell_of_heap hO 2⟩
          obtain ⟨f0, f1, f2⟩ : _ ∧ _ ∧ _ := ⟨Lib.frozen_of_heap hO 0, Lib.frozen_of_heap hO 1, Lib.frozen_of_heap hO 2⟩
          clear hh hb5 dd Hrow hgg hcu hbw2 hO
          go_wp2
          refine wp_cutK (fun K hK => ?_)
          go_cut [] (fun wx => Fr w [(bR, repO none 0 0 (decide (0 < d)) d), (w.heap.size, rp00)] wx ∧ Below w1.heap.size w1 wx)
          case first =>
            go_region
            all_goals
              go_wp2
              go_meet
              exact ⟨(fr_ov2 HF5.out (by omega) (by intro q hq; simp at hq; rcases hq with rfl; simp; omega)).drew, by repeat' (first | with_reducible exact HB5.out | with_reducible refine Below.drew ?_ | with_reducible refine bs ?_ ?_ | (simp only; have := hbR'.out; omega))⟩
          case rest =>
          obtain ⟨hF6, hB6⟩ := hcut
          rw [hK.out]
          dsimp only
          have HI := Lib.hid (show RfI w w1 L bR 2 wt wc from ⟨hB6, .inr (.inr ⟨d, [], none, 0, rfl, ⟨hF6, World.ownsRow_nil _ _ _ _, Hst.out, i3.1, i3.2⟩⟩)⟩)
          clear hK hF6 hB6 o0 o1 o2 f0 f1 f2 q0 HF5 HB5
          go_wp2
          go_roundw
          case rel => exact ⟨2, wt, by go_num, rfl, by omega, HI.out⟩
          case measure => simp [intOf]; omega
    · obtain ⟨j, hj⟩ : ∃ j, acc.length + 2 = j := ⟨_, rfl⟩
      rw [hj] at hjl ⊢
      have hj2 : 2 ≤ j := by omega
      have hln := hT.rel.2.1
      have hn0 := hT.n0
      have hn1 := hT.n1
      have hFr := hT.fr.sub (M := [(w.heap.size, rp00)]) (by simp)
      have Hj := Lib.hid hj
      have HT := Lib.hid hT
      have ij0 : ¬ ((j : Int) = 0) := by omega
      have ij1 : ¬ ((j : Int) = 1) := by omega
      have ij0' : ((j : Int) == 0) = false := by rw [beq_eq_false_iff_ne]; exact ij0
      have ij1' : ((j : Int) == 1) = false := by rw [beq_eq_false_iff_ne]; exact ij1
      have ij2 : ¬ ((j : Int) < 2) := by omega
      have ij3 : ¬ (j < 2) := by omega
      have ij4 : (0 : Int) ≤ (j : Int) := by omega
      by_cases hlt : (acc.length : Int) < wt
      · have m1 : (j : Int) < max (L.length : Int) (wt + 2) := by omega
        have i2 : ¬ (wt + 2 ≤ (j : Int)) := by omega
        by_cases hjl2 : j < L.length
        case neg =>
          have Hq := Lib.hid (show psR s k = ⟨[], 0, (j : Int) + 1, 6⟩ by
            have h1 := HQF.out _ (hT.rel.stop (by omega) (nxO_over _ _ (by omega))) (by omega)
            rw [h1]; congr 1; omega)
          have i1 : L.length ≤ j := by omega
          have i1' : (L.length : Int) ≤ (j : Int) := by omega
          have hF := hFr
          clear hT HT hbw HB hj hFr hjl2
          have hO := hF.at (g := w.heap.size) (o := rp00) (by simp)
          obtain ⟨o0, o1, o2⟩ : _ ∧ _ ∧ _ := ⟨Lib.cell_of_heap hO 0, Lib.cell_of_heap hO 1, Lib.cell_of_heap hO 2⟩
          obtain ⟨f0, f1, f2⟩ : _ ∧ _ ∧ _ := ⟨Lib.frozen_of_heap hO 0, Lib.frozen_of_heap hO 1, Lib.frozen_of_heap hO 2⟩
          have hlt := heap_lt hO
          have hB := hF.bel
          clear hO
          go_wp2
          refine bodyPost_ret (v := .tuple #[repV none 0 0 false 0, .int .i64 ((j : Int) + 1), .int .i64 6]) (by simp [results, go_sem, o0, o1, o2]) rfl (RetPar.no Hq.out ?_)
          repeat' (first | with_reducible exact hB | with_reducible refine bd ?_ _ | with_reducible refine Below.drew ?_ | with_reducible refine bs ?_ ?_ | (simp only; omega))
        case pos =>
          have i1 : ¬ (L.length ≤ j) := by omega
          have i1' : ¬ ((L.length : Int) ≤ (j : Int)) := by omega
          have i5 : (j : Int) < (L.length : Int) := by omega
          obtain ⟨bk, off, rfl, hbb, dd⟩ := strAt2 (HR1.out.below hbw) hjl2
          have hbk : bk < wr.heap.size := Nat.lt_of_lt_of_le hbb hbw.size
          have hxz : L[j].size ≤ 1099511627776 := by have := hsz.out L[j] (List.getElem_mem hjl2); omega
          have hnx := Lib.hid (nxO_at wHit 2 (List.getElem?_eq_getElem hjl2))
          generalize L[j] = x at *
          rcases h2 : nxO L j wHit 2 with _ | ns
          · have Hq := Lib.hid (show psR s k = ⟨[], 0, (j : Int) + 1, 6⟩ by
              have h1 := HQF.out _ (hT.rel.stop (by omega) (by rw [Hj.out]; exact h2)) (by omega)
              rw [h1]; congr 1; omega)
            have Hrow := Lib.hid (fun W => rowO x ⟨#[104, 105, 116]⟩ wHit (Lib.hid rfl) 2 2 (Lib.hid rfl) (by omega) W hxz (Lib.hid (hnx.out.symm.trans h2)))
            have HF := Lib.hid hFr
            clear h2 hnx hT HT hFr hj
            go_wp2_with fail
            (with_reducible refine (Hrow.out _).mono ?_); rintro e w5 hh
            obtain ⟨⟨v, rfl⟩, hb5⟩ := RetNs.none_ hh
            have hF := HF.out.go hb5
            clear hh hb5 dd Hrow
            have hO := hF.at (g := w.heap.size) (o := rp00) (by simp)
            obtain ⟨o0, o1, o2⟩ : _ ∧ _ ∧ _ := ⟨Lib.cell_of_heap hO 0, Lib.cell_of_heap hO 1, Lib.cell_of_heap hO 2⟩
            obtain ⟨f0, f1, f2⟩ : _ ∧ _ ∧ _ := ⟨Lib.frozen_of_heap hO 0, Lib.frozen_of_heap hO 1, Lib.frozen_of_heap hO 2⟩
            have hlt := heap_lt hO
            have hB := hF.bel
            clear hO
            go_wp2
            refine bodyPost_ret (v := .tuple #[repV none 0 0 false 0, .int .i64 ((j : Int) + 1), .int .i64 6]) (by simp [results, go_sem, o0, o1, o2]) rfl (RetPar.no Hq.out ?_)
            repeat' (first | with_reducible exact hB | with_reducible refine bd ?_ _ | with_reducible refine Below.drew ?_ | with_reducible refine bs ?_ ?_ | (simp only; omega))
          · obtain ⟨hl1, _, _⟩ := nxO_len h2
            obtain ⟨a, b, rfl⟩ : ∃ a b, ns = [a, b] := by
              rcases ns with _ | ⟨x, _ | ⟨y, _ | ⟨z, r⟩⟩⟩
              · cases hl1
              · cases hl1
              · exact ⟨x, y, rfl⟩
              · simp at hl1
            have Hrow := Lib.hid (fun W => rowO x ⟨#[104, 105, 116]⟩ wHit (Lib.hid rfl) 2 2 (Lib.hid rfl) (by omega) W hxz (Lib.hid (hnx.out.symm.trans h2)))
            have Hst := Lib.hid (hT.rel.step (by omega) (by rw [Hj.out]; exact h2))
            clear h2 hnx hl1 hFr hj hT
            go_wp2_with fail
            (with_reducible refine (Hrow.out _).mono ?_); rintro e w5 hh
            obtain ⟨⟨g3, cap3, cur3, rfl, hg3, hgg3, hcu3⟩, hb5⟩ := RetNs.some2_ hh
            have a0 := (Lib.cell_of_heap hgg3 0).trans hcu3.out.1
            have a1 := (Lib.cell_of_heap hgg3 1).trans hcu3.out.2
            have hF5 := HT.out.fr.go hb5
            have hO5 := own_below HT.out.own hb5
            have HB5 := Lib.hid (bt hbw hb5)
            have hO := hF5.at (g := bR) (o := repO A acc.length c (decide (0 < d)) d) (by simp)
            have c5 := Lib.cell_of_heap hO 0
            have hlt5 := heap_lt hO
            have k5a : ∀ o, (w5.alloc o).cell? ⟨bR, 0, none⟩ = some (.slice A acc.length c) := fun o => (World.cell?_alloc_lt w5 o ⟨bR, 0, none⟩ hlt5).trans c5
            have Hne := Lib.hid (show ∀ p ∈ [((bR, repO A acc.length c (decide (0 < d)) d) : Nat × Obj), (w.heap.size, rp00)], (Value.slice A acc.length c).ownBlock ≠ some p.1 by
              intro p hp
              have hat := hF5.at (g := p.1) (o := p.2) hp
              simp only [List.mem_cons, List.not_mem_nil, or_false] at hp
              rcases hp with rfl | rfl <;> exact own_blk_ne hO5 hat (by decide))
            have HF5 := Lib.hid hF5
            have HO5 := Lib.hid hO5
            clear hh hb5 hF5 hO5 hO hgg3 hg3 hcu3 Hrow dd
            go_wp2
            refine wp_cutK (fun K hK => ?_)
            go_cut [] (fun wx => ∃ g4 cap4, Fr w [(bR, repO (some ⟨g4, 0, none⟩) (acc.length + 1) cap4 (decide (0 < d)) d), (w.heap.size, rp00)] wx ∧ wx.ownsRow w1.heap.size 34 2 (.slice (some ⟨g4, 0, none⟩) (acc.length + 1) cap4) (acc.length + 1) (hits (acc ++ [(a, b)])) ∧ Below w1.heap.size w1 wx)
            case first =>
              go_region_law ((refine step_ap htEl (w0 := w1) (by exact HO5.out.alloc _) (by exact (HB5.out.alloc HB5.out.size _).drew) [.int .i64 a, .int .i64 b] (by exact alloc1_new _ _) ?_; intro g4 cap4 w6 hO6 hb6 hg6; have q1 := (ra_cell HF5.out hlt0 Hb1.out hb6 hg6 Hne.out).1; have q2 := (ra_cell HF5.out hlt0 Hb1.out hb6 hg6 Hne.out).2))
              all_goals
                have hD := ra_app HF5.out hlt0 Hb1.out hbR'.out hO6 hb6 hg6 Hne.out
                clear hO6 hb6 hg6 q1 q2
                go_wp2_with fail
                go_meet
                exact ⟨g4, cap4, hD⟩
            case rest =>
            obtain ⟨g4, cap4, hF6, hO6, hB6⟩ := hcut
            rw [hK.out]
            dsimp only
            have hlen1 : (acc ++ [(a, b)]).length = acc.length + 1 := by simp
            have HI := Lib.hid (show RfI w w1 L bR (j + 1) wt wc from ⟨hB6, .inr (.inr ⟨d, acc ++ [(a, b)], some ⟨g4, 0, none⟩, cap4, by rw [hlen1, ← Hj.out], ⟨by rw [hlen1]; exact hF6, by rw [hlen1]; exact hO6, Hst.out, hn0, hn1⟩⟩)⟩)
            clear hK hF6 hO6 hB6 a0 a1 c5 k5a HF5 HO5 HB5 Hne hlen1 HT
            go_wp2
            go_roundw
            case rel => exact ⟨j + 1, wt, by go_num, rfl, by omega, HI.out⟩
            case measure => simp [intOf]; omega
      · have hnn : wt.toNat = acc.length := by omega
        have hrl : PaRel L acc.length d acc := by have h1 := hT.rel; rw [hnn] at h1; exact h1
        have i2 : wt + 2 ≤ (j : Int) := by omega
        by_cases hjl2 : j < L.length
        · have m1 : (j : Int) < max (L.length : Int) (wt + 2) := by omega
          have Hq := Lib.hid (show psR s k = ⟨[], 0, (j : Int) + 1, 6⟩ by
            have h1 := HQF.out _ (hrl.more (by omega)) (by omega)
            rw [h1]; congr 1; omega)
          have i1 : ¬ (L.length ≤ j) := by omega
          have i1' : ¬ ((L.length : Int) ≤ (j : Int)) := by omega
          have hF := hFr
          clear hT HT hbw HB hj hFr hrl hnn hjl2
          have hO := hF.at (g := w.heap.size) (o := rp00) (by simp)
          obtain ⟨o0, o1, o2⟩ : _ ∧ _ ∧ _ := ⟨Lib.cell_of_heap hO 0, Lib.cell_of_heap hO 1, Lib.cell_of_heap hO 2⟩
          obtain ⟨f0, f1, f2⟩ : _ ∧ _ ∧ _ := ⟨Lib.frozen_of_heap hO 0, Lib.frozen_of_heap hO 1, Lib.frozen_of_heap hO 2⟩
          have hlt := heap_lt hO
          have hB := hF.bel
          clear hO
          go_wp2
          refine bodyPost_ret (v := .tuple #[repV none 0 0 false 0, .int .i64 ((j : Int) + 1), .int .i64 6]) (by simp [results, go_sem, o0, o1, o2]) rfl (RetPar.no Hq.out ?_)
          repeat' (first | with_reducible exact hB | with_reducible refine bd ?_ _ | with_reducible refine Below.drew ?_ | with_reducible refine bs ?_ ?_ | (simp only; omega))
        · have m1 : ¬ ((j : Int) < max (L.length : Int) (wt + 2)) := by omega
          have Hps := Lib.hid (hrl.done (by omega))
          obtain ⟨A8, c8, hA8, hrd8, hc8, hm8⟩ := own_sl hT.own
          injection hA8 with e1 _ e3
          subst e1 e3
          have hO := hT.fr.at (g := bR) (o := repO A acc.length c (decide (0 < d)) d) (by simp)
          obtain ⟨o0, o1, o2⟩ : _ ∧ _ ∧ _ := ⟨Lib.cell_of_heap hO 0, Lib.cell_of_heap hO 1, Lib.cell_of_heap hO 2⟩
          have hch := rcheck_ wr A c acc hrd8 (by omega) (decide (0 < d)) d k
          have HqC := Lib.hid (HQC.out acc d Hps.out)
          have HqO := Lib.hid (HQO.out acc d Hps.out)
          rcases hck : chkR acc (decide (0 < d)) d k with ⟨I, E⟩
          rw [hck] at hch
          have Hch := Lib.hid hch
          clear hT hO hrl hnn hrd8 hch hj hFr hbw HB
          by_cases hE0 : E = 0
          · have Hq := Lib.hid (HqO.out (by rw [hck]; exact hE0))
            subst hE0
            clear hck HqC HqO
            go_wp2_with fail
            (with_reducible refine (Hch.out).mono ?_); rintro e w6 ⟨rfl, hb6⟩
            have hF6 := HT.out.fr.go hb6
            have hO6 := own_below HT.out.own hb6
            have hO := hF6.at (g := bR) (o := repO A acc.length c (decide (0 < d)) d) (by simp)
            have hP := hF6.at (g := w.heap.size) (o := rp00) (by simp)
            clear o0 o1 o2
            obtain ⟨o0, o1, o2⟩ : _ ∧ _ ∧ _ := ⟨Lib.cell_of_heap hO 0, Lib.cell_of_heap hO 1, Lib.cell_of_heap hO 2⟩
            obtain ⟨p0, p1, p2⟩ : _ ∧ _ ∧ _ := ⟨Lib.cell_of_heap hP 0, Lib.cell_of_heap hP 1, Lib.cell_of_heap hP 2⟩
            obtain ⟨f0, f1, f2⟩ : _ ∧ _ ∧ _ := ⟨Lib.frozen_of_heap hP 0, Lib.frozen_of_heap hP 1, Lib.frozen_of_heap hP 2⟩
            have hlt6 := heap_lt hP
            have hB := hF6.bel
            have HO6 := Lib.hid (And.intro hO6 (own_blk_ne hO6 hP (by decide)))
            clear hF6 hO hP hb6 hO6 Hch HT
            go_wp2
            refine bodyPost_ret (v := .tuple #[repV A acc.length c (decide (0 < d)) d, .int .i64 0, .int .i64 0]) (by simp [results, go_sem, p0, p1, p2]) rfl (RetPar.yes Hq.out ?_ (Reads.of_own (own_set3 HO6.out.1 HO6.out.2 _ _ _)) hc8 hm8)
            repeat' (first | with_reducible exact hB | with_reducible refine bd ?_ _ | with_reducible refine Below.drew ?_ | with_reducible refine bs ?_ ?_ | (simp only; omega))
          · have Hq := Lib.hid (HqC.out (by rw [hck]; exact hE0))
            rw [hck] at Hq
            have e1 : (E != 0) = true := by simpa using hE0
            clear hck HqC HqO
            go_wp2_with fail
            (with_reducible refine (Hch.out).mono ?_); rintro e w6 ⟨rfl, hb6⟩
            have hF := HT.out.fr.go hb6
            clear hb6 Hch HT o0 o1 o2
            have hO := hF.at (g := w.heap.size) (o := rp00) (by simp)
            obtain ⟨o0, o1, o2⟩ : _ ∧ _ ∧ _ := ⟨Lib.cell_of_heap hO 0, Lib.cell_of_heap hO 1, Lib.cell_of_heap hO 2⟩
            obtain ⟨f0, f1, f2⟩ : _ ∧ _ ∧ _ := ⟨Lib.frozen_of_heap hO 0, Lib.frozen_of_heap hO 1, Lib.frozen_of_heap hO 2⟩
            have hlt := heap_lt hO
            have hB := hF.bel
            clear hO
            go_wp2
            refine bodyPost_ret (v := .tuple #[repV none 0 0 false 0, .int .i64 0, .int .i64 E]) (by simp [results, go_sem, o0, o1, o2]) rfl (RetPar.no Hq.out ?_)
            repeat' (first | with_reducible exact hB | with_reducible refine bd ?_ _ | with_reducible refine Below.drew ?_ | with_reducible refine bs ?_ ?_ | (simp only; omega))
end Go.Proofs.YtaainkjgnljihaaGreatDoor
