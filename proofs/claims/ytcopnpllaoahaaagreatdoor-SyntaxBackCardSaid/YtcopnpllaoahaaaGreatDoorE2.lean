/- Syntax: the table of heads, kindOf; the reader's want. No condition. Syntax: the next element, in plain words; head of the reader. No condition. Syntax: head of the reader. No condition. What the rows of chapter 12 lay: the tables. -/
import Derived.Test.YtcopnpllaoahaaaGreatDoorY1
import Derived.Deep.DeepCutAuto
import Derived.WalkMore
import Derived.Test.YtcopnpllaoahaaaGreatDoorJ8
namespace Go.Proofs.YtcopnpllaoahaaaGreatDoor
open Go.RowKit
def hdN : Nat → Int | 1 => 4 | 2 => 5 | 3 => 6 | 4 => 2 | _ => 0
/-- the table of heads stands -/
def Hd (w : World) : Prop := 0 < w.heap.size ∧ ∀ i : Nat, i < 5 → w.cell? ⟨0, i, none⟩ = some (.int .i64 (hdN i))
theorem Hd.below {w w' : World} (h : Hd w) (hb : Below w.heap.size w w') : Hd w' :=
  ⟨Nat.lt_of_lt_of_le h.1 hb.size, fun i hi => (hb.cell (p := ⟨0, i, none⟩) h.1).trans (h.2 i hi)⟩
def kdI (h : Int) : Int := if h = 4 then 1 else if h = 5 then 2 else if h = 6 then 3 else if h = 2 then 4 else 0
theorem kd_hit {h : Int} {k : Nat} (h1 : 1 ≤ k) (h5 : k < 5) (e : hdN k = h) : kdI h = (k : Int) := by
  subst e
  rcases (show k = 1 ∨ k = 2 ∨ k = 3 ∨ k = 4 by omega) with rfl | rfl | rfl | rfl <;> rfl
theorem kd_miss {h : Int} (hN : ∀ j, 1 ≤ j → j < 5 → hdN j ≠ h) : kdI h = 0 := by
  have a := hN 1 (by decide) (by decide)
  have b := hN 2 (by decide) (by decide)
  have c := hN 3 (by decide) (by decide)
  have d := hN 4 (by decide) (by decide)
  simp only [hdN] at a b c d
  unfold kdI
  rw [if_neg (fun e => a e.symm), if_neg (fun e => b e.symm), if_neg (fun e => c e.symm), if_neg (fun e => d e.symm)]
set_option maxHeartbeats 1000000 in
theorem kindOf_ (h : Int) (w : World) (hH : Hd w) : Calls Tryz.prog 55 #[.int .i64 h] w fun e w' => e = .returned (.int .i64 (kdI h)) ∧ w' = w := by
  have HH := Lib.hid hH
  clear hH
  go_enter Tryz.func55, Tryz.ntmps55
  go_wp2
  go_loopw [3] (fun u wr => ∃ k : Nat, 1 ≤ k ∧ k ≤ 5 ∧ u = .int .i64 (k : Int) ∧ wr = w ∧ Hid (∀ j, 1 ≤ j → j < k → hdN j ≠ h)) (fun u _ => 5 - (intOf u).toNat)
  case atStart => exact ⟨1, by omega, by omega, rfl, rfl, Lib.hid (fun j h1 h2 => by omega)⟩
  case round =>
    obtain ⟨k, h1, h5, rfl, hw, hN⟩ := hrel
    subst hw
    by_cases h4 : k < 5
    · have i1 : (k : Int) < 5 := by omega
      have i0 : (0 : Int) ≤ (k : Int) := by omega
      have c0 := HH.out.2 k h4
      by_cases hk : hdN k = h
      · have hr := Lib.hid (kd_hit h1 h4 hk)
        rw [hk] at c0
        clear hk hN
        go_wp2
        go_ret
        exact ⟨ret_int hr.out.symm, rfl⟩
      · have hN2 : Hid (∀ j, 1 ≤ j → j < k + 1 → hdN j ≠ h) := Lib.hid (fun j a b => by
          rcases Nat.lt_or_ge j k with hh | hh
          · exact hN.out j a hh
          · obtain rfl : j = k := by omega
            exact hk)
        have m1 : (hdN k == h) = false := by rw [beq_eq_false_iff_ne]; exact hk
        generalize hdN k = z at *
        clear hk hN
        go_wp2
        go_roundw
        case rel => exact ⟨k + 1, by omega, by omega, by go_num, trivial, hN2⟩
        case measure => (simp [intOf]) <;> omega
    · obtain rfl : k = 5 := by omega
      have hr := Lib.hid (kd_miss hN.out)
      clear hN h4
      go_wp2
      go_ret
      exact ⟨ret_int hr.out.symm, rfl⟩
theorem Fr.oth {w0 w1 : World} {L : List (Nat × Obj)} {R i : Nat} {v : Value} (h : Fr w0 L w1) (hR : w0.heap.size ≤ R) (hne : ∀ q ∈ L, q.1 ≠ R) : Fr w0 L (w1.setCell ⟨R, i, none⟩ v) :=
  ⟨bs h.bel hR, fun q hq => set_blk (h.blk q hq) _ _ (fun e => hne q hq e.symm)⟩
/-- the reader as it lies in memory; the panic that leaves the reading -/
abbrev rdO (A : Option Addr) (n c : Nat) (p id : Int) (E : Value) : Obj := .cells #[.slice A n c, .int .i64 p, .int .i64 id, E] 72 (0, 0)
abbrev flt (p e : Int) : List PanicEntry := [{ v := .iface 69 (.agg #[.int .i64 p, .int .i64 e]), recovered := false }]
abbrev tkVt (t : T9) : Value := tkV t.1 t.2.1 t.2.2.1 t.2.2.2.1 t.2.2.2.2.1 t.2.2.2.2.2
def WantR (w0 w : World) (g : Nat) (o : Obj) (L : List (Nat × Obj)) (v : Value) (e : Ending) (w' : World) : Prop := e = .returned v ∧ Fr w0 ((g, o) :: L) w' ∧ w.grownBy w' (some g)
set_option maxRecDepth 100000 in
set_option maxHeartbeats 4000000 in
theorem want_yes {w0 w : World} {g p c : Nat} {A : Option Addr} {P Q id : Int} {E : Value} {l : List T9} {L : List (Nat × Obj)} (k : Int) (hF : Fr w0 ((g, rdO A l.length c P id E) :: L) w) (hg : w0.heap.size ≤ g) (hL : ∀ q ∈ L, q.1 ≠ g)
    (hR : Reads w0 w0.heap.size 9 A l.length (tks l)) (hp : p < l.length) (hk : l[p].1 = k) (hm : l.length ≤ 100000) (hP : P = (p : Int)) (hQ : Q = P + 1) :
    Calls Tryz.prog 44 #[.pointer (some ⟨g, 0, none⟩), .int .i64 k] w (WantR w0 w g (rdO A l.length c Q id E) L (tkVt l[p])) := by
  subst hP
  have hF1 := hF.al tk0O
  have hG1 := World.grownBy_alloc w tk0O (some g)
  have hr0 : (w.alloc tk0O).heap[w.heap.size]? = some tk0O := alloc1_new _ _
  obtain ⟨bk, off, rfl, hbk, t0, t1, t2, t3, t4, t5, t6, t7, t8⟩ := (hR.below hF1.bel).at9 hp
  obtain ⟨⟨K, F, T, N, S, f⟩, ht⟩ : ∃ t, l[p] = t := ⟨_, rfl⟩
  rw [ht] at t0 t1 t2 t3 t4 t5 t6 t7 t8 hk
  simp only at t0 t1 t2 t3 t4 t5 t6 t7 t8 hk
  subst hk
  have HT := Lib.hid ht
  have hgw := hF.lt (g := g) (o := rdO (some ⟨bk, off, none⟩) l.length c (p : Int) id E) List.mem_cons_self
  have hLw : ∀ q ∈ L, q.1 ≠ w.heap.size := fun q hq => by have := heap_lt (hF.blk q (List.mem_cons_of_mem _ hq)); omega
  obtain ⟨R, hRe⟩ : ∃ R, R = w.heap.size := ⟨_, rfl⟩
  rw [← hRe] at hr0 hLw hgw
  have hgR : g ≠ R := by omega
  have hRw : w0.heap.size ≤ R := by have := hF.bel.size; omega
  obtain ⟨n, hn⟩ : ∃ n, n = l.length := ⟨_, rfl⟩
  rw [← hn] at hF1 hp hm
  have i1 : ¬ ((n : Int) ≤ (p : Int)) := by omega
  have i2 : (p : Int) < (n : Int) := by omega
  have i0 : (0 : Int) ≤ (p : Int) := by omega
  have m1 : (K != K) = false := by simp
  have HRe := Lib.hid hRe
  have HG1 := Lib.hid hG1
  have Hn := Lib.hid hn
  have HL := Lib.hid hL
  have HLw := Lib.hid hLw
  have HQ := Lib.hid hQ
  have HR := Lib.hid hR
  clear hRe hG1 hn hF hR ht hL hLw hQ
  go_enter Tryz.func44, Tryz.ntmps44
  go_upto_region 1 with fail
  rw [← HRe.out]
  generalize w.alloc tk0O = W1 at *
  obtain ⟨⟨c0, c1, c2, c3⟩, ⟨f0, f1, f2, f3⟩, l1⟩ := bx4 (hF1.at (g := g) (o := rdO (some ⟨bk, off, none⟩) n c (p : Int) id E) List.mem_cons_self)
  go_cut [30] (fun s wx => s = .bool false ∧ Fr w0 ((g, rdO (some ⟨bk, off, none⟩) n c (p : Int) id E) :: L) wx ∧ wx.heap[R]? = some tk0O ∧ w.grownBy wx (some g))
  case first =>
    go_quiet (fail)
    go_wp2
    go_meet
    have h := HG1.out
    exact ⟨rfl, hF1.drewN _, hr0, ⟨h.os, h.tape, h.output, h.size, h.block⟩⟩
  case rest =>
  obtain ⟨rfl, hF2, hr2, hG2⟩ := hcut
  clear t0 t1 t2 t3 t4 t5 t6 t7 t8 c0 c1 c2 c3 f0 f1 f2 f3 l1 hr0 hF1
  obtain ⟨bk2, off2, e2, hbk2, t0, t1, t2, t3, t4, t5, t6, t7, t8⟩ := (HR.out.below hF2.bel).at9 (by rw [← Hn.out]; exact hp)
  cases e2
  rw [HT.out] at t0 t1 t2 t3 t4 t5 t6 t7 t8
  simp only at t0 t1 t2 t3 t4 t5 t6 t7 t8
  obtain ⟨⟨c0, c1, c2, c3⟩, ⟨f0, f1, f2, f3⟩, l1⟩ := bx4 (hF2.at (g := g) (o := rdO (some ⟨bk, off, none⟩) n c (p : Int) id E) List.mem_cons_self)
  have HG2 := Lib.hid hG2
  have HF2 := Lib.hid hF2
  clear hG2 hF2 HG1
  have hbkw : bk < wc.heap.size := Nat.lt_of_lt_of_le hbk2 HF2.out.bel.size
  have hF3 := (HF2.out.al (tkO K F T N S f)).drew
  have hR3 : (wc.alloc (tkO K F T N S f)).drew.heap[R]? = some tk0O := alloc_blk (o' := tkO K F T N S f) hr2
  have hx3 : (wc.alloc (tkO K F T N S f)).drew.heap[wc.heap.size]? = some (tkO K F T N S f) := alloc1_new _ _
  have hG3 : w.grownBy (wc.alloc (tkO K F T N S f)).drew (some g) := by
    have h := HG2.out.trans (World.grownBy_alloc wc (tkO K F T N S f) (some g))
    exact ⟨h.os, h.tape, h.output, h.size, h.block⟩
  have hRc : R < wc.heap.size := heap_lt hr2
  have hn1 : g ≠ wc.heap.size := by omega
  have hn2 : R ≠ wc.heap.size := by omega
  have HF3 := Lib.hid hF3
  have HR3 := Lib.hid hR3
  have HX3 := Lib.hid hx3
  have HG3 := Lib.hid hG3
  clear hF3 hR3 hx3 hG3 hRc
  go_wp2
  go_upto_region 4 with go_region
  clear c0 c1 c2 c3 f0 f1 f2 f3 l1 t0 t1 t2 t3 t4 t5 t6 t7 t8 hbkw hr2 HG2 HF2
  generalize (wc.alloc (tkO K F T N S f)).drew = W4 at *
  generalize wc.heap.size = R4 at *
  obtain ⟨⟨c0, c1, c2, c3⟩, ⟨f0, f1, f2, f3⟩, l1⟩ := bx4 (HF3.out.at (g := g) (o := rdO (some ⟨bk, off, none⟩) n c (p : Int) id E) List.mem_cons_self)
  obtain ⟨⟨r0, r1, r2, r3, r4, r5, r6, r7, r8⟩, ⟨q0, q1, q2, q3, q4, q5, q6, q7, q8⟩, l2⟩ := bx9 HR3.out
  obtain ⟨⟨x0, x1, x2, x3, x4, x5, x6, x7, x8⟩, _, l3⟩ := bx9 HX3.out
  go_wp2
  have hF5 : Fr w0 ((g, rdO (some ⟨bk, off, none⟩) n c Q id E) :: L) (W4.setCell ⟨g, 1, none⟩ (.int .i64 Q)) := by
    have := HF3.out.set hg HL.out 1 (.int .i64 Q)
    simpa using this
  rw [← HQ.out]
  rw [← HQ.out] at *
  have HF5 := Lib.hid hF5
  clear hF5
  refine bodyPost_ret (v := tkV K F T N S f) (by simp [results, go_sem, r0, r1, r2, r3, r4, r5, r6, r7, r8]) rfl ⟨by rw [HT.out], ?_, ?_⟩
  · rw [← Hn.out]
    have hF6 := HF5.out
    have hne : ∀ q ∈ (g, rdO (some ⟨bk, off, none⟩) n c Q id E) :: L, q.1 ≠ R := fun q hq => by
      rcases List.mem_cons.1 hq with rfl | hq
      · exact hgR
      · exact HLw.out q hq
    repeat' (first | with_reducible exact hF6 | with_reducible refine Fr.oth ?_ hRw hne)
  · have hG := HG3.out.trans (grownSet W4 g 1 (.int .i64 Q))
    have hRW : w.heap.size ≤ R := Nat.le_of_eq HRe.out.symm
    repeat' (first | with_reducible exact hG | with_reducible exact hRW | with_reducible refine gnew ?_ ?_)
def FaultR (w0 : World) (L : List (Nat × Obj)) (p er : Int) (e : Ending) (w' : World) : Prop := e = .panicked (flt p er) ∧ Fr w0 L w'
set_option maxRecDepth 100000 in
set_option maxHeartbeats 4000000 in
theorem want_no {w0 w : World} {g p c : Nat} {A : Option Addr} {P id : Int} {E : Value} {l : List T9} {L : List (Nat × Obj)} (k : Int) (hF : Fr w0 ((g, rdO A l.length c P id E) :: L) w)
    (hR : Reads w0 w0.heap.size 9 A l.length (tks l)) (hk : ∀ hp : p < l.length, l[p].1 ≠ k) (hm : l.length ≤ 100000) (hP : P = (p : Int)) :
    Calls Tryz.prog 44 #[.pointer (some ⟨g, 0, none⟩), .int .i64 k] w (FaultR w0 ((g, rdO A l.length c P id E) :: L) P 6) := by
  subst hP
  have hF1 := hF.al tk0O
  have hRd := hR.below hF1.bel
  have HF := Lib.hid hF1
  by_cases hp : p < l.length
  · obtain ⟨bk, off, rfl, hbk, t0, t1, t2, t3, t4, t5, t6, t7, t8⟩ := hRd.at9 hp
    have m1 : (l[p].1 != k) = true := by rw [bne_iff_ne]; exact hk hp
    have i1 : ¬ ((l.length : Int) ≤ (p : Int)) := by omega
    have i2 : (p : Int) < (l.length : Int) := by omega
    have i0 : (0 : Int) ≤ (p : Int) := by omega
    generalize l[p].1 = K at *
    clear t1 t2 t3 t4 t5 t6 t7 t8 hF hR hF1 hRd hk
    go_enter Tryz.func44, Tryz.ntmps44
    go_upto_region 1 with fail
    generalize w.alloc tk0O = W1 at *
    generalize w.heap.size = R at *
    obtain ⟨⟨c0, c1, c2, c3⟩, ⟨f0, f1, f2, f3⟩, l1⟩ := bx4 (HF.out.at (g := g) (o := rdO (some ⟨bk, off, none⟩) l.length c (p : Int) id E) List.mem_cons_self)
    go_quiet (fail)
    go_wp2
    exact ⟨rfl, rfl, HF.out.drewN _⟩
  · have i1 : (l.length : Int) ≤ (p : Int) := by omega
    clear hF hR hF1 hRd hk
    go_enter Tryz.func44, Tryz.ntmps44
    go_upto_region 1 with fail
    generalize w.alloc tk0O = W1 at *
    generalize w.heap.size = R at *
    obtain ⟨⟨c0, c1, c2, c3⟩, ⟨f0, f1, f2, f3⟩, l1⟩ := bx4 (HF.out.at (g := g) (o := rdO A l.length c (p : Int) id E) List.mem_cons_self)
    go_quiet (fail)
    go_wp2
    exact ⟨rfl, rfl, HF.out.drewN _⟩
end Go.Proofs.YtcopnpllaoahaaaGreatDoor
namespace Go.Proofs.YtcopnpllaoahaaaGreatDoor
open Go.RowKit
/-- the next element: the place of the fault and the error; the end; how many tokens, and the element -/
def elS (r : List T9) (p m : Nat) : (Nat × Int) ⊕ Option (Nat × El) :=
  match r with
  | [] => .inr none
  | t :: r =>
    if m = 64 then .inl (p, 3) else
    if t.1 = 4 then .inr (some (1, (1, t.2.2.2.2.1, noK, 0, 0))) else
    if t.1 = 5 then .inr (some (1, (2, t.2.2.2.2.1, noK, 0, 0))) else
    if t.1 = 6 then .inr (some (1, (3, noB, t.2.2.2.2.2, 0, 0))) else
    if t.1 = 2 then
      match r with
      | [] => .inl (p + 1, 6)
      | n :: r1 => if n.1 = 3 then
          match r1 with
          | [] => .inl (p + 2, 6)
          | m :: _ => if m.1 = 3 then .inr (some (3, (4, noB, noK, n.2.2.2.1, m.2.2.2.1))) else .inl (p + 2, 6)
        else .inl (p + 1, 6)
    else .inl (p, 6)
theorem elsK_step (r : List T9) (p : Nat) (es : List El) : elsK r p es = match elS r p es.length with
    | .inl (q, e) => ([], q, e)
    | .inr none => (es, 0, 0)
    | .inr (some (k, x)) => elsK (r.drop k) (p + k) (es ++ [x]) := by
  unfold elS
  match r with
  | [] => rw [elsK.eq_def]
  | t :: r =>
    rw [elsK_cons]
    simp only
    by_cases h0 : es.length = 64
    · rw [if_pos h0, if_pos h0]
    rw [if_neg h0, if_neg h0]
    by_cases h4 : t.1 = 4
    · rw [if_pos h4, if_pos h4]; rfl
    rw [if_neg h4, if_neg h4]
    by_cases h5 : t.1 = 5
    · rw [if_pos h5, if_pos h5]; rfl
    rw [if_neg h5, if_neg h5]
    by_cases h6 : t.1 = 6
    · rw [if_pos h6, if_pos h6]; rfl
    rw [if_neg h6, if_neg h6]
    by_cases h2 : t.1 = 2
    · rw [if_pos h2, if_pos h2]
      match r with
      | [] => rfl
      | n :: r1 =>
        simp only
        by_cases h3 : n.1 = 3
        · rw [if_pos h3, if_pos h3]
          match r1 with
          | [] => rfl
          | m :: r2 =>
            simp only
            by_cases h7 : m.1 = 3
            · rw [if_pos h7, if_pos h7]; rfl
            · rw [if_neg h7, if_neg h7]
        · rw [if_neg h3, if_neg h3]
    · rw [if_neg h2, if_neg h2]
/-- what the code lays of a token that is checked -/
abbrev elOf (t : T9) : El := (kdI t.1, t.2.2.2.2.1, t.2.2.2.2.2, 0, 0)
theorem elC_of {t : T9} (hc : ck9 t = 0) (h2 : t.1 ≠ 2) (h0 : kdI t.1 ≠ 0) {m p : Nat} (hm : m ≠ 64) (r : List T9) : ∃ x, elS (t :: r) p m = .inr (some (1, x)) ∧ elC x = elC (elOf t) := by
  obtain ⟨_, _, hS, hf, _⟩ := ck_zero hc
  have hno : ∀ f : Nat → Bool, sQ f (fun _ => false) = true → ∀ j, j < 4 → wK f j = wK noK j := fun f h j hj => wK_congr ((sQ_iff f _).1 h) hj
  unfold elS
  simp only
  rw [if_neg hm]
  by_cases h4 : t.1 = 4
  · rw [if_pos h4]
    have := hno _ (hf (by omega))
    refine ⟨_, rfl, ?_⟩
    unfold elC elOf kdI
    rw [if_pos h4]
    simp only [this 0 (by decide), this 1 (by decide), this 2 (by decide), this 3 (by decide)]
  rw [if_neg h4]
  by_cases h5 : t.1 = 5
  · rw [if_pos h5]
    have := hno _ (hf (by omega))
    refine ⟨_, rfl, ?_⟩
    unfold elC elOf kdI
    rw [if_neg h4, if_pos h5]
    simp only [this 0 (by decide), this 1 (by decide), this 2 (by decide), this 3 (by decide)]
  rw [if_neg h5]
  by_cases h6 : t.1 = 6
  · rw [if_pos h6]
    refine ⟨_, rfl, ?_⟩
    unfold elC elOf kdI noB
    rw [if_neg h4, if_neg h5, if_pos h6]
    simp only [hS h4 h5]
  exact absurd (by unfold kdI; rw [if_neg h4, if_neg h5, if_neg h6, if_neg h2]) h0
theorem kd_four {h : Int} : kdI h = 4 ↔ h = 2 := by
  unfold kdI
  constructor
  · intro e
    by_cases h4 : h = 4
    · rw [if_pos h4] at e; cases e
    rw [if_neg h4] at e
    by_cases h5 : h = 5
    · rw [if_pos h5] at e; cases e
    rw [if_neg h5] at e
    by_cases h6 : h = 6
    · rw [if_pos h6] at e; cases e
    rw [if_neg h6] at e
    by_cases h2 : h = 2
    · exact h2
    · rw [if_neg h2] at e; cases e
  · rintro rfl; rfl
theorem kd_zero {h : Int} : kdI h = 0 ↔ h ≠ 4 ∧ h ≠ 5 ∧ h ≠ 6 ∧ h ≠ 2 := by
  unfold kdI
  constructor
  · intro e
    refine ⟨?_, ?_, ?_, ?_⟩ <;> rintro rfl <;> cases e
  · rintro ⟨a, b, c, d⟩
    rw [if_neg a, if_neg b, if_neg c, if_neg d]
/-- what head finds wrong: the place -/
def rhK (l : List T9) : Option Nat :=
  match l with
  | [] => some 0
  | [t] => if t.1 = 1 then some 1 else some 0
  | t :: n :: r => if t.1 = 1 then (if n.1 = 3 then (if r = [] then some 2 else none) else some 1) else some 0
theorem ruK_hd (l : List T9) (hn : errL l 0 = none) : ruK l = match rhK l with
    | some q => ((0, []), q, 6)
    | none => match elsK (l.drop 2) 2 [] with
      | (es, at_, e) => if e = 0 then (((l.getD 1 (0, 0, 0, 0, noB, noK)).2.2.2.1, es), 0, 0) else ((0, []), at_, e) := by
  unfold ruK rhK
  rw [hn]
  match l with
  | [] => rfl
  | [t] =>
    simp only
    by_cases h : t.1 = 1
    · rw [if_pos h, if_pos h]
    · rw [if_neg h, if_neg h]
  | t :: n :: r =>
    simp only
    by_cases h : t.1 = 1
    · rw [if_pos h, if_pos h]
      by_cases h3 : n.1 = 3
      · rw [if_pos h3, if_pos h3]
        by_cases hr : r = []
        · rw [if_pos hr, if_pos hr]
        · rw [if_neg hr, if_neg hr]; rfl
      · rw [if_neg h3, if_neg h3]
    · rw [if_neg h, if_neg h]
end Go.Proofs.YtcopnpllaoahaaaGreatDoor
namespace Go.Proofs.YtcopnpllaoahaaaGreatDoor
open Go.RowKit
theorem rh_none {l : List T9} (h : rhK l = none) : 2 < l.length ∧ (∀ hp : 0 < l.length, l[0].1 = 1) ∧ ∀ hp : 1 < l.length, l[1].1 = 3 := by
  unfold rhK at h
  match l, h with
  | [], h => cases h
  | [t], h => simp only at h; split at h <;> cases h
  | t :: n :: r, h =>
    simp only at h
    by_cases h1 : t.1 = 1
    · rw [if_pos h1] at h
      by_cases h3 : n.1 = 3
      · rw [if_pos h3] at h
        by_cases hr : r = []
        · rw [if_pos hr] at h; cases h
        · have : 0 < r.length := List.length_pos_iff.2 hr
          exact ⟨by simp; omega, fun _ => h1, fun _ => h3⟩
      · rw [if_neg h3] at h; cases h
    · rw [if_neg h1] at h; cases h
theorem rh_some {l : List T9} {q : Nat} (h : rhK l = some q) : (q = 0 ∧ ∀ hp : 0 < l.length, l[0].1 ≠ 1) ∨ (q = 1 ∧ 0 < l.length ∧ (∀ hp : 0 < l.length, l[0].1 = 1) ∧ ∀ hp : 1 < l.length, l[1].1 ≠ 3) ∨
    (q = 2 ∧ l.length = 2 ∧ (∀ hp : 0 < l.length, l[0].1 = 1) ∧ ∀ hp : 1 < l.length, l[1].1 = 3) := by
  unfold rhK at h
  match l, h with
  | [], h => exact .inl ⟨(Option.some.inj h).symm, fun hp => absurd hp (by decide)⟩
  | [t], h =>
    simp only at h
    by_cases h1 : t.1 = 1
    · rw [if_pos h1] at h
      exact .inr (.inl ⟨(Option.some.inj h).symm, by simp, fun _ => h1, fun hp => absurd hp (by simp)⟩)
    · rw [if_neg h1] at h
      exact .inl ⟨(Option.some.inj h).symm, fun _ => h1⟩
  | t :: n :: r, h =>
    simp only at h
    by_cases h1 : t.1 = 1
    · rw [if_pos h1] at h
      by_cases h3 : n.1 = 3
      · rw [if_pos h3] at h
        by_cases hr : r = []
        · rw [if_pos hr] at h
          subst hr
          exact .inr (.inr ⟨(Option.some.inj h).symm, rfl, fun _ => h1, fun _ => h3⟩)
        · rw [if_neg hr] at h; cases h
      · rw [if_neg h3] at h
        exact .inr (.inl ⟨(Option.some.inj h).symm, by simp, fun _ => h1, fun _ => h3⟩)
    · rw [if_neg h1] at h
      exact .inl ⟨(Option.some.inj h).symm, fun _ => h1⟩
@[go_sem] theorem fld_n (K F T N : Int) (S : ByteArray) (a b c d : Value) (w : World) : (Instr.field 58 (.agg #[.int .i64 K, .int .i64 F, .int .i64 T, .int .i64 N, .string S, a, b, c, d]) 3).run Tryz.prog w = .ok (.int .i64 N) w := by kernel_rfl
abbrev ptG (g : Nat) : Value := .pointer (some ⟨g, 0, none⟩)
abbrev elF (g : Nat) : Value := .func (.func 45) #[ptG g] #[]
abbrev tk0T : T9 := (0, 0, 0, 0, noB, noK)
def HeadR (w0 : World) (g : Nat) (o : Obj) (e : Ending) (w' : World) : Prop := e = .returned (elF g) ∧ Fr w0 [(g, o)] w'
set_option maxRecDepth 100000 in
set_option maxHeartbeats 4000000 in
theorem head_ok {w0 w : World} {g c : Nat} {A : Option Addr} {E : Value} {l : List T9} (hF : Fr w0 [(g, rdO A l.length c 0 0 E)] w) (hg : w0.heap.size ≤ g)
    (hR : Reads w0 w0.heap.size 9 A l.length (tks l)) (hm : l.length ≤ 100000) (h : Hid (rhK l = none)) {id : Int} (hid : Hid ((l.getD 1 tk0T).2.2.2.1 = id)) :
    Calls Tryz.prog 32 #[ptG g] w (HeadR w0 g (rdO A l.length c 2 id E)) := by
  obtain ⟨h2, k0, k1⟩ := rh_none h.out
  have hY := fun (W : World) (hF : Fr w0 [(g, rdO A l.length c 0 0 E)] W) => want_yes (p := 0) (P := 0) (Q := 1) 1 hF hg (by simp) hR (by omega) (k0 (by omega)) hm rfl rfl
  have hZ := fun (W : World) (hF : Fr w0 [(g, rdO A l.length c 1 0 E)] W) => want_yes (p := 1) (P := 1) (Q := 2) 3 hF hg (by simp) hR (by omega) (k1 (by omega)) hm rfl rfl
  have hid' : l[1].2.2.2.1 = id := by rw [← hid.out, List.getD_eq_getElem?_getD, List.getElem?_eq_getElem (by omega : 1 < l.length)]; rfl
  obtain ⟨t, ht⟩ : ∃ t, l[0] = t := ⟨_, rfl⟩
  obtain ⟨u, hu⟩ : ∃ t, l[1] = t := ⟨_, rfl⟩
  rw [ht] at hY
  rw [hu] at hZ hid'
  have HY := Lib.hid hY
  have HZ := Lib.hid hZ
  obtain ⟨n, hnn⟩ : ∃ n, l.length = n := ⟨_, rfl⟩
  rw [hnn] at HY HZ h2 hm hF ⊢
  have e2 : ((2 : Int) == (n : Int)) = false := by rw [beq_eq_false_iff_ne]; omega
  obtain ⟨K, F, T, N, S, f⟩ := u
  simp only at hid'
  subst hid'
  have HZ2 : Hid (∀ (W : World), Fr w0 [(g, rdO A n c 1 0 E)] W → Calls Tryz.prog 44 #[.pointer (some ⟨g, 0, none⟩), .int .i64 3] W (WantR w0 W g (rdO A n c 2 0 E) [] (tkV K F T N S f))) := HZ
  clear h hR hid hnn h2 hu ht k0 k1 hY hZ HZ
  go_enter Tryz.func32, Tryz.ntmps32
  go_wp2_with fail
  (with_reducible refine (HY.out _ hF).mono ?_); rintro e w1 ⟨rfl, hF1, _⟩
  go_wp2_with fail
  (with_reducible refine (HZ2.out _ hF1).mono ?_); rintro e w2 ⟨rfl, hF2, _⟩
  obtain ⟨⟨c0, c1, c2, c3⟩, ⟨f0, f1, f2, f3⟩, l1⟩ := bx4 (hF2.at (g := g) (o := rdO A n c 2 0 E) List.mem_cons_self)
  have HF3 : Hid (Fr w0 [(g, rdO A n c 2 N E)] (w2.setCell ⟨g, 2, none⟩ (.int .i64 N))) := Lib.hid (by
    have := hF2.set hg (by simp) 2 (.int .i64 N)
    simpa using this)
  clear hF hF1 hF2 HY HZ2
  go_upto_region 3 with fail
  generalize w2.setCell ⟨g, 2, none⟩ (.int .i64 N) = W3 at *
  clear c0 c1 c2 c3 f0 f1 f2 f3 l1
  obtain ⟨⟨c0, c1, c2, c3⟩, ⟨f0, f1, f2, f3⟩, l1⟩ := bx4 (HF3.out.at (g := g) (o := rdO A n c 2 N E) List.mem_cons_self)
  go_quiet (fail)
  go_wp2
  exact bodyPost_ret (v := elF g) (by simp [results, go_sem]) rfl ⟨rfl, HF3.out.drewN _⟩
set_option maxRecDepth 100000 in
set_option maxHeartbeats 4000000 in
theorem head_no {w0 w : World} {g c : Nat} {A : Option Addr} {E : Value} {l : List T9} (hF : Fr w0 [(g, rdO A l.length c 0 0 E)] w) (hg : w0.heap.size ≤ g)
    (hR : Reads w0 w0.heap.size 9 A l.length (tks l)) (hm : l.length ≤ 100000) {q : Nat} (h : Hid (rhK l = some q)) :
    Calls Tryz.prog 32 #[ptG g] w (FaultR w0 [] (q : Int) 6) := by
  have hsub : ∀ {o w'}, Fr w0 [(g, o)] w' → Fr w0 [] w' := fun h => h.sub (by simp)
  rcases rh_some h.out with ⟨rfl, k0⟩ | ⟨rfl, h1, k0, k1⟩ | ⟨rfl, h2, k0, k1⟩
  · have HY := Lib.hid (want_no (p := 0) (P := 0) 1 hF hR k0 hm rfl)
    clear h hR hF k0
    go_enter Tryz.func32, Tryz.ntmps32
    go_wp2_with fail
    (with_reducible refine (HY.out).mono ?_); rintro e w1 ⟨rfl, hF1⟩
    go_wp2
    exact ⟨rfl, rfl, hsub hF1⟩
  · have hY := fun (W : World) (hF : Fr w0 [(g, rdO A l.length c 0 0 E)] W) => want_yes (p := 0) (P := 0) (Q := 1) 1 hF hg (by simp) hR h1 (k0 h1) hm rfl rfl
    have HZ := Lib.hid (fun (W : World) (hF : Fr w0 [(g, rdO A l.length c 1 0 E)] W) => want_no (p := 1) (P := 1) 3 hF hR k1 hm rfl)
    obtain ⟨t, ht⟩ : ∃ t, l[0] = t := ⟨_, rfl⟩
    rw [ht] at hY
    have HY := Lib.hid hY
    clear h hR k0 k1 hY ht
    go_enter Tryz.func32, Tryz.ntmps32
    go_wp2_with fail
    (with_reducible refine (HY.out _ hF).mono ?_); rintro e w1 ⟨rfl, hF1, _⟩
    go_wp2_with fail
    (with_reducible refine (HZ.out _ hF1).mono ?_); rintro e w2 ⟨rfl, hF2⟩
    go_wp2
    exact ⟨rfl, rfl, hsub hF2⟩
  · have hY := fun (W : World) (hF : Fr w0 [(g, rdO A l.length c 0 0 E)] W) => want_yes (p := 0) (P := 0) (Q := 1) 1 hF hg (by simp) hR (by omega) (k0 (by omega)) hm rfl rfl
    have hZ := fun (W : World) (hF : Fr w0 [(g, rdO A l.length c 1 0 E)] W) => want_yes (p := 1) (P := 1) (Q := 2) 3 hF hg (by simp) hR (by omega) (k1 (by omega)) hm rfl rfl
    obtain ⟨t, ht⟩ : ∃ t, l[0] = t := ⟨_, rfl⟩
    obtain ⟨u, hu⟩ : ∃ t, l[1] = t := ⟨_, rfl⟩
    rw [ht] at hY
    rw [hu] at hZ
    have HY := Lib.hid hY
    have HZ := Lib.hid hZ
    rw [h2] at HY HZ hF
    obtain ⟨K, F, T, N, S, f⟩ := u
    have HZ2 : Hid (∀ (W : World), Fr w0 [(g, rdO A 2 c 1 0 E)] W → Calls Tryz.prog 44 #[.pointer (some ⟨g, 0, none⟩), .int .i64 3] W (WantR w0 W g (rdO A 2 c 2 0 E) [] (tkV K F T N S f))) := HZ
    clear h hR h2 hu ht k0 k1 hY hZ HZ
    go_enter Tryz.func32, Tryz.ntmps32
    go_wp2_with fail
    (with_reducible refine (HY.out _ hF).mono ?_); rintro e w1 ⟨rfl, hF1, _⟩
    go_wp2_with fail
    (with_reducible refine (HZ2.out _ hF1).mono ?_); rintro e w2 ⟨rfl, hF2, _⟩
    obtain ⟨⟨c0, c1, c2, c3⟩, ⟨f0, f1, f2, f3⟩, l1⟩ := bx4 (hF2.at (g := g) (o := rdO A 2 c 2 0 E) List.mem_cons_self)
    have HF3 : Hid (Fr w0 [(g, rdO A 2 c 2 N E)] (w2.setCell ⟨g, 2, none⟩ (.int .i64 N))) := Lib.hid (by
      have := hF2.set hg (by simp) 2 (.int .i64 N)
      simpa using this)
    clear hF hF1 hF2 HY HZ2
    go_upto_region 3 with fail
    generalize w2.setCell ⟨g, 2, none⟩ (.int .i64 N) = W3 at *
    clear c0 c1 c2 c3 f0 f1 f2 f3 l1
    obtain ⟨⟨c0, c1, c2, c3⟩, ⟨f0, f1, f2, f3⟩, l1⟩ := bx4 (HF3.out.at (g := g) (o := rdO A 2 c 2 N E) List.mem_cons_self)
    go_quiet (fail)
    go_wp2
    exact ⟨rfl, rfl, hsub (HF3.out.drewN _)⟩
end Go.Proofs.YtcopnpllaoahaaaGreatDoor
namespace Go.Proofs.YtcopnpllaoahaaaGreatDoor
open Go.ChangeShapes Go.WideShapes Go.ChangeAt Go.RowKit Go.Deep
theorem lxs_of {l : List (String × DataW Unit)} {W : World} (h : laidMet Tryz.prog l W) (hl : l = [("math/bits.deBruijn32tab", Rows.laid_math_bits_deBruijn32tab), ("math/bits.deBruijn64tab", Rows.laid_math_bits_deBruijn64tab), ("internal/strconv.uint64pow10", Rows.laid_internal_strconv_uint64pow10), ("unicode/utf8.acceptRanges", Rows.laid_unicode_utf8_acceptRanges), ("dragnet/words.escapes", Rows.laid_dragnet_words_escapes), ("dragnet/syntax.heads", Rows.laid_dragnet_syntax_heads), ("unicode/utf8.first", Rows.laid_unicode_utf8_first)]) : LxW W := by
  subst hl
  exact ⟨esc_of h (by simp), pow_of h (by simp), tzt_of h (by simp)⟩
theorem hdType : (Tryz.prog.globals[0]?).map (·.type) = some 96 := by kernel_rfl
theorem hd_global : Tryz.prog.globalNamed "dragnet/syntax.heads" = some 0 := by kernel_rfl
set_option maxRecDepth 100000 in
theorem hd_of {l : List (String × DataW Unit)} {W : World} (h : laidMet Tryz.prog l W) (hm : ("dragnet/syntax.heads", Rows.laid_dragnet_syntax_heads) ∈ l) : Hd W := by
  obtain ⟨ps, hv, _, _⟩ := h
  obtain ⟨g, t, cs, fuel, p, hg, ht, hvar, htr⟩ := laidVars_mem hv hm
  obtain rfl := Option.some.inj (hd_global.symm.trans hg)
  obtain rfl := Option.some.inj (hdType.symm.trans ht)
  have hc := Lib.cells_of_tab (zs := [0, 4, 5, 6, 2]) (k := .i64) Tryz.underlying96 Tryz.underlying3 (by kernel_rfl) (by kernel_rfl) htr
  have hcs : cs = #[.int .i64 0, .int .i64 4, .int .i64 5, .int .i64 6, .int .i64 2] := by
    apply Array.toList_inj.1
    rw [hc]
    rfl
  subst hcs
  unfold World.var? at hvar
  simp only [hd_global, Option.bind_some] at hvar
  unfold Hd
  rcases hh : W.heap[0]? with _ | o
  · rw [hh] at hvar; cases hvar
  · have hlt := heap_lt hh
    rw [hh] at hvar
    cases o with
    | cells a b c =>
      simp only [Option.some.injEq] at hvar
      subst hvar
      refine ⟨hlt, fun i hi => ?_⟩
      rcases (show i = 0 ∨ i = 1 ∨ i = 2 ∨ i = 3 ∨ i = 4 by omega) with rfl | rfl | rfl | rfl | rfl <;> simp [World.cell?, hh, hdN]
    | _ => cases hvar
theorem hds_of {l : List (String × DataW Unit)} {W : World} (h : laidMet Tryz.prog l W) (hl : l = [("math/bits.deBruijn32tab", Rows.laid_math_bits_deBruijn32tab), ("math/bits.deBruijn64tab", Rows.laid_math_bits_deBruijn64tab), ("internal/strconv.uint64pow10", Rows.laid_internal_strconv_uint64pow10), ("unicode/utf8.acceptRanges", Rows.laid_unicode_utf8_acceptRanges), ("dragnet/words.escapes", Rows.laid_dragnet_words_escapes), ("dragnet/syntax.heads", Rows.laid_dragnet_syntax_heads), ("unicode/utf8.first", Rows.laid_unicode_utf8_first)]) : Hd W := by
  subst hl
  exact hd_of h (by simp)
end Go.Proofs.YtcopnpllaoahaaaGreatDoor
