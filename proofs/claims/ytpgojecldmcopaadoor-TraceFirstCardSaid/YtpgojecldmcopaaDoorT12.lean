/- Traces: Parts of the program. -/
import Derived.Test.YtpgojecldmcopaaDoorT9
import Derived.Test.YtpgojecldmcopaaDoorT10
import Derived.Test.YtpgojecldmcopaaDoorT11
import Derived.Test.YtpgojecldmcopaaDoorSort
import Derived.Test.YtpgojecldmcopaaDoorEntry
import Derived.Deep.DeepCutAuto
namespace Go.Proofs.YtpgojecldmcopaaDoor
open Go.RowKit
abbrev bxO (A : Option Addr) (n c : Nat) : Obj := .cells #[.slice A n c] 42 (0, 0)
def szR (r : List Rg) (k : Nat) : Int := (r.getD k rgz).2.2
theorem grown_of_below {w w' : World} (h : Below w.heap.size w w') (row : Option Nat) : w.grownBy w' row := ⟨h.os, h.tape, h.output, h.size, fun k hk _ => h.block k hk⟩
theorem sortC (w : World) (G R0 : Nat) (A' : Option Addr) (c' : Nat) (r : List Rg) (hr : r.length ≤ 1000000) (hR : Reads w G 3 A' r.length (rgs r))
    (hG : w.heap[G]? = some (CtO (nats (List.range r.length)))) (hbox : w.heap[R0]? = some (bxO A' r.length c')) (hRG : R0 ≠ G) (hb : ∀ y ∈ r, badRg y = false) :
    Calls Tryd.prog 20 #[.slice (some ⟨G, 0, none⟩) r.length r.length, .func (.func 21) #[] #[.pointer (some ⟨R0, 0, none⟩)]] w fun e w' => e = .returned (.tuple #[]) ∧
      ∃ o : List Nat, o.Perm (List.range r.length) ∧ (∀ i j (hi : i < j) (hj : j < o.length), bsR r (o[i]'(Nat.lt_trans hi hj)) ≤ bsR r o[j]) ∧ w'.heap[G]? = some (CtO (nats o)) ∧ w.grownBy w' (some G) := by
  rcases Nat.eq_zero_or_pos r.length with h0 | h0
  · rw [h0]
    refine (sort0 w G 0 _).mono ?_
    rintro e w' ⟨rfl, hb1⟩
    refine ⟨rfl, [], List.Perm.refl _, fun i j _ hj => absurd hj (by simp), ?_, grown_of_below hb1 _⟩
    rw [h0] at hG
    exact (hb1.block G (heap_lt hG)).trans hG
  · exact sort_ Tryd.sortInts w G R0 A' c' r.length r h0 hr hR hG hbox hRG hb
/-- order[i] = i, up to k -/
def fillN (n k : Nat) : List Int := nats (List.range k) ++ List.replicate (n - k) 0
theorem fillN_len (n k : Nat) (h : k ≤ n) : (fillN n k).length = n := by simp [fillN, nats]; omega
theorem fillN_set (n k : Nat) (h : k < n) : (fillN n k).set k (k : Int) = fillN n (k + 1) := by
  unfold fillN
  have hl : (nats (List.range k)).length = k := by simp [nats]
  rw [List.set_append_right _ _ (by omega), hl, Nat.sub_self, show n - k = n - (k + 1) + 1 by omega, List.replicate_succ, List.set_cons_zero]
  unfold nats
  rw [List.range_succ, List.map_append]
  simp
theorem fillN_all (n : Nat) : fillN n n = nats (List.range n) := by simp [fillN]
theorem mk_intsN (n : Nat) (hn : n ≤ 1000001) (W : World) : (Instr.makeSlice 37 (.int .i64 (n : Int)) (.int .i64 (n : Int))).run Tryd.prog W = .ok (.slice (some ⟨W.heap.size, 0, none⟩) n n) (W.alloc (.cells (madeCells #[.int .i64 0] n) 3)) :=
  run_mk1 (P := Tryd.prog) intEl rfl .i64 .i64 n n (Nat.le_refl _) (by omega) (by omega) W
/-- each of the first m has room behind the one before it -/
def AdjTo (r : List Rg) (o : List Nat) (m : Nat) : Prop := ∀ i, 0 < i → i < m → i < o.length → ¬ (bsR r (o.getD i 0) < bsR r (o.getD (i - 1) 0) + szR r (o.getD (i - 1) 0))
theorem AdjTo.start (r : List Rg) (o : List Nat) : AdjTo r o 1 := fun i h0 h1 => absurd h1 (by omega)
theorem AdjTo.step {r : List Rg} {o : List Nat} {m : Nat} (h : AdjTo r o m) (e : ¬ (bsR r (o.getD m 0) < bsR r (o.getD (m - 1) 0) + szR r (o.getD (m - 1) 0))) : AdjTo r o (m + 1) := fun i h0 h1 h2 => by
  rcases Nat.lt_or_ge i m with h3 | h3
  · exact h i h0 h3 h2
  · obtain rfl : i = m := by omega
    exact e
theorem AdjTo.free {r : List Rg} {o : List Nat} {m : Nat} (h : AdjTo r o m) (hm : o.length ≤ m) (hb : ∀ y ∈ r, badRg y = false) (hp : o.Perm (List.range r.length))
    (hs : ∀ i j (hi : i < j) (hj : j < o.length), bsR r (o[i]'(Nat.lt_trans hi hj)) ≤ bsR r o[j]) : Free r :=
  free_of_sorted hb hp hs fun n h0 hn => by
    have := h n h0 (by omega) hn
    rw [getD_at hn, getD_at (show n - 1 < o.length by omega)] at this
    exact this
theorem adj_not {r : List Rg} {o : List Nat} {m : Nat} (h0 : 0 < m) (hm : m < o.length) (hb : ∀ y ∈ r, badRg y = false) (hp : o.Perm (List.range r.length))
    (hs : ∀ i j (hi : i < j) (hj : j < o.length), bsR r (o[i]'(Nat.lt_trans hi hj)) ≤ bsR r o[j]) (e : bsR r (o.getD m 0) < bsR r (o.getD (m - 1) 0) + szR r (o.getD (m - 1) 0)) : ¬ Free r :=
  not_free_of_sorted hb hp hs h0 hm (by
    rw [getD_at hm, getD_at (show m - 1 < o.length by omega)] at e
    exact e)
theorem zInt (w : World) : (zeroValue 3).run Tryd.prog w = .ok (.int .i64 0) w := by kernel_rfl
theorem wf_i64 {n : Int} (h1 : -9223372036854775808 ≤ n) (h2 : n ≤ 9223372036854775807) : (Lit.int .i64 n).wf = true := by
  simp [Lit.wf, IntKind.min, IntKind.max, IntKind.bits, IntKind.signed]; omega
theorem fr_map {w w1 w2 : World} {L : List (Nat × Obj)} {M : Nat} (h : Fr w L w1) (hM : w.heap.size ≤ M) (hL : ∀ p ∈ L, p.1 ≠ M) (hg : w1.grownBy w2 (some M)) : Fr w L w2 :=
  h.grown (h.bel.grown hg h.bel.size (fun k hk => by cases hk; exact hM)) hg (fun p hp e => hL p hp (by cases e; rfl))
theorem perm_lt {o : List Nat} {n : Nat} (hp : o.Perm (List.range n)) {i : Nat} (hi : i < o.length) : o.getD i 0 < n := by
  rw [getD_at hi]
  simpa using hp.subset (List.getElem_mem hi)
abbrev P2 (w : World) (G : Nat) (C : List Int) (A' : Option Addr) (n c' : Nat) (wr : World) : Prop := Fr w [(G, CtO C), (w.heap.size, bxO A' n c')] wr
theorem p2_cell {w wr : World} {G i : Nat} {C : List Int} {A' : Option Addr} {n c' : Nat} (h : P2 w G C A' n c' wr) (hi : i < C.length) : wr.cell? ⟨G, i, none⟩ = some (.int .i64 (C.getD i 0)) ∧ wr.frozen? ⟨G, i, none⟩ = false := ct_cell (h.sub fun p hp => by simp at hp; simp [hp]) hi
theorem p2_set {w wr : World} {G i : Nat} {C : List Int} {A' : Option Addr} {n c' : Nat} {v : Int} (h : P2 w G C A' n c' wr) (hG : w.heap.size < G) : P2 w G (C.set i v) A' n c' (wr.setCell ⟨G, i, none⟩ (.int .i64 v)) := by
  have := Fr.set h (by omega) (by intro p hp; rw [List.mem_singleton.1 hp]; simp only; omega) i (.int .i64 v)
  rwa [ints_set] at this
theorem p2_box {w wr : World} {G : Nat} {C : List Int} {A' : Option Addr} {n c' : Nat} (h : P2 w G C A' n c' wr) : wr.cell? ⟨w.heap.size, 0, none⟩ = some (.slice A' n c') := cell_box (h.at (g := w.heap.size) (o := bxO A' n c') (by simp))
theorem ranges_heap {w w' : World} {b it n : Nat} {D : DataW Unit} {left : Lit → Bool} {cnt : Nat} (h : w.ranges Tryd.prog 30 (plainElem (H := Unit) Tryd.prog 3) b it n D left cnt) (h1 : w'.heap[b]? = w.heap[b]?) (h2 : w'.heap[it]? = w.heap[it]?) : w'.ranges Tryd.prog 30 (plainElem (H := Unit) Tryd.prog 3) b it n D left cnt := by
  obtain ⟨es, clock, since, seen, c0, hb, F, hs, hD, hr, rest⟩ := h
  exact ⟨es, clock, since, seen, c0, h1.trans hb, F, hs, hD, h2.trans hr, rest⟩
theorem ranges_go {w w' : World} {b it n : Nat} {D : DataW Unit} {left : Lit → Bool} {cnt : Nat} (h : w.ranges Tryd.prog 30 (plainElem (H := Unit) Tryd.prog 3) b it n D left cnt) (hb : Below w.heap.size w w') : w'.ranges Tryd.prog 30 (plainElem (H := Unit) Tryd.prog 3) b it n D left cnt :=
  ranges_heap h (hb.block _ h.owns.lt) (hb.block _ h.lt)
theorem ranges_set {w : World} {b it n : Nat} {D : DataW Unit} {left : Lit → Bool} {cnt : Nat} (h : w.ranges Tryd.prog 30 (plainElem (H := Unit) Tryd.prog 3) b it n D left cnt) {p : Addr} (v : Value) (h1 : p.block ≠ b) (h2 : p.block ≠ it) : (w.setCell p v).ranges Tryd.prog 30 (plainElem (H := Unit) Tryd.prog 3) b it n D left cnt :=
  ranges_heap h (Go.RowKit.Below.heap_setCell w p v b (fun e => h1 e.symm)) (Go.RowKit.Below.heap_setCell w p v it (fun e => h2 e.symm))
theorem p2_ret {w wi : World} {G n : Nat} {C : List Int} {A' : Option Addr} {n' c' : Nat} (h : P2 w G C A' n' c' wi) (hn : C.length = n) (h63 : n ≤ 1000001) {E : Int} (hE : E = 0) : RetSl w 1 (ints C) n E (.returned (.tuple #[.slice (some ⟨G, 0, none⟩) n n, .int .i64 0])) wi := ct_ret (h.sub fun p hp => by simp at hp; simp [hp]) hn h63 hE
theorem p2_box0 {w wr : World} {A' : Option Addr} {n c' : Nat} (h : Fr w [(w.heap.size, bxO A' n c')] wr) : wr.cell? ⟨w.heap.size, 0, none⟩ = some (.slice A' n c') := cell_box (h.at (g := w.heap.size) List.mem_cons_self)
set_option maxRecDepth 100000 in
set_option maxHeartbeats 8000000 in
theorem parts_ (w : World) (A A' : Option Addr) (c c' : Nat) (l : List Ev) (r : List Rg) (h : Reads w w.heap.size 2 A l.length (evs l)) (ho : Ok32 l) (hl : l.length ≤ 140737488355327) (h' : Reads w w.heap.size 3 A' r.length (rgs r)) (hr : r.length ≤ 1000000) (E : Int) (hE : PtE r E) :
    Calls Tryd.prog 12 #[.slice A l.length c, .slice A' r.length c'] w (RetSl w 1 (ints (ptL l r E)) (ptL l r E).length E) := by
  have HE := Lib.hid hE
  have H := Lib.hid h
  have H' := Lib.hid h'
  have HO := Lib.hid ho
  have hF0 := (Fr.start w).newN (g := w.heap.size) rfl (bxO A' r.length c')
  have hcb := cell_box (hF0.at (g := w.heap.size) List.mem_cons_self)
  have hmm := @run_makeMap Tryd.prog
  clear hE h ho h'
  go_enter Tryd.func12, Tryd.ntmps12
  go_wp2
  generalize w.alloc (bxO A' r.length c') = w0 at *
  go_loopw [21] (fun i wr => ∃ k : Nat, k ≤ r.length ∧ i = .int .i64 k ∧ Hid (Good r k) ∧ Fr w [(w.heap.size, bxO A' r.length c')] wr) (fun i _ => r.length - (intOf i).toNat)
  case atStart => exact ⟨0, Nat.zero_le _, rfl, Lib.hid (Good.start r), hF0⟩
  case round =>
    clear hcb hF0
    obtain ⟨k, hk, rfl, hg, hF⟩ := hrel
    by_cases hlt : k < r.length
    · obtain ⟨b, off, s, B, S, rfl, hb, d1, d2, d3, hd⟩ := rgAt (H'.out.go hF.bel) hlt
      have hF2 := Lib.hid (hF.al (rgO (s, B, S)))
      have hB := hF2.out.bel
      by_cases hbad : badRg (s, B, S) = false
      · obtain ⟨⟨q1, q2⟩, q3, q4⟩ := badRg_iff.1 hbad
        have hg2 := Lib.hid (hg.out.step hd hbad)
        have i1 : IntKind.i64.wrap (65536 - B) = 65536 - B := IntWalk.i64_in _ (by omega)
        clear hbad hd hF hB
        go_wp2
        all_goals first | (exfalso; omega) | skip
        go_roundw
        case rel => exact ⟨k + 1, by omega, by go_num, hg2, hF2.out⟩
        case measure => simp [intOf]; omega
      · have hX := HE.out.bad (mem_of_hd hd) (by simpa using hbad)
        subst hX
        have hnb : ¬ ((0 ≤ B ∧ 1 ≤ S) ∧ B ≤ 65536 ∧ S ≤ 65536 - B) := fun hh => hbad (badRg_iff.2 hh)
        clear hbad hd HE hF
        by_cases n3 : 0 ≤ B ∧ B ≤ 65536
        · have i1 : IntKind.i64.wrap (65536 - B) = 65536 - B := IntWalk.i64_in _ (by omega)
          go_wp2
          all_goals first | (exfalso; omega) | skip
          all_goals
            go_ret2
            exact RetSl.nil hB rfl rfl
        · go_wp2
          all_goals first | (exfalso; omega) | skip
          all_goals
            go_ret2
            exact RetSl.nil hB rfl rfl
    · have hG := Lib.hid (hg.out.all (by omega))
      have hcb := cell_box (hF.at (g := w.heap.size) List.mem_cons_self)
      have hmk := mk_intsN r.length (by omega)
      have hF1 := hF.newN (g := wr.heap.size) rfl (.cells (madeCells #[.int .i64 0] r.length) 3)
      rw [ints_made, show List.replicate r.length 0 = fillN r.length 0 by simp [fillN, nats]] at hF1
      have hlt0 := hF.lt (g := w.heap.size) List.mem_cons_self
      have hst0 : P2 w wr.heap.size (fillN r.length 0) A' r.length c' (wr.alloc (.cells (madeCells #[.int .i64 0] r.length) 3)) := by rw [ints_made, show List.replicate r.length 0 = fillN r.length 0 by simp [fillN, nats]]; exact hF1
      clear hg hF1 hF
      go_wp2
      generalize wr.alloc (.cells (madeCells #[.int .i64 0] r.length) 3) = wq at *
      generalize wr.heap.size = G at *
      go_loopw [52] (fun i wi => ∃ k : Nat, k ≤ r.length ∧ i = .int .i64 k ∧ P2 w G (fillN r.length k) A' r.length c' wi) (fun i _ => r.length - (intOf i).toNat)
      case atStart => exact ⟨0, Nat.zero_le _, rfl, hst0⟩
      case round =>
        clear hcb hst0 hmk
        obtain ⟨k, hk, rfl, hF⟩ := hrel
        by_cases hkr : k < r.length
        · obtain ⟨c1, f1⟩ := p2_cell hF (i := k) (by rw [fillN_len _ _ hk]; omega)
          have hF2 := Lib.hid (p2_set (i := k) (v := (k : Int)) hF hlt0)
          have hfs := Lib.hid (fillN_set r.length k hkr)
          clear hF
          go_wp2
          go_roundw
          case rel => exact ⟨k + 1, by omega, by go_num, by rw [← hfs.out]; exact hF2.out⟩
          case measure => simp [intOf]; omega
        · obtain rfl : k = r.length := by omega
          rw [fillN_all] at hF
          have hso := sortC wr G w.heap.size A' c' r hr ((H'.out.below hF.bel).more (by omega)) (hF.at (g := G) List.mem_cons_self) (hF.at (g := w.heap.size) (o := bxO A' r.length c') (by simp)) (by omega) hG.out
          have HF := Lib.hid hF
          clear hF
          go_wp2_with fail
          (with_reducible refine hso.mono ?_); rintro e w1 ⟨rfl, o, hp, hs, hGo, hgr⟩
          have hF1 : P2 w G (nats o) A' r.length c' w1 := ((HF.out.sub (M := [(w.heap.size, bxO A' r.length c')]) (by simp)).grown (HF.out.bel.grown hgr HF.out.bel.size (fun k hk => by injection hk with hk; omega)) hgr (by intro p hp; rw [List.mem_singleton.1 hp]; intro e; injection e with e; simp only at e; omega)).cons hGo
          have Hp := Lib.hid hp
          have Hs := Lib.hid hs
          have hol : o.length = r.length := by simpa using hp.length_eq
          clear hso hp hs hGo hgr HF
          go_wp2
          go_loopw [10] (fun i wi => ∃ m : Nat, 1 ≤ m ∧ (m ≤ o.length ∨ m = 1) ∧ i = .int .i64 m ∧ Hid (AdjTo r o m) ∧ P2 w G (nats o) A' r.length c' wi) (fun i _ => o.length - (intOf i).toNat)
          case atStart => exact ⟨1, Nat.le_refl _, .inr rfl, rfl, Lib.hid (AdjTo.start r o), hF1⟩
          case round =>
            clear hF1
            obtain ⟨m, hm1, hm2, rfl, hA, hF⟩ := hrel
            by_cases hml : m < o.length
            · obtain ⟨j, rfl⟩ : ∃ j, m = j + 1 := ⟨m - 1, by omega⟩
              have hF' := Lib.hid hF
              have hq1 := perm_lt Hp.out (show j < o.length by omega)
              have hq2 := perm_lt Hp.out (show j + 1 < o.length by omega)
              have hno : (nats o).length = o.length := by simp [nats]
              obtain ⟨k1, _⟩ := p2_cell hF (i := j) (by omega)
              obtain ⟨k2, _⟩ := p2_cell hF (i := j + 1) (by omega)
              have e1 : (nats o).getD j 0 = ((o.getD j 0 : Nat) : Int) := by rw [getD_at (by omega), getD_at (by omega)]; simp [nats]
              have e2 : (nats o).getD (j + 1) 0 = ((o.getD (j + 1) 0 : Nat) : Int) := by rw [getD_at (by omega), getD_at (by omega)]; simp [nats]
              rw [e1] at k1
              rw [e2] at k2
              have kb := p2_box hF
              have hadj := adj_not (r := r) (show 0 < j + 1 by omega) hml hG.out Hp.out Hs.out
              have hst := hA.out.step
              simp only [Nat.add_sub_cancel] at hadj hst
              generalize o.getD j 0 = x at *
              generalize o.getD (j + 1) 0 = y at *
              obtain ⟨b, off, s, B, S, rfl, hb, d1, d2, d3, hd⟩ := rgAt (H'.out.go hF.bel) hq1
              obtain ⟨b', off', s', B', S', hA', hb', d1', d2', d3', hd'⟩ := rgAt (H'.out.go hF.bel) hq2
              injection hA' with hA'; injection hA' with a1 a2; subst a1 a2
              obtain ⟨_, g1⟩ := getD_hd (z := rgz) hd
              obtain ⟨_, g2⟩ := getD_hd (z := rgz) hd'
              have b1 : bsR r x = B := by unfold bsR; rw [g1]
              have b2 : bsR r y = B' := by unfold bsR; rw [g2]
              have b3 : szR r x = S := by unfold szR; rw [g1]
              rw [b1, b2, b3] at hadj hst
              obtain ⟨⟨o1, o2⟩, o3, o4⟩ := badRg_iff.1 (hG.out _ (mem_of_hd hd))
              have i0 : IntKind.i64.wrap (B + S) = B + S := IntWalk.i64_in _ (by omega)
              have i1 : IntKind.i64.wrap ((j : Int) + 1 - 1) = (j : Int) := by rw [IntWalk.i64_in _ (by omega)]; omega
              have i1' : IntKind.i64.wrap (j : Int) = (j : Int) := IntWalk.i64_in _ (by omega)
              have i2 : (j : Int) + 1 < (r.length : Int) := by omega
              have i9 : (0 : Int) ≤ (j : Int) + 1 := by omega
              have i3 : (j : Int) < (r.length : Int) := by omega
              have i4 : (x : Int) < (r.length : Int) := by omega
              have i5 : (y : Int) < (r.length : Int) := by omega
              have i6 : (0 : Int) ≤ (x : Int) := by omega
              have i7 : (0 : Int) ≤ (y : Int) := by omega
              have i8 : (0 : Int) ≤ (j : Int) := by omega
              have l1 := hF.lt (g := G) List.mem_cons_self
              have l2 := hF.lt (g := w.heap.size) (o := bxO (some ⟨b, off, none⟩) r.length c') (by simp)
              have K2 := Lib.hid k2
              have Hadj := Lib.hid hadj
              have Hst := Lib.hid hst
              clear hadj hst hF hA e1 e2 g1 g2 b1 b2 b3 hd hd' d1' d3'
              have D2 := Lib.hid d2'
              go_wp2
              go_region
              have hF2 : P2 w G (nats o) (some ⟨b, off, none⟩) r.length c' (wr.alloc (rgO (s, B, S))).drew := (hF'.out.al _).drew
              have n1 : (wr.alloc (rgO (s, B, S))).drew.cell? ⟨wr.heap.size, 1, none⟩ = some (.int .i64 B) := Lib.cell_of_heap (alloc1_new _ _) 1
              have n2 : (wr.alloc (rgO (s, B, S))).drew.cell? ⟨wr.heap.size, 2, none⟩ = some (.int .i64 S) := Lib.cell_of_heap (alloc1_new _ _) 2
              have n3 : (wr.alloc (rgO (s, B, S))).drew.cell? ⟨b, off + y * 3 + 1, none⟩ = some (.int .i64 B') := (World.cell?_alloc_lt wr (rgO (s, B, S)) ⟨b, off + y * 3 + 1, none⟩ hb).trans D2.out
              have n4 : (wr.alloc (rgO (s, B, S))).drew.cell? ⟨G, j + 1, none⟩ = some (.int .i64 (y : Int)) := (World.cell?_alloc_lt wr (rgO (s, B, S)) ⟨G, j + 1, none⟩ l1).trans K2.out
              have n5 := p2_box hF2
              replace hF2 := Lib.hid hF2
              clear d1 d2 d3 d2' kb k1 k2 hF' l1 l2 K2 D2 i1 i1'
              generalize (wr.alloc (rgO (s, B, S))).drew = w2 at *
              generalize wr.heap.size = X at *
              by_cases hc : B' < B + S
              · have hX := HE.out.laps hG.out (Hadj.out hc)
                subst hX
                clear HE Hst Hadj
                go_wp2
                have m1 : decide (B' < B + S) = true := by simp; omega
                go_quiet (fail)
                go_wp2
                go_ret2
                exact RetSl.nil (Go.RowKit.Below.trans hF2.out.bel (drewN_below _ _)) rfl rfl
              · have HA2 := Lib.hid (Hst.out (by omega))
                clear Hst Hadj
                go_wp2
                have m1 : decide (B' < B + S) = false := by simp; omega
                go_quiet (fail)
                go_wp2
                go_roundw
                case rel => exact ⟨j + 1 + 1, by omega, by omega, by go_num, HA2, hF2.out.drewN _⟩
                case measure => simp [intOf]; omega
            · have hFree := hA.out.free (by omega) hG.out Hp.out Hs.out
              have hX := HE.out.ok hG.out hFree
              subst hX
              have HL := Lib.hid (show ptL l r 0 = cnts l r from if_pos rfl)
              have hmf : ¬ ((m : Int) < (r.length : Int)) := by omega
              have hl0 := hF.lt (g := w.heap.size) (o := bxO A' r.length c') (by simp)
              have hF1 : Fr w [(w.heap.size, bxO A' r.length c')] (wr.alloc (.map #[] 0)) := (hF.al _).sub (by simp)
              have hM1 : (wr.alloc (.map #[] 0)).ownsMap Tryd.prog 30 (plainElem (H := Unit) Tryd.prog 3) wr.heap.size 0 (.map []) := World.ownsMap_made _ _ _ _
              clear HE hA hF hFree Hp Hs
              go_wp2
              generalize wr.alloc (.map #[] 0) = wq2 at *
              generalize wr.heap.size = M at *
              go_loopw [94] (fun i wi => ∃ (k : Nat) (D : DataW Unit), k ≤ l.length ∧ i = .int .i64 k ∧ Fr w [(w.heap.size, bxO A' r.length c')] wi ∧ wi.ownsMap Tryd.prog 30 (plainElem (H := Unit) Tryd.prog 3) M k D ∧ Hid (MapIs D (l.take k))) (fun i _ => l.length - (intOf i).toNat)
              case atStart => exact ⟨0, _, Nat.zero_le _, rfl, hF1, hM1, Lib.hid MapIs.nil⟩
              case round =>
                clear hF1 hM1 hmm
                obtain ⟨k, D, hk, rfl, hF, hM, hD⟩ := hrel
                by_cases hkl : k < l.length
                · obtain ⟨b, off, K, a, rfl, hb, d1, d2, hd⟩ := evAt (H.out.go hF.bel) hkl
                  obtain ⟨h1, h2⟩ := HO.out _ (mem_dropE hd)
                  simp only at h1 h2
                  have hkey := evKey (x := (K, a)) h1 h2
                  have hC := fun c hc => hD.out.look (x := (K, a)) h1 h2 (c := c) hc
                  have hcn : ((l.take k).count (K, a) : Int) ≤ 140737488355327 := by have := List.count_le_length (a := (K, a)) (l := l.take k); rw [List.length_take] at this; omega
                  have hst := Lib.hid (hD.out.step (x := (K, a)) h1 h2 rfl)
                  rw [← take_of_drop hd.out] at hst
                  obtain ⟨w4, hw4⟩ : ∃ w4, w4 = wr.alloc (.cells #[.int .i32 K, .int .i32 a] 30 (0, 0)) := ⟨_, rfl⟩
                  have hF2 : Fr w [(w.heap.size, bxO A' r.length c')] w4 := by rw [hw4]; exact hF.al _
                  have hM3 : w4.drew.ownsMap Tryd.prog 30 (plainElem (H := Unit) Tryd.prog 3) M k D := by rw [hw4]; exact hM.alloc _
                  have x0 : w4.cell? ⟨wr.heap.size, 0, none⟩ = some (.int .i32 K) := by rw [hw4]; exact Lib.cell_of_heap (alloc1_new _ _) 0
                  have x1 : w4.cell? ⟨wr.heap.size, 1, none⟩ = some (.int .i32 a) := by rw [hw4]; exact Lib.cell_of_heap (alloc1_new _ _) 1
                  have hc0 : (0 : Int) ≤ ((l.take k).count (K, a) : Int) := by omega
                  generalize (((l.take k).count (K, a) : Nat) : Int) = C at *
                  have hwf := wf_i64 (n := C + 1) (by omega) (by omega)
                  obtain ⟨w5, v5, s5, r5, hg5, ⟨D5, ho5, hat5⟩, hst5⟩ := ownsMap_entry hM3 evKeyed Tryd.underlying66 (by unfold maxLen; omega) (zInt _) (plainElem_int Tryd.underlying3 (by decide)) hkey
                  obtain ⟨w6, r6, ho6, hg6⟩ := hst5 w5 rfl (.int .i64 (C + 1)) _ (plainElem_int Tryd.underlying3 hwf)
                  obtain ⟨c4, r4, hat4, _⟩ := hM3.lookup_int evKeyed Tryd.underlying66 Tryd.underlying3 (zInt _) hkey
                  obtain ⟨c7, r7, hat7, _⟩ := ho5.lookup_int evKeyed Tryd.underlying66 Tryd.underlying3 (zInt _) hkey
                  obtain rfl := hC c4 hat4
                  obtain rfl := hC c7 (hat5.symm.trans hat7)
                  have hF6 := Lib.hid (fr_map (fr_map hF2.drew (by omega) (by intro p hp; rw [List.mem_singleton.1 hp]; simp only; omega) hg5) (by omega) (by intro p hp; rw [List.mem_singleton.1 hp]; simp only; omega) hg6)
                  have HO6 := Lib.hid ho6
                  have R := Lib.hid (And.intro r4 (And.intro r5 (And.intro r6 r7)))
                  have X01 := Lib.hid (And.intro x0 x1)
                  have i1 : IntKind.i64.wrap (c7 + 1) = c7 + 1 := IntWalk.i64_in _ (by omega)
                  have HW4 := Lib.hid hw4
                  clear hF hM hD hd hC hkey x0 x1 hM3 hF2 hst5 ho5 hat5 hat4 hat7 ho6 hg5 hg6 r4 r5 r6 r7 hwf hw4
                  go_wp2_with fail
                  rw [← HW4.out]
                  obtain ⟨x0, x1⟩ := X01.out
                  obtain ⟨r4, r5, r6, r7⟩ := R.out
                  go_region
                  all_goals
                    clear x0 x1 r4 r5 r6 r7 R X01
                    go_wp2
                    go_roundw
                    case rel => exact ⟨k + 1, _, by omega, by go_num, hF6.out, HO6.out, hst⟩
                    case measure => simp [intOf]; omega
                · obtain rfl : k = l.length := by omega
                  rw [List.take_of_length_le (Nat.le_refl _)] at hD
                  have hcb := p2_box0 hF
                  have hmk := mk_ints r.length hr
                  have hn1 : IntKind.i64.wrap ((r.length : Int) + 1) = (r.length : Int) + 1 := IntWalk.i64_in _ (by omega)
                  have hlM := hM.lt
                  have hF1 := hF.newN (g := wr.heap.size) rfl (.cells (madeCells #[.int .i64 0] (r.length + 1)) 3)
                  rw [ints_made, ← cntsF_start r hD.out HO.out] at hF1
                  have hst0 : P2 w wr.heap.size (cntsF l r (Maps.has D)) A' r.length c' (wr.alloc (.cells (madeCells #[.int .i64 0] (r.length + 1)) 3)) := by rw [ints_made, ← cntsF_start r hD.out HO.out]; exact hF1
                  have hM1 := hM.alloc (.cells (madeCells #[.int .i64 0] (r.length + 1)) 3)
                  clear hF1 hF hM
                  go_wp2_with (at_range; refine wpList_range_own _ rfl _ 66 rfl 30 3 evKeyed Tryd.underlying66 _ M l.length D rfl hM1 ?_; intro w5 hrg hg5 hs5)
                  have hF5 : P2 w wr.heap.size (cntsF l r (Maps.has D)) A' r.length c' w5 := hst0.grown (hst0.bel.grown hg5 hst0.bel.size (fun k hk => by cases hk)) hg5 (by intro p hp e; cases e)
                  have hsz5 : (wr.alloc (.cells (madeCells #[.int .i64 0] (r.length + 1)) 3)).heap.size = wr.heap.size + 1 := by simp
                  rw [hsz5] at hrg
                  simp only [hsz5]
                  clear hst0 hM1 hg5 hs5 hcb hmk hn1
                  generalize wr.heap.size = O at *
                  go_frame
                  go_loopw [18] (fun _ wi => ∃ left cnt, P2 w O (cntsF l r left) A' r.length c' wi ∧ wi.ranges Tryd.prog 30 (plainElem (H := Unit) Tryd.prog 3) M (O + 1) l.length D left cnt) (fun _ wi => wi.rangeLeft M (O + 1))
                  case atStart => exact ⟨_, _, hF5, hrg⟩
                  case round =>
                    clear hF5 hrg
                    obtain ⟨left, cnt, hF, hrg⟩ := hrel
                    go_wp2_with (at_next; refine wpList_next_ranges _ rfl _ rfl 30 evKeyed (plainElem (H := Unit) Tryd.prog 3) (fun x : { x : Ev // In32 x.1 ∧ In32 x.2 } => Value.agg #[.int .i32 x.1.1, .int .i32 x.1.2]) (Value.int .i64) (fun key kl hk => evKey_inv hk) (fun v y hv => by obtain ⟨c, rfl, _⟩ := plainElem_int_inv Tryd.underlying3 hv; exact ⟨c, rfl⟩) M (O + 1) l.length D left cnt rfl hrg ?_ ?_)
                    · intro _ hl0
                      rw [cntsF_end r hl0] at hF
                      have HF := Lib.hid hF
                      clear hF hrg
                      go_wp2
                      go_ret2
                      rw [HL.out, cnts_len]
                      exact p2_ret HF.out (cnts_len l r) (by omega) rfl
                    · intro K a h1 h2 c kl yd yp w1 cnt1 hkey hlk hv hat hrg1 hlt hg1 hs1 hen
                      rw [evKey (x := (K, a)) h1 h2] at hkey
                      injection hkey with hkey
                      subst hkey
                      obtain ⟨c', e', hy, _⟩ := plainElem_int_inv Tryd.underlying3 hv
                      injection e' with _ e'
                      subst e'
                      simp only [Prod.mk.injEq] at hy
                      obtain ⟨rfl, rfl⟩ := hy
                      obtain ⟨hmem, hcn⟩ := hD.out.mem (x := (K, a)) h1 h2 hat
                      injection hcn with hcn
                      injection hcn with _ hcn
                      have hcl := List.count_le_length (a := ((K, a) : Ev)) (l := l)
                      have Hst := Lib.hid (cntsF_step r HO.out (x := (K, a)) h1 h2 hlk)
                      rw [← hcn] at Hst
                      have hcb1 : 0 ≤ c ∧ c ≤ 140737488355327 := by omega
                      have HBd := Lib.hid (cntsF_bd l r left (idxR r a))
                      have HLn := Lib.hid (cntsF_len l r left)
                      have hile := idxR_le r a
                      have hF1 : P2 w O (cntsF l r left) A' r.length c' w1 := fr_map hF (by omega) (by intro p hp; simp only [List.mem_cons, List.not_mem_nil, or_false] at hp; rcases hp with rfl | rfl <;> simp only <;> omega) hg1
                      have hrl := hrg1.left_eq
                      have hrl0 := hrg.left_eq
                      simp only at Hst
                      generalize cntsF l r left = C at *
                      obtain ⟨w2, hw2⟩ : ∃ w2, w2 = w1.alloc (.cells #[.int .i32 K, .int .i32 a] 30 (0, 0)) := ⟨_, rfl⟩
                      have hF2 : P2 w O C A' r.length c' w2 := by rw [hw2]; exact hF1.al _
                      have hrg2 := (hrg1.alloc (.cells #[.int .i32 K, .int .i32 a] 30 (0, 0)))
                      rw [← hw2] at hrg2
                      have hX : w2.cell? ⟨w1.heap.size, 1, none⟩ = some (.int .i32 a) := by rw [hw2]; exact Lib.cell_of_heap (alloc1_new _ _) 1
                      have hXl : w1.heap.size < w2.heap.size := by rw [hw2]; simp
                      have hcb := p2_box hF1
                      have hlw := hF1.lt (g := w.heap.size) (o := bxO A' r.length c') (by simp)
                      have hix := index_ w2 w1.heap.size a A' c' r (H'.out.go hF2.bel) hr hX hXl h2 hG.out
                      have Hrg := Lib.hid hrg2
                      have HF2 := Lib.hid hF2
                      have HX := Lib.hid hX
                      have HW := Lib.hid hw2
                      have Hlt := Lib.hid hlt
                      have Hrl := Lib.hid hrl
                      have Hrl0 := Lib.hid hrl0
                      clear hF hrg hrg1 hg1 hs1 hF1 hF2 hrg2 hX hw2 hlt hrl hrl0 hv hat hlk hmem hcn hcl h1 h2
                      by_cases hI : idxR r a < r.length
                      · have hixv : ixV r a = ((idxR r a : Nat) : Int) := if_pos hI
                        rw [hixv] at hix
                        clear hixv
                        generalize idxR r a = I at *
                        have hI0 : ¬ ((I : Int) < 0) := by omega
                        have HIX := Lib.hid hix
                        clear hix
                        go_wp2_with fail
                        rw [← HW.out]
                        (with_reducible refine HIX.out.mono ?_); rintro e w3 ⟨rfl, hb3⟩
                        have hF3 := HF2.out.go hb3
                        have hrg3 := ranges_go Hrg.out hb3
                        have hcb3 := p2_box hF3
                        obtain ⟨c1, f1⟩ := p2_cell hF3 (i := I) (by rw [HLn.out]; omega)
                        obtain ⟨v0, v1⟩ := HBd.out
                        have hF4 := Lib.hid (p2_set (i := I) (v := C.getD I 0 + c) hF3 (by omega))
                        have hrg4 := Lib.hid (ranges_set hrg3 (p := ⟨O, I, none⟩) (.int .i64 (C.getD I 0 + c)) (by simp only; omega) (by simp only; omega))
                        have hrl4 := Lib.hid hrg4.out.left_eq
                        have i1 : IntKind.i64.wrap (C.getD I 0 + c) = C.getD I 0 + c := IntWalk.i64_in _ (by omega)
                        generalize C.getD I 0 = v at *
                        clear hF3 hrg3 hb3 hcb hen hlw
                        go_wp2
                        go_roundw
                        case rel => exact ⟨_, _, by rw [Hst.out]; exact hF4.out, hrg4.out⟩
                        case measure => rw [hrl4.out, Hrl0.out]; exact Hlt.out
                      · have hixv : ixV r a = -1 := if_neg hI
                        rw [hixv] at hix
                        have hIr : idxR r a = r.length := by omega
                        rw [hIr] at Hst HBd
                        clear hixv hI hile hIr
                        have HIX := Lib.hid hix
                        clear hix
                        go_wp2_with fail
                        rw [← HW.out]
                        (with_reducible refine HIX.out.mono ?_); rintro e w3 ⟨rfl, hb3⟩
                        have hF3 := HF2.out.go hb3
                        have hrg3 := ranges_go Hrg.out hb3
                        have hcb3 := p2_box hF3
                        obtain ⟨c1, f1⟩ := p2_cell hF3 (i := r.length) (by rw [HLn.out]; omega)
                        obtain ⟨v0, v1⟩ := HBd.out
                        have hF4 := Lib.hid (p2_set (i := r.length) (v := C.getD r.length 0 + c) hF3 (by omega))
                        have hrg4 := Lib.hid (ranges_set hrg3 (p := ⟨O, r.length, none⟩) (.int .i64 (C.getD r.length 0 + c)) (by simp only; omega) (by simp only; omega))
                        have hrl4 := Lib.hid hrg4.out.left_eq
                        have i1 : IntKind.i64.wrap (C.getD r.length 0 + c) = C.getD r.length 0 + c := IntWalk.i64_in _ (by omega)
                        generalize C.getD r.length 0 = v at *
                        clear hF3 hrg3 hb3 hcb hen hlw
                        go_wp2
                        go_roundw
                        case rel => exact ⟨_, _, by rw [Hst.out]; exact hF4.out, hrg4.out⟩
                        case measure => rw [hrl4.out, Hrl0.out]; exact Hlt.out
end Go.Proofs.YtpgojecldmcopaaDoor
