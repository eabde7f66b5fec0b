/- Reports' texts: Parse of the program. No condition. -/
import Derived.Test.YtaainkjgnljihaaGreatDoorV3
import Derived.Deep.DeepCutAuto
namespace Go.Proofs.YtaainkjgnljihaaGreatDoor
open Go.RowKit
abbrev inO (x : Int) : Obj := .cells #[.int .i64 x] 3 (0, 0)
theorem fr_next {w W W' : World} {bA p : Nat} {x : Int} {Ls : List (Nat × Obj)} (h : Fr w ((bA, inO x) :: Ls) W) (hx : x = (p : Int)) (hg : w.heap.size ≤ bA) (hL : ∀ q ∈ Ls, q.1 ≠ bA) (hb : Below (W.setCell ⟨bA, 0, none⟩ (.int .i64 (x + 1))).heap.size (W.setCell ⟨bA, 0, none⟩ (.int .i64 (x + 1))) W') : Fr w ((bA, atO (p + 1)) :: Ls) W' := by
  subst hx
  have := (h.set hg hL 0 (.int .i64 ((p : Int) + 1))).go hb
  have e : (.cells ((#[.int .i64 (p : Int)] : Array Value).setIfInBounds 0 (.int .i64 ((p : Int) + 1))) 3 (0, 0) : Obj) = atO (p + 1) := by simp
  rw [e] at this
  exact this
/-- the next line, its answer known -/
theorem nextO (w0 w : World) (bA bL p c : Nat) (x m : Int) (hx : Hid (x = (p : Int))) (A : Option Addr) (L : List ByteArray) (word : ByteArray) (wl : List UInt8) (hwl : Hid (word.data.toList = wl)) (many : Nat) (hmm : Hid (m = (many : Int))) (hm1 : 1 ≤ many) (hm : many ≤ 10) {Ls : List (Nat × Obj)} (hF : Fr w0 Ls w) (hbA : w0.heap.size ≤ bA) (hA : (bA, inO x) ∈ Ls) (hL : (bL, lsO A L.length c) ∈ Ls) (hne : bA ≠ bL)
    (hr : Reads w bA 1 A L.length (Ss L)) (hp : p ≤ 1000000) (hl : L.length ≤ 1000000) (hE : Esc w0) (hM : ML w0) (hR : ER w0) {o : Option (List Int)} (ho : Hid (nxO L p wl many = o)) :
    Calls Tryz.prog 23 #[.string word, .int .i64 m, .pointer (some ⟨bA, 0, none⟩), .pointer (some ⟨bL, 0, none⟩)] w (RetNs (w.setCell ⟨bA, 0, none⟩ (.int .i64 (x + 1))) o) := by
  obtain rfl := hx.out
  obtain rfl := hmm.out
  have := next_ w0 w bA bL p c A L word many hm1 hm hF.bel hbA (hF.at hA) (hF.at hL) hne hr hp hl hE hM hR
  rw [hwl.out, ho.out] at this
  exact this
theorem take_at {cur : Array Value} {n j : Nat} {l : List Value} {u : Value} (hl : cur.toList.take n = l) (hj : l[j]? = some u) : cur[j]? = some u := by
  rw [← hl, List.getElem?_take] at hj
  split at hj
  · simpa using hj
  · cases hj
theorem RetNs.none_ {w : World} {e : Ending} {w' : World} (h : RetNs w none e w') : (∃ v, e = .returned (.tuple #[v, .bool false])) ∧ Below w.heap.size w w' := by
  obtain ⟨v, h1, h2, _⟩ := h
  exact ⟨⟨v, h1⟩, h2⟩
theorem RetNs.some1_ {w : World} {n : Int} {e : Ending} {w' : World} (h : RetNs w (some [n]) e w') : (∃ g cap cur, e = .returned (.tuple #[.slice (some ⟨g, 0, none⟩) 1 cap, .bool true]) ∧ w.heap.size ≤ g ∧ w'.heap[g]? = some (.cells cur 3 (0, 0)) ∧ Hid (cur[0]? = some (.int .i64 n))) ∧ Below w.heap.size w w' := by
  obtain ⟨v, h1, h2, h3⟩ := h
  obtain ⟨g, cap, cur, rfl, h4, h5, h6⟩ := own_cells h3
  exact ⟨⟨g, cap, cur, h1, h4, h5, Lib.hid (take_at h6 rfl)⟩, h2⟩
theorem RetNs.some2_ {w : World} {n m : Int} {e : Ending} {w' : World} (h : RetNs w (some [n, m]) e w') : (∃ g cap cur, e = .returned (.tuple #[.slice (some ⟨g, 0, none⟩) 2 cap, .bool true]) ∧ w.heap.size ≤ g ∧ w'.heap[g]? = some (.cells cur 3 (0, 0)) ∧ Hid (cur[0]? = some (.int .i64 n) ∧ cur[1]? = some (.int .i64 m))) ∧ Below w.heap.size w w' := by
  obtain ⟨v, h1, h2, h3⟩ := h
  obtain ⟨g, cap, cur, rfl, h4, h5, h6⟩ := own_cells h3
  exact ⟨⟨g, cap, cur, h1, h4, h5, Lib.hid ⟨take_at h6 rfl, take_at h6 rfl⟩⟩, h2⟩
theorem rd_next {W W' : World} {bA n : Nat} {A : Option Addr} {xs : List Value} {u : Value} (hr : Reads W bA 1 A n xs) (hlt : bA < W.heap.size) (hb : Below (W.setCell ⟨bA, 0, none⟩ u).heap.size (W.setCell ⟨bA, 0, none⟩ u) W') : Reads W' bA 1 A n xs :=
  (hr.setCell (p := ⟨bA, 0, none⟩) (Nat.le_refl _) u).below' hb (by simp; omega)
theorem fr_over {w W : World} {Ls : List (Nat × Obj)} {x : Value} {b b' : Value} {d d' : Value} (h : Fr w ((w.heap.size, rpO x b' d') :: Ls) W) (hL : ∀ q ∈ Ls, q.1 ≠ w.heap.size) :
    Fr w ((w.heap.size, rpO x b d) :: Ls) ((W.setCell ⟨w.heap.size, 2, none⟩ d).setCell ⟨w.heap.size, 1, none⟩ b) ∧ Fr w ((w.heap.size, rpO x b d) :: Ls) ((W.setCell ⟨w.heap.size, 1, none⟩ b).setCell ⟨w.heap.size, 2, none⟩ d) := by
  have h1 := (h.set (Nat.le_refl _) hL 2 d).set (Nat.le_refl _) hL 1 b
  have h2 := (h.set (Nat.le_refl _) hL 1 b).set (Nat.le_refl _) hL 2 d
  exact ⟨h1, h2⟩
/-- behind an append -/
theorem pa_app {w W w4 : World} {Ls : List (Nat × Obj)} {A : Option Addr} {c g4 cap4 : Nat} {l : List Hit} {E I : Int} {o : Bool} {d : Int} {x : Obj} {v : Value} (h : Fr w ((w.heap.size, repO A l.length c o d) :: Ls) W)
    (hO : w4.ownsRow w.heap.size 34 2 (.slice (some ⟨g4, 0, none⟩) (l.length + 1) cap4) (l.length + 1) (hits l ++ [.int .i64 E, .int .i64 I])) (hb : Below w.heap.size w w4) (hg : (W.drew.alloc x).grownBy w4 v.ownBlock) (hne : ∀ p ∈ (w.heap.size, repO A l.length c o d) :: Ls, v.ownBlock ≠ some p.1) (hL : ∀ p ∈ Ls, p.1 ≠ w.heap.size) :
    Fr w ((w.heap.size, repO (some ⟨g4, 0, none⟩) (l.length + 1) cap4 o d) :: Ls) (w4.setCell ⟨w.heap.size, 0, none⟩ (.slice (some ⟨g4, 0, none⟩) (l.length + 1) cap4)) ∧
      (w4.setCell ⟨w.heap.size, 0, none⟩ (.slice (some ⟨g4, 0, none⟩) (l.length + 1) cap4)).ownsRow w.heap.size 34 2 (.slice (some ⟨g4, 0, none⟩) (l.length + 1) cap4) (l.length + 1) (hits (l ++ [(E, I)])) := by
  have hF := Fr.grown (h.drew.al x) hb hg hne
  have hO5 : w4.ownsRow w.heap.size 34 2 (.slice (some ⟨g4, 0, none⟩) (l.length + 1) cap4) (l.length + 1) (hits (l ++ [(E, I)])) := by
    rw [hits_app]; exact hO
  exact ⟨hF.set (Nat.le_refl _) hL 0 (.slice (some ⟨g4, 0, none⟩) (l.length + 1) cap4), own_set hO5 _ _ (own_blk_ne hO5 (hF.at List.mem_cons_self) (by decide))⟩
theorem pa_cell {w W w4 : World} {Ls : List (Nat × Obj)} {A : Option Addr} {c n : Nat} {o : Bool} {d : Int} {x : Obj} {v : Value} (h : Fr w ((w.heap.size, repO A n c o d) :: Ls) W)
    (hb : Below w.heap.size w w4) (hg : (W.drew.alloc x).grownBy w4 v.ownBlock) (hne : ∀ p ∈ (w.heap.size, repO A n c o d) :: Ls, v.ownBlock ≠ some p.1) :
    w4.cell? ⟨w.heap.size, 0, none⟩ = some (.slice A n c) ∧ w4.frozen? ⟨w.heap.size, 0, none⟩ = false := by
  have hF := (Fr.grown (h.drew.al x) hb hg hne).at List.mem_cons_self
  exact ⟨Lib.cell_of_heap hF 0, Lib.frozen_of_heap hF 0⟩
theorem wp_cutK {P : Program} {c : Code} {Q : Exit → Act → World → Prop} {a : Act} {w : World} (h : ∀ K : Act → World → Prop, Hid (K = fun a w => Q .normal a w) → Code.wp P c (Exit.then K Q) a w) : Code.wp P c Q a w :=
  Code.wp_mono (fun e a w hq => by cases e <;> exact hq) (h _ (Lib.hid rfl))
theorem RetPar.yes {w w' : World} {q : PR} {l : List Hit} {d : Int} {A : Option Addr} {c : Nat} (hq : q = ⟨l, d, 0, 0⟩) (hb : Below w.heap.size w w') (hr : Reads w' w'.heap.size 2 A l.length (hits l)) (h1 : l.length ≤ c) (h2 : c ≤ 9223372036854775807) :
    RetPar w q (.returned (.tuple #[repV A l.length c (decide (0 < d)) d, .int .i64 0, .int .i64 0])) w' := by
  subst hq
  exact ⟨A, c, rfl, hb, hr, h1, h2⟩
theorem own_set3 {W : World} {base size n z : Nat} {e : TypeId} {v : Value} {xs : List Value} (h : W.ownsRow base e size v n xs) (hz : v.ownBlock ≠ some z) (u0 u1 u2 : Value) : (((W.setCell ⟨z, 0, none⟩ u0).setCell ⟨z, 1, none⟩ u1).setCell ⟨z, 2, none⟩ u2).ownsRow base e size v n xs :=
  own_set (own_set (own_set h ⟨z, 0, none⟩ u0 hz) ⟨z, 1, none⟩ u1 hz) ⟨z, 2, none⟩ u2 hz
set_option maxRecDepth 100000 in
set_option maxHeartbeats 4000000 in
theorem parse_ (s : ByteArray) (k : Int) (w : World) (hE : Esc w) (hM : ML w) (hR : ER w) (hs : s.size ≤ 1000000000) :
    Calls Tryz.prog 7 #[.string s, .int .i64 k] w (RetPar w (psR s k)) := by
  have HF0 := Lib.hid ((Fr.start w).newN rfl (rpO (.slice none 0 0) (.bool false) (.int .i64 0)))
  by_cases hcap : capK k = true
  case neg =>
    have hcap : capK k = false := by simpa using hcap
    have Hq := Lib.hid (psR_cap (s := s) hcap)
    have Hc := Lib.hid hcap.symm
    clear hcap
    go_enter Tryz.func7, Tryz.ntmps7
    go_wp2_with fail
    (with_reducible refine (fits_ k false Hc _).mono ?_); rintro e w' ⟨rfl, rfl⟩
    go_wp2
    refine bodyPost_ret (v := .tuple #[repV none 0 0 false 0, .int .i64 (-1), .int .i64 7]) (by simp [results, go_sem]) rfl (RetPar.no Hq.out ?_)
    exact HF0.out.bel
  have Hc := Lib.hid hcap.symm
  rcases hq : linesL s with ⟨L, er⟩
  have hln := lines_ s (w.alloc (rpO (.slice none 0 0) (.bool false) (.int .i64 0))) (hM.below HF0.out.bel) hs
  rw [hq] at hln
  have Hln := Lib.hid hln
  clear hln
  by_cases her : er = 0
  case neg =>
    have Hq := Lib.hid (psR_lines hcap hq her)
    have e1 : (er != 0) = true := by simpa using her
    clear hq her hcap
    go_enter Tryz.func7, Tryz.ntmps7
    go_wp2_with fail
    (with_reducible refine (fits_ k true Hc _).mono ?_); rintro e w' ⟨rfl, rfl⟩
    go_wp2_with fail
    (with_reducible refine (Hln.out).mono ?_); rintro e w1 ⟨A0, c0, rfl, hb1, hr1, hc1, hc2⟩
    have hF1 := HF0.out.go hb1
    have hO := hF1.at (g := w.heap.size) List.mem_cons_self
    obtain ⟨o0, o1, o2⟩ : _ ∧ _ ∧ _ := ⟨Lib.cell_of_heap hO 0, Lib.cell_of_heap hO 1, Lib.cell_of_heap hO 2⟩
    obtain ⟨f0, f1, f2⟩ : _ ∧ _ ∧ _ := ⟨Lib.frozen_of_heap hO 0, Lib.frozen_of_heap hO 1, Lib.frozen_of_heap hO 2⟩
    have hlt0 := hF1.lt (g := w.heap.size) List.mem_cons_self
    have hB := hF1.bel
    clear hF1 hO hb1 hr1
    go_wp2
    refine bodyPost_ret (v := .tuple #[repV none 0 0 false 0, .int .i64 0, .int .i64 er]) (by simp [results, go_sem, World.cell?_alloc_lt, hlt0, o0, o1, o2]) rfl (RetPar.no Hq.out ?_)
    repeat' (first | with_reducible exact hB | with_reducible refine ba ?_ _ | with_reducible refine Go.Proofs.YtaainkjgnljihaaGreatDoor.bs ?_ ?_ | (simp only; omega))
  subst her
  have hll : L.length ≤ 5000 := by
    have h1 : (linesL s).1 = L := by rw [hq]
    unfold linesL at h1
    repeat' split at h1
    all_goals first
      | (subst h1; simp only; omega)
      | (subst h1; simp)
  have hqF : ∀ (p : Nat), psL L = (p, [], 0) → p ≠ 0 → psR s k = ⟨[], 0, p, 6⟩ := fun _ h h0 => psR_form hcap hq h h0
  have hqC : ∀ (l : List Hit) (d : Int), psL L = (0, l, d) → (chkR l (decide (0 < d)) d k).2 ≠ 0 → psR s k = ⟨[], 0, 0, (chkR l (decide (0 < d)) d k).2⟩ := fun _ _ h h0 => psR_chk hcap hq h h0
  have hqO : ∀ (l : List Hit) (d : Int), psL L = (0, l, d) → (chkR l (decide (0 < d)) d k).2 = 0 → psR s k = ⟨l, d, 0, 0⟩ := fun _ _ h h0 => psR_ok hcap hq h h0
  have HQF := Lib.hid hqF
  have HQC := Lib.hid hqC
  have HQO := Lib.hid hqO
  have Hl2 := Lib.hid (lines2_ s (w.alloc (rpO (.slice none 0 0) (.bool false) (.int .i64 0))) (hM.below HF0.out.bel) hs hq)
  clear hqF hqC hqO hq hcap Hln
  go_enter Tryz.func7, Tryz.ntmps7
  go_wp2_with fail
  (with_reducible refine (fits_ k true Hc _).mono ?_); rintro e w' ⟨rfl, rfl⟩
  go_wp2_with fail
  (with_reducible refine (Hl2.out).mono ?_); rintro e w1 ⟨A0, c0, rfl, hb1, hc1, hst⟩
  have hF1 := HF0.out.go hb1
  have hlt0 := hF1.lt (g := w.heap.size) List.mem_cons_self
  have hr1 : Reads w1 w1.heap.size 1 A0 L.length (Ss L) := by
    rcases hst with rfl | ⟨b, rfl, _, h⟩
    · exact Reads.none_
    · exact rd_st h (heap_lt h)
  have Hst := Lib.hid hst
  clear hst
  obtain ⟨bL, hbL⟩ : ∃ bL, w1.heap.size = bL := ⟨_, rfl⟩
  have hF2 := ((hF1.newN hbL (lsO A0 L.length c0)).newN (g := bL + 1) (by simp [hbL]) (inO 0))
  have hr2 : Reads ((w1.alloc (lsO A0 L.length c0)).alloc (inO 0)) (bL + 1) 1 A0 L.length (Ss L) := by
    have := (hr1.al (lsO A0 L.length c0)).al (inO 0)
    have h3 := hr1.below' (B' := w1.heap.size) (((Below.refl w1.heap.size w1).alloc (Nat.le_refl _) (lsO A0 L.length c0)).alloc (by simp) (inO 0)) (Nat.le_refl _)
    exact h3.more (by omega)
  have HF2 := Lib.hid hF2
  have HR2 := Lib.hid hr2
  have hbLw : w.heap.size < bL := by omega
  clear hF1 hF2 hr1 hr2 hb1 Hl2 HF0
  have hszA := HF2.out.lt (g := bL + 1) (o := inO 0) (by simp)
  rcases h1 : nxO L 0 wHits 1 with _ | ns1
  · have Hps := Lib.hid (psL_1 h1)
    have Hn1 := Lib.hid (nextO w _ (bL + 1) bL 0 c0 0 1 (Lib.hid rfl) A0 L ⟨#[104, 105, 116, 115]⟩ wHits (Lib.hid rfl) 1 (Lib.hid rfl) (by omega) (by omega) HF2.out (by omega) (by simp) (by simp) (by omega) HR2.out (by omega) (by omega) hE hM hR (Lib.hid h1))
    clear h1 hszA
    go_wp2_with fail
    (with_reducible refine (Hn1.out).mono ?_); rintro e w3 hh
    obtain ⟨⟨v, rfl⟩, hb3⟩ := RetNs.none_ hh
    have hF3 := fr_next (p := 0) HF2.out rfl (by omega) (by intro q hq; simp at hq; rcases hq with rfl | rfl <;> simp <;> omega) hb3
    have hPN : PaNo w L A0 c0 (bL + 1) bL (.slice none 0 0) (.bool false) (.int .i64 0) 1 w3 := ⟨hF3, Hps.out, by omega, by omega⟩
    clear hh hb3 HF2 HR2 Hn1 hF3
    go_wp2
    go_loopw [11] (fun b wr => b = .bool false ∧ PaNo w L A0 c0 (bL + 1) bL (.slice none 0 0) (.bool false) (.int .i64 0) 1 wr) (fun _ _ => 0)
    case atStart => exact ⟨rfl, hPN⟩
    case round =>
      clear hPN
      obtain ⟨rfl, hPN⟩ := hrel
      have Hq := Lib.hid (HQF.out 1 Hps.out (by omega))
      go_wp2
      go_quiet (fail)
      go_wp2
      have hF := hPN.fr
      have k0 := Lib.cell_of_heap (hF.at (g := bL + 1) (o := atO 1) (by simp)) 0
      have hO := hF.at (g := w.heap.size) (o := rpO (.slice none 0 0) (.bool false) (.int .i64 0)) (by simp)
      obtain ⟨o0, o1, o2⟩ : _ ∧ _ ∧ _ := ⟨Lib.cell_of_heap hO 0, Lib.cell_of_heap hO 1, Lib.cell_of_heap hO 2⟩
      obtain ⟨f0, f1, f2⟩ : _ ∧ _ ∧ _ := ⟨Lib.frozen_of_heap hO 0, Lib.frozen_of_heap hO 1, Lib.frozen_of_heap hO 2⟩
      have hlt := hF.lt (g := w.heap.size) (o := rpO (.slice none 0 0) (.bool false) (.int .i64 0)) (by simp)
      have hB := hF.bel
      clear hPN hF hO
      go_region
      all_goals
        go_wp2
        refine bodyPost_ret (v := .tuple #[repV none 0 0 false 0, .int .i64 ((1 : Nat) : Int), .int .i64 6]) (by simp [results, go_sem, o0, o1, o2]) rfl (RetPar.no Hq.out ?_)
        repeat' (first | with_reducible exact hB | with_reducible refine bd ?_ _ | with_reducible refine Below.drew ?_ | with_reducible refine Go.Proofs.YtaainkjgnljihaaGreatDoor.bs ?_ ?_ | (simp only; omega))
  obtain ⟨hl1, hlt1, hb01⟩ := nxO_len h1
  obtain ⟨n, rfl⟩ : ∃ n, ns1 = [n] := by
    rcases ns1 with _ | ⟨n, _ | ⟨m, r⟩⟩
    · cases hl1
    · exact ⟨n, rfl⟩
    · simp at hl1
  have hn0 := (hb01 n List.mem_cons_self).1
  obtain ⟨bs, rfl, hbs0, hbs⟩ : ∃ b, A0 = some ⟨b, 0, none⟩ ∧ w.heap.size < b ∧ w1.heap[b]? = some (stO L) := by
    rcases Hst.out with rfl | ⟨b, h3, h4, h5⟩
    · cases hlt1
    · exact ⟨b, h3, by simp at h4; omega, h5⟩
  have hbsL : bs < bL := by have := heap_lt hbs; omega
  have HF2 := Lib.hid (HF2.out.cons (g := bs) (alloc_blk (alloc_blk hbs)))
  have Hn1 := Lib.hid (nextO w _ (bL + 1) bL 0 c0 0 1 (Lib.hid rfl) _ L ⟨#[104, 105, 116, 115]⟩ wHits (Lib.hid rfl) 1 (Lib.hid rfl) (by omega) (by omega) HF2.out (by omega) (by simp) (by simp) (by omega) HR2.out (by omega) (by omega) hE hM hR (Lib.hid h1))
  have H1 := Lib.hid h1
  clear hl1 hb01 h1 Hst hbs
  go_wp2_with fail
  (with_reducible refine (Hn1.out).mono ?_); rintro e w3 hh
  obtain ⟨⟨g, cap, cur, rfl, hg, hgg, hcu⟩, hb3⟩ := RetNs.some1_ hh
  have hF2' : Fr w [(bL + 1, inO 0), (bs, stO L), (bL, lsO (some ⟨bs, 0, none⟩) L.length c0), (w.heap.size, rpO (.slice none 0 0) (.bool false) (.int .i64 0))] _ := HF2.out.sub (by intro q hq; simp at hq ⊢; rcases hq with h | h | h | h <;> simp [h])
  have hF3 := (fr_next (p := 0) hF2' rfl (by omega) (by intro q hq; simp at hq; rcases hq with rfl | rfl | rfl <;> simp <;> omega) hb3).cons hgg
  have hgA : bL + 1 < g := by simp at hg; omega
  have hF3' : Fr w [(bL + 1, inO 1), (w.heap.size, rpO (.slice none 0 0) (.bool false) (.int .i64 0)), (bL, lsO (some ⟨bs, 0, none⟩) L.length c0), (g, .cells cur 3 (0, 0)), (bs, stO L)] w3 := hF3.sub (by intro q hq; simp at hq ⊢; rcases hq with h | h | h | h | h <;> simp [h])
  have HF3 := Lib.hid hF3'
  have HR3 := Lib.hid (rd_st (hF3'.at (g := bs) (o := stO L) (by simp)) (B := bL + 1) (by omega))
  have hsz3 := hF3'.lt (g := bL + 1) (o := inO 1) (by simp)
  clear hh hb3 HF2 HR2 Hn1 hF3 hF3' hgg hg hszA hF2'
  rcases h2 : nxO L 1 wDropped 1 with _ | ns2
  · have Hps := Lib.hid (psL_2 H1.out h2)
    have Hn2 := Lib.hid (nextO w _ (bL + 1) bL 1 c0 1 1 (Lib.hid rfl) _ L ⟨#[100, 114, 111, 112, 112, 101, 100]⟩ wDropped (Lib.hid rfl) 1 (Lib.hid rfl) (by omega) (by omega) HF3.out (by omega) (by simp) (by simp) (by omega) HR3.out (by omega) (by omega) hE hM hR (Lib.hid h2))
    clear h2
    go_wp2_with fail
    (with_reducible refine (Hn2.out).mono ?_); rintro e w4 hh
    obtain ⟨⟨v, rfl⟩, hb4⟩ := RetNs.none_ hh
    have hF4 := (fr_next (p := 1) HF3.out rfl (by omega) (by intro q hq; simp at hq; rcases hq with rfl | rfl | rfl | rfl <;> simp <;> omega) hb4)
    have hPN : PaNo w L (some ⟨bs, 0, none⟩) c0 (bL + 1) bL (.slice none 0 0) (.bool false) (.int .i64 0) 2 w4 := ⟨hF4.sub (by intro q hq; simp at hq ⊢; rcases hq with h | h | h <;> simp [h]), Hps.out, by omega, by omega⟩
    clear hh hb4 HF3 HR3 Hn2 hF4
    go_wp2
    go_loopw [11] (fun b wr => b = .bool false ∧ PaNo w L (some ⟨bs, 0, none⟩) c0 (bL + 1) bL (.slice none 0 0) (.bool false) (.int .i64 0) 2 wr) (fun _ _ => 0)
    case atStart => exact ⟨rfl, hPN⟩
    case round =>
      clear hPN
      obtain ⟨rfl, hPN⟩ := hrel
      have Hq := Lib.hid (HQF.out 2 Hps.out (by omega))
      go_wp2
      go_quiet (fail)
      go_wp2
      have hF := hPN.fr
      have k0 := Lib.cell_of_heap (hF.at (g := bL + 1) (o := atO 2) (by simp)) 0
      have hO := hF.at (g := w.heap.size) (o := rpO (.slice none 0 0) (.bool false) (.int .i64 0)) (by simp)
      obtain ⟨o0, o1, o2⟩ : _ ∧ _ ∧ _ := ⟨Lib.cell_of_heap hO 0, Lib.cell_of_heap hO 1, Lib.cell_of_heap hO 2⟩
      obtain ⟨f0, f1, f2⟩ : _ ∧ _ ∧ _ := ⟨Lib.frozen_of_heap hO 0, Lib.frozen_of_heap hO 1, Lib.frozen_of_heap hO 2⟩
      have hlt := hF.lt (g := w.heap.size) (o := rpO (.slice none 0 0) (.bool false) (.int .i64 0)) (by simp)
      have hB := hF.bel
      clear hPN hF hO
      go_region
      all_goals
        go_wp2
        refine bodyPost_ret (v := .tuple #[repV none 0 0 false 0, .int .i64 ((2 : Nat) : Int), .int .i64 6]) (by simp [results, go_sem, o0, o1, o2]) rfl (RetPar.no Hq.out ?_)
        repeat' (first | with_reducible exact hB | with_reducible refine bd ?_ _ | with_reducible refine Below.drew ?_ | with_reducible refine Go.Proofs.YtaainkjgnljihaaGreatDoor.bs ?_ ?_ | (simp only; omega))
  obtain ⟨hl2, hlt2, hb02⟩ := nxO_len h2
  obtain ⟨d, rfl⟩ : ∃ d, ns2 = [d] := by
    rcases ns2 with _ | ⟨n, _ | ⟨m, r⟩⟩
    · cases hl2
    · exact ⟨n, rfl⟩
    · simp at hl2
  have Hrel0 := Lib.hid (PaRel.start H1.out h2)
  have Hn2 := Lib.hid (nextO w _ (bL + 1) bL 1 c0 1 1 (Lib.hid rfl) _ L ⟨#[100, 114, 111, 112, 112, 101, 100]⟩ wDropped (Lib.hid rfl) 1 (Lib.hid rfl) (by omega) (by omega) HF3.out (by omega) (by simp) (by simp) (by omega) HR3.out (by omega) (by omega) hE hM hR (Lib.hid h2))
  clear hl2 hb02 h2 H1
  go_wp2_with fail
  (with_reducible refine (Hn2.out).mono ?_); rintro e w4 hh
  obtain ⟨⟨g2, cap2, cur2, rfl, hg2, hgg2, hcu2⟩, hb4⟩ := RetNs.some1_ hh
  have hF4 := (fr_next (p := 1) HF3.out rfl (by omega) (by intro q hq; simp at hq; rcases hq with rfl | rfl | rfl | rfl <;> simp <;> omega) hb4)
  have q0 := (Lib.cell_of_heap hgg2 0).trans hcu2.out
  have hF4' : Fr w [(w.heap.size, rpO (.slice none 0 0) (.bool false) (.int .i64 0)), (bL + 1, atO 2), (bL, lsO (some ⟨bs, 0, none⟩) L.length c0), (g, .cells cur 3 (0, 0)), (bs, stO L)] w4 := hF4.sub (by intro q hq; simp at hq ⊢; rcases hq with h | h | h | h | h <;> simp [h])
  have HF4 := Lib.hid hF4'
  have hO := hF4'.at (g := w.heap.size) (o := rpO (.slice none 0 0) (.bool false) (.int .i64 0)) (by simp)
  obtain ⟨f0, f1, f2⟩ : _ ∧ _ ∧ _ := ⟨Lib.frozen_of_heap hO 0, Lib.frozen_of_heap hO 1, Lib.frozen_of_heap hO 2⟩
  obtain ⟨o0, o1, o2⟩ : _ ∧ _ ∧ _ := ⟨Lib.cell_of_heap hO 0, Lib.cell_of_heap hO 1, Lib.cell_of_heap hO 2⟩
  clear hh hb4 HF3 HR3 Hn2 hF4 hF4' hgg2 hO
  go_upto_if 41 with (fail)
  go_cut [] (fun wx => Fr w [(w.heap.size, repO none 0 0 (decide (0 < d)) d), (bL + 1, atO 2), (bL, lsO (some ⟨bs, 0, none⟩) L.length c0), (g, .cells cur 3 (0, 0)), (bs, stO L)] wx)
  case first =>
    go_wp2
    go_region
    all_goals
      go_wp2
      go_meet
      exact (fr_over HF4.out (by intro q hq; simp at hq; rcases hq with rfl | rfl | rfl | rfl <;> simp <;> omega)).1.drew
  case rest =>
  clear q0 f0 f1 f2 o0 o1 o2 HF4 hg2 hcu2
  have hYs : PaYes w L bs c0 (bL + 1) bL g cur n d [] none 0 wc := ⟨hcut, World.ownsRow_nil _ _ _ _, Hrel0.out⟩
  have HYs := Lib.hid hYs
  clear hcut Hrel0 hYs
  go_wp2
  go_loopw [11] (fun b wr => ∃ bb, b = .bool bb ∧ PaI w L bs c0 (bL + 1) bL g cur n d bb wr) (fun b wr => isB b + (L.length + 1 - atOf wr (bL + 1)))
  case atStart => exact ⟨true, rfl, .inr ⟨rfl, [], none, 0, HYs.out⟩⟩
  case round =>
    clear HYs
    obtain ⟨bb, rfl, hI⟩ := hrel
    rcases hI with ⟨rfl, x, y, z, p, hPN⟩ | ⟨rfl, acc, A, c, hY⟩
    · have Hq := Lib.hid (HQF.out p hPN.ps hPN.p0)
      have hp1 := hPN.p1
      go_wp2
      go_quiet (fail)
      go_wp2
      have hF := hPN.fr
      have k0 := Lib.cell_of_heap (hF.at (g := bL + 1) (o := atO p) (by simp)) 0
      have hO := hF.at (g := w.heap.size) (o := rpO x y z) (by simp)
      obtain ⟨o0, o1, o2⟩ : _ ∧ _ ∧ _ := ⟨Lib.cell_of_heap hO 0, Lib.cell_of_heap hO 1, Lib.cell_of_heap hO 2⟩
      obtain ⟨f0, f1, f2⟩ : _ ∧ _ ∧ _ := ⟨Lib.frozen_of_heap hO 0, Lib.frozen_of_heap hO 1, Lib.frozen_of_heap hO 2⟩
      have hlt := hF.lt (g := w.heap.size) (o := rpO x y z) (by simp)
      have hB := hF.bel
      clear hPN hF hO
      go_region
      all_goals
        go_wp2
        refine bodyPost_ret (v := .tuple #[repV none 0 0 false 0, .int .i64 (p : Int), .int .i64 6]) (by simp [results, go_sem, o0, o1, o2]) rfl (RetPar.no Hq.out ?_)
        repeat' (first | with_reducible exact hB | with_reducible refine bd ?_ _ | with_reducible refine Below.drew ?_ | with_reducible refine Go.Proofs.YtaainkjgnljihaaGreatDoor.bs ?_ ?_ | (simp only; omega))
    have hl3 := hY.rel.2.2
    have hln := hY.rel.2.1
    have hO := hY.fr.at (g := w.heap.size) (o := repO A acc.length c (decide (0 < d)) d) (by simp)
    have hA := hY.fr.at (g := bL + 1) (o := atO (acc.length + 2)) (by simp)
    have c0r := Lib.cell_of_heap hO 0
    have q0 := (Lib.cell_of_heap (hY.fr.at (g := g) (o := .cells cur 3 (0, 0)) (by simp)) 0).trans hcu.out
    have HY := Lib.hid hY
    by_cases hlt : (acc.length : Int) < n
    · have i1 : decide ((acc.length : Int) < n) = true := by simpa using hlt
      rcases h3 : nxO L (acc.length + 2) wHit 2 with _ | ns3
      · have Hps := Lib.hid (hY.rel.stop (by omega) h3)
        clear hY hO hA
        have HF' : Hid (Fr w [(bL + 1, inO ((acc.length + 2 : Nat) : Int)), (w.heap.size, repO A acc.length c (decide (0 < d)) d), (bL, lsO (some ⟨bs, 0, none⟩) L.length c0), (g, .cells cur 3 (0, 0)), (bs, stO L)] wr) := Lib.hid (HY.out.fr.sub (by intro q hq; simp at hq ⊢; rcases hq with h | h | h | h | h <;> simp [h]))
        have Hn3 := Lib.hid (fun W (hW : Fr w [(bL + 1, inO ((acc.length + 2 : Nat) : Int)), (w.heap.size, repO A acc.length c (decide (0 < d)) d), (bL, lsO (some ⟨bs, 0, none⟩) L.length c0), (g, .cells cur 3 (0, 0)), (bs, stO L)] W) => nextO w W (bL + 1) bL (acc.length + 2) c0 ((acc.length + 2 : Nat) : Int) 2 (Lib.hid rfl) _ L ⟨#[104, 105, 116]⟩ wHit (Lib.hid rfl) 2 (Lib.hid rfl) (by omega) (by omega) hW (by omega) (by simp) (by simp) (by omega) (rd_st (hW.at (g := bs) (o := stO L) (by simp)) (by omega)) (by omega) (by omega) hE hM hR (Lib.hid h3))
        clear h3
        go_wp2
        go_quiet (fail)
        go_wp2_with fail
        (with_reducible refine (Hn3.out _ (by exact HF'.out.drewN _)).mono ?_); rintro e w5 hh
        obtain ⟨⟨v, rfl⟩, hb5⟩ := RetNs.none_ hh
        have hF5 := fr_next (p := acc.length + 2) (HF'.out.drewN _) rfl (by omega) (by intro q hq; simp at hq; rcases hq with rfl | rfl | rfl | rfl <;> simp <;> omega) hb5
        have HF5 := Lib.hid hF5
        clear hh hb5 hF5 Hn3 HF'
        go_wp2
        go_roundw
        case rel => exact ⟨false, rfl, .inl ⟨rfl, .slice A acc.length c, .bool (decide (0 < d)), .int .i64 d, acc.length + 3, ⟨HF5.out.sub (by intro q hq; simp at hq ⊢; rcases hq with h | h | h <;> simp [h]), Hps.out, by omega, by omega⟩⟩⟩
        case measure =>
          rw [atOf_fr (p := acc.length + 3) HF5.out (by simp), atOf_fr (p := acc.length + 2) HY.out.fr (by simp)]
          simp [isB]; omega
      · obtain ⟨hl3', hlt3, _⟩ := nxO_len h3
        obtain ⟨a, b, rfl⟩ : ∃ a b, ns3 = [a, b] := by
          rcases ns3 with _ | ⟨x, _ | ⟨y, _ | ⟨z, r⟩⟩⟩
          · cases hl3'
          · cases hl3'
          · exact ⟨x, y, rfl⟩
          · simp at hl3'
        have Hst := Lib.hid (hY.rel.step (by omega) h3)
        clear hO hA hl3'
        have HF' : Hid (Fr w [(bL + 1, inO ((acc.length + 2 : Nat) : Int)), (w.heap.size, repO A acc.length c (decide (0 < d)) d), (bL, lsO (some ⟨bs, 0, none⟩) L.length c0), (g, .cells cur 3 (0, 0)), (bs, stO L)] wr) := Lib.hid (HY.out.fr.sub (by intro q hq; simp at hq ⊢; rcases hq with h | h | h | h | h <;> simp [h]))
        have Hn3 := Lib.hid (fun W (hW : Fr w [(bL + 1, inO ((acc.length + 2 : Nat) : Int)), (w.heap.size, repO A acc.length c (decide (0 < d)) d), (bL, lsO (some ⟨bs, 0, none⟩) L.length c0), (g, .cells cur 3 (0, 0)), (bs, stO L)] W) => nextO w W (bL + 1) bL (acc.length + 2) c0 ((acc.length + 2 : Nat) : Int) 2 (Lib.hid rfl) _ L ⟨#[104, 105, 116]⟩ wHit (Lib.hid rfl) 2 (Lib.hid rfl) (by omega) (by omega) hW (by omega) (by simp) (by simp) (by omega) (rd_st (hW.at (g := bs) (o := stO L) (by simp)) (by omega)) (by omega) (by omega) hE hM hR (Lib.hid h3))
        have Ho1 := Lib.hid (fun (W w5 : World) (hW : W.ownsRow w.heap.size 34 2 (.slice A acc.length c) acc.length (hits acc)) (hFW : Fr w [(bL + 1, inO ((acc.length + 2 : Nat) : Int)), (w.heap.size, repO A acc.length c (decide (0 < d)) d), (bL, lsO (some ⟨bs, 0, none⟩) L.length c0), (g, .cells cur 3 (0, 0)), (bs, stO L)] W) (hb : Below (W.setCell ⟨bL + 1, 0, none⟩ (.int .i64 (((acc.length + 2 : Nat) : Int) + 1))).heap.size (W.setCell ⟨bL + 1, 0, none⟩ (.int .i64 (((acc.length + 2 : Nat) : Int) + 1))) w5) => own_below (own_set hW ⟨bL + 1, 0, none⟩ (.int .i64 (((acc.length + 2 : Nat) : Int) + 1)) (own_blk_ne hW (hFW.at (g := bL + 1) (o := inO ((acc.length + 2 : Nat) : Int)) (by simp)) (by decide))) hb)
        clear h3 hY
        go_wp2
        go_quiet (fail)
        go_wp2_with fail
        (with_reducible refine (Hn3.out _ (by exact HF'.out.drewN _)).mono ?_); rintro e w5 hh
        obtain ⟨⟨g3, cap3, cur3, rfl, hg3, hgg3, hcu3⟩, hb5⟩ := RetNs.some2_ hh
        have hF5 := fr_next (p := acc.length + 2) (HF'.out.drewN _) rfl (by omega) (by intro q hq; simp at hq; rcases hq with rfl | rfl | rfl | rfl <;> simp <;> omega) hb5
        have hO5 := Ho1.out _ _ (by exact HY.out.own) (HF'.out.drewN _) hb5
        have hF5' : Fr w [(w.heap.size, repO A acc.length c (decide (0 < d)) d), (bL + 1, atO (acc.length + 2 + 1)), (bL, lsO (some ⟨bs, 0, none⟩) L.length c0), (g, .cells cur 3 (0, 0)), (bs, stO L)] w5 := hF5.sub (by intro q hq; simp at hq ⊢; rcases hq with h | h | h | h | h <;> simp [h])
        have HF5 := Lib.hid hF5'
        have HO5 := Lib.hid hO5
        have a0 := (Lib.cell_of_heap hgg3 0).trans hcu3.out.1
        have a1 := (Lib.cell_of_heap hgg3 1).trans hcu3.out.2
        have c5 := Lib.cell_of_heap (hF5'.at (g := w.heap.size) (o := repO A acc.length c (decide (0 < d)) d) (by simp)) 0
        have hlt5 := hF5'.lt (g := w.heap.size) (o := repO A acc.length c (decide (0 < d)) d) (by simp)
        have k5a : ∀ o, (w5.alloc o).cell? ⟨w.heap.size, 0, none⟩ = some (.slice A acc.length c) := fun o => (World.cell?_alloc_lt w5 o ⟨w.heap.size, 0, none⟩ hlt5).trans c5
        have Hne := Lib.hid (show ∀ p ∈ [((w.heap.size, repO A acc.length c (decide (0 < d)) d) : Nat × Obj), (bL + 1, atO (acc.length + 2 + 1)), (bL, lsO (some ⟨bs, 0, none⟩) L.length c0), (g, .cells cur 3 (0, 0)), (bs, stO L)], (Value.slice A acc.length c).ownBlock ≠ some p.1 by
          intro p hp
          have hat := hF5'.at (g := p.1) (o := p.2) hp
          simp only [List.mem_cons, List.not_mem_nil, or_false] at hp
          rcases hp with rfl | rfl | rfl | rfl | rfl <;> exact own_blk_ne hO5 hat (by decide))
        clear hh hb5 hF5 hF5' hO5 Hn3 HF' hg3 hgg3 Ho1 c0r q0
        go_wp2
        refine wp_cutK (fun K hK => ?_)
        go_cut [] (fun wx => ∃ g4 cap4, Fr w [(w.heap.size, repO (some ⟨g4, 0, none⟩) (acc.length + 1) cap4 (decide (0 < d)) d), (bL + 1, atO (acc.length + 2 + 1)), (bL, lsO (some ⟨bs, 0, none⟩) L.length c0), (g, .cells cur 3 (0, 0)), (bs, stO L)] wx ∧ wx.ownsRow w.heap.size 34 2 (.slice (some ⟨g4, 0, none⟩) (acc.length + 1) cap4) (acc.length + 1) (hits (acc ++ [(a, b)])))
        case first =>
          go_region_law ((refine step_ap htEl (w0 := w) (by exact HO5.out.alloc _) (by exact (ba HF5.out.bel _).drew) [.int .i64 a, .int .i64 b] (by exact alloc1_new _ _) ?_; intro g4 cap4 w6 hO6 hb6 hg6; have q1 := (pa_cell HF5.out hb6 hg6 Hne.out).1; have q2 := (pa_cell HF5.out hb6 hg6 Hne.out).2))
          all_goals
            have hD := pa_app HF5.out hO6 hb6 hg6 Hne.out (by intro q hq; simp at hq; rcases hq with rfl | rfl | rfl | rfl <;> simp <;> omega)
            clear hO6 hb6 hg6 q1 q2
            go_wp2_with fail
            go_meet
            exact ⟨g4, cap4, hD⟩
        case rest =>
        obtain ⟨g4, cap4, hF7, hO7⟩ := hcut
        rw [hK.out]
        dsimp only
        clear hK
        have HF7 := Lib.hid hF7
        have HO7 := Lib.hid hO7
        have hlen1 := Lib.hid (show (acc ++ [(a, b)]).length = acc.length + 1 by simp)
        clear hF7 hO7 a0 a1 c5 k5a hlt5 HF5 HO5 Hne hcu3
        go_wp2
        go_roundw
        case rel => exact ⟨true, rfl, .inr ⟨rfl, acc ++ [(a, b)], some ⟨g4, 0, none⟩, cap4, ⟨by rw [hlen1.out]; exact HF7.out.sub (by intro q hq; simp at hq ⊢; rcases hq with h | h | h | h | h <;> simp [h]), by rw [hlen1.out]; exact HO7.out, Hst.out⟩⟩⟩
        case measure =>
          rw [atOf_fr (p := acc.length + 2 + 1) HF7.out (by simp), atOf_fr (p := acc.length + 2) HY.out.fr (by simp)]
          simp [isB]; omega
    · have i1 : decide ((acc.length : Int) < n) = false := by simpa using hlt
      have hnn : n.toNat = acc.length := by omega
      have hrl : PaRel L acc.length d acc := by have h1 := hY.rel; rw [hnn] at h1; exact h1
      have hLo := hY.fr.at (g := bL) (o := lsO (some ⟨bs, 0, none⟩) L.length c0) (by simp)
      obtain ⟨o0, o1, o2⟩ : _ ∧ _ ∧ _ := ⟨Lib.cell_of_heap hO 0, Lib.cell_of_heap hO 1, Lib.cell_of_heap hO 2⟩
      obtain ⟨f0, f1, f2⟩ : _ ∧ _ ∧ _ := ⟨Lib.frozen_of_heap hO 0, Lib.frozen_of_heap hO 1, Lib.frozen_of_heap hO 2⟩
      obtain ⟨k0, kf⟩ : _ ∧ _ := ⟨Lib.cell_of_heap hA 0, Lib.frozen_of_heap hA 0⟩
      have kL := Lib.cell_of_heap hLo 0
      have hlt1 := heap_lt hO
      have hltA := heap_lt hA
      have hneA : w.heap.size ≠ bL + 1 := by omega
      have hB := hY.fr.bel
      have hpc : ((acc.length + 2 : Nat) : Int) = (acc.length : Int) + 2 := by omega
      rw [hpc] at k0
      by_cases hm : acc.length + 2 < L.length
      · have im : (acc.length : Int) + 2 < (L.length : Int) := by omega
        have Hq := Lib.hid (show psR s k = ⟨[], 0, (acc.length : Int) + 2 + 1, 6⟩ by
          have h1 := HQF.out _ (hrl.more hm) (by omega)
          rw [h1]; congr 1 <;> omega)
        clear hY HY hO hA hLo hrl hnn hpc
        go_wp2
        go_quiet (fail)
        go_wp2
        go_region
        all_goals
          go_wp2
          refine bodyPost_ret (v := .tuple #[repV none 0 0 false 0, .int .i64 ((acc.length : Int) + 2 + 1), .int .i64 6]) (by simp [results, go_sem, o0, o1, o2]) rfl (RetPar.no Hq.out ?_)
          repeat' (first | with_reducible exact hB | with_reducible refine bd ?_ _ | with_reducible refine Below.drew ?_ | with_reducible refine Go.Proofs.YtaainkjgnljihaaGreatDoor.bs ?_ ?_ | (simp only; omega))
      · have im : ¬ ((acc.length : Int) + 2 < (L.length : Int)) := by omega
        have Hps := Lib.hid (hrl.done hm)
        obtain ⟨A8, c8, hA8, hrd8, hc8, hm8⟩ := own_sl hY.own
        injection hA8 with e1 _ e3
        subst e1 e3
        have Hch := Lib.hid (fun (W : World) (hW : Reads W W.heap.size 2 A acc.length (hits acc)) => check_ W A c acc hW (by omega) (decide (0 < d)) d k)
        have Hrd := Lib.hid hrd8
        have HqC := Lib.hid (HQC.out acc d Hps.out)
        have HqO := Lib.hid (HQO.out acc d Hps.out)
        clear hY hO hA hLo hrl hnn hrd8 hpc
        rcases hck : chkR acc (decide (0 < d)) d k with ⟨I, E⟩
        have Hch2 := Lib.hid (fun (W : World) (hW : Reads W W.heap.size 2 A acc.length (hits acc)) => by
          have h1 := Hch.out W hW
          rw [hck] at h1
          exact h1)
        clear Hch
        by_cases hE0 : E = 0
        · have Hq := Lib.hid (HqO.out (by rw [hck]; exact hE0))
          subst hE0
          clear hck HqC HqO
          go_wp2
          go_quiet (fail)
          go_wp2_with fail
          clear o0 o1 o2 f0 f1 f2
          (with_reducible refine (Hch2.out _ (by exact Hrd.out.go (drewN_below _ _))).mono ?_); rintro e w6 ⟨rfl, hb6⟩
          have hO6 := own_below (show (wr.drewN _).ownsRow w.heap.size 34 2 (.slice A acc.length c) acc.length (hits acc) by exact HY.out.own) hb6
          have hF6 := (HY.out.fr.drewN _).go hb6
          have hO := hF6.at (g := w.heap.size) (o := repO A acc.length c (decide (0 < d)) d) (by simp)
          obtain ⟨o0, o1, o2⟩ : _ ∧ _ ∧ _ := ⟨Lib.cell_of_heap hO 0, Lib.cell_of_heap hO 1, Lib.cell_of_heap hO 2⟩
          obtain ⟨f0, f1, f2⟩ : _ ∧ _ ∧ _ := ⟨Lib.frozen_of_heap hO 0, Lib.frozen_of_heap hO 1, Lib.frozen_of_heap hO 2⟩
          have hlt6 := heap_lt hO
          have hB := hF6.bel
          have HO6 := Lib.hid (And.intro hO6 (own_blk_ne hO6 hO (by decide)))
          clear hF6 hO hb6 hO6
          go_wp2
          refine bodyPost_ret (v := .tuple #[repV A acc.length c (decide (0 < d)) d, .int .i64 0, .int .i64 0]) (by simp [results, go_sem, o0, o1, o2]) rfl (RetPar.yes Hq.out ?_ (Reads.of_own (own_set3 HO6.out.1 HO6.out.2 _ _ _)) hc8 hm8)
          repeat' (first | with_reducible exact hB | with_reducible refine bd ?_ _ | with_reducible refine Below.drew ?_ | with_reducible refine Go.Proofs.YtaainkjgnljihaaGreatDoor.bs ?_ ?_ | (simp only; omega))
        · have Hq := Lib.hid (HqC.out (by rw [hck]; exact hE0))
          rw [hck] at Hq
          have e1 : (E != 0) = true := by simpa using hE0
          clear hck HqC HqO
          go_wp2
          go_quiet (fail)
          go_wp2_with fail
          (with_reducible refine (Hch2.out _ (by exact Hrd.out.go (drewN_below _ _))).mono ?_); rintro e w6 ⟨rfl, hb6⟩
          have hF6 := (HY.out.fr.drewN _).go hb6
          have hO := hF6.at (g := w.heap.size) (o := repO A acc.length c (decide (0 < d)) d) (by simp)
          obtain ⟨o0, o1, o2⟩ : _ ∧ _ ∧ _ := ⟨Lib.cell_of_heap hO 0, Lib.cell_of_heap hO 1, Lib.cell_of_heap hO 2⟩
          obtain ⟨f0, f1, f2⟩ : _ ∧ _ ∧ _ := ⟨Lib.frozen_of_heap hO 0, Lib.frozen_of_heap hO 1, Lib.frozen_of_heap hO 2⟩
          have hlt6 := heap_lt hO
          have hB := hF6.bel
          clear hF6 hO hb6
          go_wp2
          refine bodyPost_ret (v := .tuple #[repV none 0 0 false 0, .int .i64 0, .int .i64 E]) (by simp [results, go_sem, o0, o1, o2]) rfl (RetPar.no Hq.out ?_)
          repeat' (first | with_reducible exact hB | with_reducible refine bd ?_ _ | with_reducible refine Below.drew ?_ | with_reducible refine Go.Proofs.YtaainkjgnljihaaGreatDoor.bs ?_ ?_ | (simp only; omega))
end Go.Proofs.YtaainkjgnljihaaGreatDoor
