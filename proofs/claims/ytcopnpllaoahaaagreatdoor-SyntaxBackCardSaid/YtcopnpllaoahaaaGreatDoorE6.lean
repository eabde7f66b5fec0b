/- Syntax: elem of the reader. No condition. Syntax: line of the program. No condition. -/
import Derived.Test.YtcopnpllaoahaaaGreatDoorE2
import Derived.Test.YtcopnpllaoahaaaGreatDoorY2
namespace Go.Proofs.YtcopnpllaoahaaaGreatDoor
open Go.RowKit
abbrev elO (x : El) : Obj := .cells #[.int .i64 x.1, .string x.2.1, .int .u64 ((wK x.2.2.1 0 : Nat) : Int), .int .u64 ((wK x.2.2.1 1 : Nat) : Int), .int .u64 ((wK x.2.2.1 2 : Nat) : Int), .int .u64 ((wK x.2.2.1 3 : Nat) : Int), .int .i64 x.2.2.2.1, .int .i64 x.2.2.2.2] 38 (0, 0)
theorem bx8 {w : World} {g : Nat} {a b c d e f h i : Value} {t : TypeId} (hh : w.heap[g]? = some (.cells #[a, b, c, d, e, f, h, i] t (0, 0))) :
    (w.cell? ⟨g, 0, none⟩ = some a ∧ w.cell? ⟨g, 1, none⟩ = some b ∧ w.cell? ⟨g, 2, none⟩ = some c ∧ w.cell? ⟨g, 3, none⟩ = some d ∧ w.cell? ⟨g, 4, none⟩ = some e ∧ w.cell? ⟨g, 5, none⟩ = some f ∧ w.cell? ⟨g, 6, none⟩ = some h ∧ w.cell? ⟨g, 7, none⟩ = some i) ∧
    (w.frozen? ⟨g, 0, none⟩ = false ∧ w.frozen? ⟨g, 1, none⟩ = false ∧ w.frozen? ⟨g, 2, none⟩ = false ∧ w.frozen? ⟨g, 3, none⟩ = false ∧ w.frozen? ⟨g, 4, none⟩ = false ∧ w.frozen? ⟨g, 5, none⟩ = false ∧ w.frozen? ⟨g, 6, none⟩ = false ∧ w.frozen? ⟨g, 7, none⟩ = false) ∧ g < w.heap.size :=
  ⟨⟨Lib.cell_of_heap hh 0, Lib.cell_of_heap hh 1, Lib.cell_of_heap hh 2, Lib.cell_of_heap hh 3, Lib.cell_of_heap hh 4, Lib.cell_of_heap hh 5, Lib.cell_of_heap hh 6, Lib.cell_of_heap hh 7⟩,
    ⟨Lib.frozen_of_heap hh 0, Lib.frozen_of_heap hh 1, Lib.frozen_of_heap hh 2, Lib.frozen_of_heap hh 3, Lib.frozen_of_heap hh 4, Lib.frozen_of_heap hh 5, Lib.frozen_of_heap hh 6, Lib.frozen_of_heap hh 7⟩, heap_lt hh⟩
/-- the reader behind an element -/
def ElR (w0 : World) (g : Nat) (A : Option Addr) (n c : Nat) (p id : Int) (es : List El) (e : Ending) (w' : World) : Prop :=
  e = .returned (.bool true) ∧ ∃ E', Fr w0 [(g, rdO A n c p id E')] w' ∧ w'.ownsRow w0.heap.size 38 8 E' es.length (els es)
theorem far_fr {w0 w3 w4 : World} {o o2 : Obj} {v : Value} {g : Nat} (h : Fr w0 [(g, o)] w3) (hb : Below w0.heap.size w0 w4) (hg : (w3.alloc o2).drew.grownBy w4 v.ownBlock) (hne : v.ownBlock ≠ some g) : Fr w0 [(g, o)] w4 :=
  Fr.grown (h.al o2).drew hb hg (fun q hq => by rw [List.mem_singleton.1 hq]; exact hne)
set_option maxRecDepth 100000 in
set_option maxHeartbeats 4000000 in
theorem elem_one {w0 w : World} {g p c : Nat} {A : Option Addr} {P Q id : Int} {E : Value} {l : List T9} {es : List El} (hF : Fr w0 [(g, rdO A l.length c P id E)] w) (hg : w0.heap.size ≤ g)
    (hR : Reads w0 w0.heap.size 9 A l.length (tks l)) (hm : l.length ≤ 100000) (hH : Hd w0) (hO : w.ownsRow w0.heap.size 38 8 E es.length (els es)) (he : es.length < 64) (hp : p < l.length)
    (hk0 : kdI l[p].1 ≠ 0) (hk4 : kdI l[p].1 ≠ 4) (hP : P = (p : Int)) (hQ : Q = P + 1) {x : El} (hx : Hid (elC x = elC (elOf l[p]))) :
    Calls Tryz.prog 45 #[ptG g] w (ElR w0 g A l.length c Q id (es ++ [x])) := by
  subst hP
  obtain ⟨AE, cE, rfl, hrE, hcE, hmE⟩ := own_sl hO
  obtain ⟨⟨K, F, T, N, S, f⟩, ht⟩ : ∃ t, l[p] = t := ⟨_, rfl⟩
  rw [ht] at hk0 hk4 hx
  simp only at hk0 hk4
  obtain ⟨b0, off, rfl, hb0, _⟩ := hR.at9 hp
  obtain ⟨bk, rfl⟩ : ∃ b, b = b0 := ⟨_, rfl⟩
  have HT := Lib.hid ht
  have HK := Lib.hid (fun W (hW : Hd W) => kindOf_ K W hW)
  obtain ⟨kd, hkd⟩ : ∃ k, kdI K = k := ⟨_, rfl⟩
  have Hkd := Lib.hid hkd
  rw [hkd] at hk0 hk4 HK
  obtain ⟨n, hn⟩ : ∃ n, n = l.length := ⟨_, rfl⟩
  rw [← hn] at hF hp hm
  have Hn := Lib.hid hn
  have HR := Lib.hid hR
  have HQ := Lib.hid hQ
  have HO := Lib.hid hO
  have HF := Lib.hid hF
  have HH := Lib.hid hH
  have i1 : ((p : Int) == (n : Int)) = false := by rw [beq_eq_false_iff_ne]; omega
  have i2 : (p : Int) < (n : Int) := by omega
  have i0 : (0 : Int) ≤ (p : Int) := by omega
  have i3 : ((es.length : Int) == 64) = false := by rw [beq_eq_false_iff_ne]; omega
  have m0 : (kd == 0) = false := by rw [beq_eq_false_iff_ne]; exact hk0
  have m4 : (kd == 4) = false := by rw [beq_eq_false_iff_ne]; exact hk4
  obtain ⟨⟨c0, c1, c2, c3⟩, ⟨f0, f1, f2, f3⟩, l1⟩ := bx4 (hF.at (g := g) (o := rdO (some ⟨bk, off, none⟩) n c (p : Int) id (.slice AE es.length cE)) List.mem_cons_self)
  clear hF hR ht hn hO hH hkd hk0 hk4 hQ hrE hcE hmE hb0
  go_enter Tryz.func45, Tryz.ntmps45
  go_upto_region 1 with fail
  go_cut [15] (fun s wx => s = .bool false ∧ Fr w0 [(g, rdO (some ⟨bk, off, none⟩) n c (p : Int) id (.slice AE es.length cE))] wx ∧ wx.ownsRow w0.heap.size 38 8 (.slice AE es.length cE) es.length (els es))
  case first =>
    go_quiet (fail)
    go_wp2
    go_meet
    exact ⟨rfl, HF.out.drewN _, own_below HO.out (drewN_below _ _)⟩
  case rest =>
  obtain ⟨rfl, hF2, hO2⟩ := hcut
  clear c0 c1 c2 c3 f0 f1 f2 f3 l1
  obtain ⟨bk2, off2, e2, hbk2, t0, t1, t2, t3, t4, t5, t6, t7, t8⟩ := (HR.out.below hF2.bel).at9 (by rw [← Hn.out]; exact hp)
  cases e2
  rw [HT.out] at t0 t1 t2 t3 t4 t5 t6 t7 t8
  simp only at t0 t1 t2 t3 t4 t5 t6 t7 t8
  obtain ⟨⟨c0, c1, c2, c3⟩, ⟨f0, f1, f2, f3⟩, l1⟩ := bx4 (hF2.at (g := g) (o := rdO (some ⟨bk, off, none⟩) n c (p : Int) id (.slice AE es.length cE)) List.mem_cons_self)
  have hbkw : bk < wc.heap.size := Nat.lt_of_lt_of_le hbk2 hF2.bel.size
  have HF3 := Lib.hid (((hF2.al (tkO K F T N S f)).drew).cons (g := wc.heap.size) (o := tkO K F T N S f) (alloc1_new _ _))
  have HO3 := Lib.hid (show (wc.alloc (tkO K F T N S f)).drew.ownsRow w0.heap.size 38 8 (.slice AE es.length cE) es.length (els es) from own_below hO2 (((Below.refl _ _).alloc (Nat.le_refl _) _).drew))
  have hne : g ≠ wc.heap.size := by omega
  clear hF2 hO2 HF HO
  go_wp2
  go_upto_region 6 with go_region
  clear c0 c1 c2 c3 f0 f1 f2 f3 l1 t0 t1 t2 t3 t4 t5 t6 t7 t8 hbkw
  generalize (wc.alloc (tkO K F T N S f)).drew = W4 at *
  generalize wc.heap.size = R4 at *
  obtain ⟨⟨x0, x1, x2, x3, x4, x5, x6, x7, x8⟩, _, l3⟩ := bx9 (HF3.out.at (g := R4) (o := tkO K F T N S f) List.mem_cons_self)
  obtain ⟨⟨c0, c1, c2, c3⟩, ⟨f0, f1, f2, f3⟩, l1⟩ := bx4 (HF3.out.at (g := g) (o := rdO (some ⟨bk, off, none⟩) n c (p : Int) id (.slice AE es.length cE)) (by simp))
  go_wp2_with fail
  (with_reducible refine (HK.out _ (HH.out.below HF3.out.bel)).mono ?_); rintro e w5 ⟨rfl, hw5⟩; subst hw5
  have hF6 : Fr w0 [(g, rdO (some ⟨bk, off, none⟩) n c Q id (.slice AE es.length cE))] (w5.setCell ⟨g, 1, none⟩ (.int .i64 Q)) := by
    have := (HF3.out.sub (M := [(g, rdO (some ⟨bk, off, none⟩) n c (p : Int) id (.slice AE es.length cE))]) (by simp)).set hg (by simp) 1 (.int .i64 Q)
    simpa using this
  have hneE : (Value.slice AE es.length cE).ownBlock ≠ some g := own_blk_ne HO3.out (HF3.out.at (g := g) (o := rdO (some ⟨bk, off, none⟩) n c (p : Int) id (.slice AE es.length cE)) (by simp)) (by decide)
  have hO6 := own_below (own_set HO3.out ⟨g, 1, none⟩ (.int .i64 Q) hneE) (((Below.refl (w5.setCell ⟨g, 1, none⟩ (.int .i64 Q)).heap.size _).alloc (Nat.le_refl _) (elO (kd, S, f, 0, 0))))
  have hF7 := hF6.al (elO (kd, S, f, 0, 0))
  have hx7 : ((w5.setCell ⟨g, 1, none⟩ (.int .i64 Q)).alloc (elO (kd, S, f, 0, 0))).heap[(w5.setCell ⟨g, 1, none⟩ (.int .i64 Q)).heap.size]? = some (elO (kd, S, f, 0, 0)) := alloc1_new _ _
  have HF7 := Lib.hid hF7
  have HO7 := Lib.hid hO6
  have HX7 := Lib.hid hx7
  have HNE := Lib.hid hneE
  have HEl := Lib.hid (show els (es ++ [x]) = els es ++ [.int .i64 kd, .string S, .int .u64 ((wK f 0 : Nat) : Int), .int .u64 ((wK f 1 : Nat) : Int), .int .u64 ((wK f 2 : Nat) : Int), .int .u64 ((wK f 3 : Nat) : Int), .int .i64 0, .int .i64 0] by
    rw [els_app]; unfold els; simp only [List.flatMap_cons, List.flatMap_nil, List.append_nil]; rw [hx.out, ← Hkd.out])
  clear hF6 hneE hO6 hF7 hx7
  go_upto_region 14 with fail
  rw [← HQ.out]
  have esz : (w5.setCell ⟨g, 1, none⟩ (.int .i64 Q)).heap.size = w5.heap.size := by simp
  rw [esz] at HX7
  clear c0 c1 c2 c3 f0 f1 f2 f3 l1 x0 x1 x2 x3 x4 x5 x6 x7 x8 l3 HF3 HO3 esz
  generalize (w5.setCell ⟨g, 1, none⟩ (.int .i64 Q)).alloc (elO (kd, S, f, 0, 0)) = W7 at *
  generalize w5.heap.size = R7 at *
  obtain ⟨⟨x0, x1, x2, x3, x4, x5, x6, x7⟩, _, l3⟩ := bx8 HX7.out
  obtain ⟨⟨c0, c1, c2, c3⟩, ⟨f0, f1, f2, f3⟩, l1⟩ := bx4 (HF7.out.at (g := g) (o := rdO (some ⟨bk, off, none⟩) n c Q id (.slice AE es.length cE)) (by simp))
  go_region_law ((refine step_ap elEl (w0 := w0) (by exact HO7.out.alloc _) (by exact (ba HF7.out.bel _).drew) [.int .i64 kd, .string S, .int .u64 ((wK f 0 : Nat) : Int), .int .u64 ((wK f 1 : Nat) : Int), .int .u64 ((wK f 2 : Nat) : Int), .int .u64 ((wK f 3 : Nat) : Int), .int .i64 0, .int .i64 0] (by exact alloc1_new _ _) ?_; intro g4 cap4 w4 hO4 hb4 hg4; have hF4 := far_fr HF7.out hb4 hg4 HNE.out; have z3 := Lib.cell_of_heap (hF4.at (g := g) List.mem_cons_self) 3; have y3 := Lib.frozen_of_heap (hF4.at (g := g) List.mem_cons_self) 3))
  all_goals
    have hF5 : Fr w0 [(g, rdO (some ⟨bk, off, none⟩) n c Q id (.slice (some ⟨g4, 0, none⟩) (es.length + 1) cap4))] (w4.setCell ⟨g, 3, none⟩ (.slice (some ⟨g4, 0, none⟩) (es.length + 1) cap4)) := by
      have := hF4.set hg (by simp) 3 (.slice (some ⟨g4, 0, none⟩) (es.length + 1) cap4)
      simpa using this
    have hO5 := own_set hO4 ⟨g, 3, none⟩ (.slice (some ⟨g4, 0, none⟩) (es.length + 1) cap4) (own_blk_ne hO4 (hF4.at (g := g) List.mem_cons_self) (by decide))
    have HF5 := Lib.hid hF5
    have HO5 := Lib.hid hO5
    clear hF5 hO5 hO4 hb4 hg4 hF4 z3 y3 x0 x1 x2 x3 x4 x5 x6 x7 c0 c1 c2 c3 f0 f1 f2 f3 l1 l3
    generalize w4.setCell ⟨g, 3, none⟩ (.slice (some ⟨g4, 0, none⟩) (es.length + 1) cap4) = W9 at *
    go_wp2
    refine bodyPost_ret (v := .bool true) (by simp [results, go_sem]) rfl ⟨rfl, _, by rw [← Hn.out]; exact HF5.out, ?_⟩
    rw [List.length_append, HEl.out]
    exact HO5.out
end Go.Proofs.YtcopnpllaoahaaaGreatDoor
namespace Go.Proofs.YtcopnpllaoahaaaGreatDoor
open Go.RowKit
theorem own_of_blk {w : World} {base g size n : Nat} {e : TypeId} {cs : List Value} (h : w.heap[g]? = some (.cells cs.toArray e (0, 0))) (hb : base ≤ g) (hl : cs.length = n * size) (hn : n ≤ 100000) : w.ownsRow base e size (.slice (some ⟨g, 0, none⟩) n n) n cs :=
  ⟨hl, .inr ⟨g, n, cs.toArray, rfl, hb, h, Nat.le_refl _, by unfold maxLen; omega, by simpa using hl, by rw [← hl]; simp⟩⟩
/-- the tokens of a rule up to an element -/
def lnT (r : Ru) (k : Nat) : List T9 := (1, 0, 0, 0, noB, noK) :: (3, 0, 0, r.1, noB, noK) :: (r.2.take k).flatMap elT
theorem lnT_zero (r : Ru) : lnT r 0 = [(1, 0, 0, 0, noB, noK), (3, 0, 0, r.1, noB, noK)] := by unfold lnT; simp
theorem lnT_succ (r : Ru) (k : Nat) (hk : k < r.2.length) : lnT r (k + 1) = lnT r k ++ elT r.2[k] := by
  unfold lnT
  rw [List.take_add_one, List.getElem?_eq_getElem hk, List.flatMap_append]
  simp
theorem lnT_all (r : Ru) : lnT r r.2.length = ruT r := by unfold lnT ruT; rw [List.take_length]
theorem elT_len (x : El) : (elT x).length ≤ 3 := by unfold elT; split <;> (try simp) ; split <;> (try simp); split <;> simp
theorem lnT_len (r : Ru) : ∀ k, (lnT r k).length ≤ 2 + 3 * k
  | 0 => by rw [lnT_zero]; simp
  | k + 1 => by
    have := lnT_len r k
    rcases Nat.lt_or_ge k r.2.length with h | h
    · rw [lnT_succ r k h, List.length_append]
      have := elT_len r.2[k]
      omega
    · have : lnT r (k + 1) = lnT r k := by unfold lnT; rw [List.take_of_length_le (by omega), List.take_of_length_le (by omega)]
      rw [this]; omega
theorem tks_no (k n : Int) : tks [(k, 0, 0, n, noB, noK)] = [.int .i64 k, .int .i64 0, .int .i64 0, .int .i64 n, .string ⟨#[]⟩, .int .u64 0, .int .u64 0, .int .u64 0, .int .u64 0] := by
  unfold tks t9C noB noK
  simp only [List.flatMap_cons, List.flatMap_nil, wK_no]
  rfl
theorem tks_two (k k' n n' : Int) : tks [(k, 0, 0, n, noB, noK), (k', 0, 0, n', noB, noK)] = [.int .i64 k, .int .i64 0, .int .i64 0, .int .i64 n, .string ⟨#[]⟩, .int .u64 0, .int .u64 0, .int .u64 0, .int .u64 0, .int .i64 k', .int .i64 0, .int .i64 0, .int .i64 n', .string ⟨#[]⟩, .int .u64 0, .int .u64 0, .int .u64 0, .int .u64 0] := by
  rw [show [(k, 0, 0, n, noB, noK), (k', 0, 0, n', noB, noK)] = [((k, 0, 0, n, noB, noK) : T9)] ++ [(k', 0, 0, n', noB, noK)] from rfl, tks_app, tks_no, tks_no]
  rfl
theorem tks_app3 (a : T9) (l : List T9) : tks ([a] ++ l) = t9C a ++ tks l := by rw [tks_app]; unfold tks; simp
/-- tokens come back, a row of the call's own -/
def RetTs (w : World) (ts : List T9) (e : Ending) (w' : World) : Prop :=
  ∃ A c, e = .returned (.slice A ts.length c) ∧ Below w.heap.size w w' ∧ w'.ownsRow w.heap.size 58 9 (.slice A ts.length c) ts.length (tks ts)
abbrev ruV (r : Rm) : Value := .agg #[.int .i64 r.1, .slice r.2.1 r.2.2.2.length r.2.2.1]
set_option maxRecDepth 100000 in
set_option maxHeartbeats 8000000 in
theorem sline_ (r : Rm) (w : World) (hI : IsRu w r) (hE : ∀ x ∈ r.2.2.2, elE x = 0) (hH : Hd w) (h64 : r.2.2.2.length ≤ 64) :
    Calls Tryz.prog 28 #[ruV r] w (RetTs w (ruT (rm r))) := by
  obtain ⟨id, A, c, es⟩ := r
  have HI := Lib.hid hI.rd
  have HE := Lib.hid hE
  have HH := Lib.hid hH
  simp only at h64
  obtain ⟨BO, hBO⟩ : ∃ o : Obj, o = .cells #[.int .i64 id, .slice A es.length c] 42 (0, 0) := ⟨_, rfl⟩
  obtain ⟨TO, hTO⟩ : ∃ o : Obj, o = .cells (tks [(1, 0, 0, 0, noB, noK), (3, 0, 0, id, noB, noK)]).toArray 58 (0, 0) := ⟨_, rfl⟩
  have hb0 : Below w.heap.size w ((w.alloc BO).alloc TO) := ba (ba (Below.refl _ _) _) _
  have ho0 : ((w.alloc BO).alloc TO).ownsRow w.heap.size 58 9 (.slice (some ⟨w.heap.size + 1, 0, none⟩) 2 2) 2 (tks (lnT (id, es) 0)) := by
    rw [lnT_zero]
    refine own_of_blk (by rw [← hTO]; exact alloc2_new _ _ _) (by omega) (by rw [tks_len]; rfl) (by omega)
  rw [tks_two] at hTO
  have HB0 := Lib.hid hb0
  have HO0 := Lib.hid ho0
  have c0 : ((w.alloc BO).alloc TO).cell? ⟨w.heap.size, 1, none⟩ = some (.slice A es.length c) := by
    have h := alloc_blk (o' := TO) (alloc1_new w BO)
    rw [hBO] at h
    rw [hBO]
    exact Lib.cell_of_heap h 1
  have hwl : w.heap.size < ((w.alloc BO).alloc TO).heap.size := by simp; omega
  subst hBO
  subst hTO
  clear hb0 ho0 hI hE hH
  go_enter Tryz.func28, Tryz.ntmps28
  go_upto_region 2 with fail
  generalize (w.alloc (.cells #[.int .i64 id, .slice A es.length c] 42 (0, 0))).alloc (.cells #[.int .i64 1, .int .i64 0, .int .i64 0, .int .i64 0, .string ⟨#[]⟩, .int .u64 0, .int .u64 0, .int .u64 0, .int .u64 0, .int .i64 3, .int .i64 0, .int .i64 0, .int .i64 id, .string ⟨#[]⟩, .int .u64 0, .int .u64 0, .int .u64 0, .int .u64 0] 58 (0, 0)) = W2 at *
  go_wp2
  go_loopw [3, 14] (fun v u wr => ∃ k : Nat, k ≤ es.length ∧ u = .int .i64 (k : Int) ∧ wr.ownsRow w.heap.size 58 9 v (lnT (id, es) k).length (tks (lnT (id, es) k)) ∧ Below w.heap.size w wr) (fun _ u _ => es.length - (intOf u).toNat)
  case atStart => exact ⟨0, Nat.zero_le _, rfl, HO0.out, HB0.out⟩
  case round =>
    obtain ⟨k, hk, rfl, hown, hbl⟩ := hrel
    obtain ⟨AL, cL, rfl, hrd, _, _⟩ := own_sl hown
    by_cases hlt : k < es.length
    case neg =>
      obtain rfl : k = es.length := by omega
      have i1 : ¬ ((es.length : Int) < (es.length : Int)) := by omega
      have he : lnT (id, es) es.length = ruT (id, es) := lnT_all (id, es)
      rw [he] at hown ⊢
      have HOw := Lib.hid hown
      clear hown hrd he
      go_wp2
      exact bodyPost_ret (v := .slice AL (ruT (id, es)).length cL) (by simp [results, go_sem]) rfl ⟨AL, cL, rfl, hbl, HOw.out⟩
    have i1 : (k : Int) < (es.length : Int) := by omega
    have i0 : (0 : Int) ≤ (k : Int) := by omega
    obtain ⟨bk, off, rfl, hbk, d0, d1, d2, d3, d4, d5, d6, d7⟩ := (HI.out.below hbl).at8 rfl hlt
    have hbkw : bk < wr.heap.size := Nat.lt_of_lt_of_le hbk hbl.size
    have hz := elE_zero (HE.out _ (List.getElem_mem hlt))
    have hHW := HH.out.below hbl
    have hn64 := lnT_len (id, es) k
    obtain ⟨⟨K, S, f, lo, hi⟩, hx⟩ : ∃ x, es[k] = x := ⟨_, rfl⟩
    rw [hx] at d0 d1 d2 d3 d4 d5 d6 d7 hz
    simp only at d0 d1 d2 d3 d4 d5 d6 d7
    have hK : (∃ (j : Nat) (h : Int), K = (j : Int) ∧ 1 ≤ j ∧ j ≤ 3 ∧ hdN j = h ∧ elT ((j : Int), S, f, lo, hi) = [(h, 0, 0, 0, S, f)]) ∨ K = 4 := by
      rcases hz.1 with e | e | e | e
      · exact .inl ⟨1, 4, e, by omega, by omega, rfl, rfl⟩
      · exact .inl ⟨2, 5, e, by omega, by omega, rfl, rfl⟩
      · exact .inl ⟨3, 6, e, by omega, by omega, rfl, rfl⟩
      · exact .inr e
    clear hz
    rcases hK with ⟨j, h, e1, j1, j3, hj, hjt⟩ | e4
    · subst e1
      have m4 : ((j : Int) == 4) = false := by rw [beq_eq_false_iff_ne]; omega
      have m5 : (j : Int) < 5 := by omega
      have m6 : (0 : Int) ≤ (j : Int) := by omega
      have hel : lnT (id, es) (k + 1) = lnT (id, es) k ++ [(h, 0, 0, 0, S, f)] := by rw [lnT_succ _ k hlt]; rw [show (id, es).2[k] = ((j : Int), S, f, lo, hi) from hx]; rw [hjt]
      have HEl := Lib.hid (show tks (lnT (id, es) (k + 1)) = tks (lnT (id, es) k) ++ [.int .i64 h, .int .i64 0, .int .i64 0, .int .i64 0, .string S, .int .u64 ((wK f 0 : Nat) : Int), .int .u64 ((wK f 1 : Nat) : Int), .int .u64 ((wK f 2 : Nat) : Int), .int .u64 ((wK f 3 : Nat) : Int)] by rw [hel, tks_app]; rfl)
      have HLn := Lib.hid (show (lnT (id, es) (k + 1)).length = (lnT (id, es) k).length + 1 by rw [hel]; simp)
      have ch : (wr.alloc (elO ((j : Int), S, f, lo, hi))).cell? ⟨0, j, none⟩ = some (.int .i64 h) := (((Below.refl wr.heap.size wr).alloc (Nat.le_refl _) (elO ((j : Int), S, f, lo, hi))).cell (p := ⟨0, j, none⟩) hHW.1).trans (by rw [← hj]; exact hHW.2 j (by omega))
      have HF := Lib.hid ((Fr.nil hbl).new (elO ((j : Int), S, f, lo, hi)))
      have HO4 := Lib.hid (own_below hown ((Below.refl wr.heap.size wr).alloc (Nat.le_refl _) (elO ((j : Int), S, f, lo, hi))))
      have HNE := Lib.hid (own_blk_ne HO4.out (HF.out.at (g := wr.heap.size) (o := elO ((j : Int), S, f, lo, hi)) List.mem_cons_self) (by decide))
      clear hel hHW hx hrd hown hj hjt j1
      go_upto_region 5 with fail
      clear d0 d1 d2 d3 d4 d5 d6 d7 hbkw
      generalize wr.alloc (elO ((j : Int), S, f, lo, hi)) = W4 at *
      generalize wr.heap.size = R4 at *
      obtain ⟨⟨x0, x1, x2, x3, x4, x5, x6, x7⟩, _, l3⟩ := bx8 (HF.out.at (g := R4) (o := elO ((j : Int), S, f, lo, hi)) List.mem_cons_self)
      clear x6 x7
      go_region_law ((refine step_ap tkEl (w0 := w) (by exact HO4.out.alloc _) (by exact (ba HF.out.bel _).drew) [.int .i64 h, .int .i64 0, .int .i64 0, .int .i64 0, .string S, .int .u64 ((wK f 0 : Nat) : Int), .int .u64 ((wK f 1 : Nat) : Int), .int .u64 ((wK f 2 : Nat) : Int), .int .u64 ((wK f 3 : Nat) : Int)] (by exact alloc1_new _ _) ?_; intro g4 cap4 w4 hO4 hb4 hg4))
      all_goals
        obtain ⟨⟨y0, _, _, _, _, _, y6, y7⟩, _, l4⟩ := bx8 ((far_fr HF.out hb4 hg4 HNE.out).at (g := R4) List.mem_cons_self)
        have HO5 := Lib.hid hO4
        have HB5 := Lib.hid hb4
        clear hO4 hb4 hg4 x0 x1 x2 x3 x4 x5 l3 ch
        clear y6 y7 l4
        simp only [Act.put, List.getElem_toArray, List.getElem_cons_succ, List.getElem_cons_zero, List.setIfInBounds_toArray, List.set_cons_zero, List.set_cons_succ]
        go_wp2
        go_roundw
        case rel => exact ⟨k + 1, by omega, by go_num, by rw [HEl.out, HLn.out]; exact HO5.out, HB5.out⟩
        case measure => (simp [intOf]) <;> omega
    · subst e4
      have hel : lnT (id, es) (k + 1) = lnT (id, es) k ++ ([(2, 0, 0, 0, S, f)] ++ [(3, 0, 0, lo, noB, noK), (3, 0, 0, hi, noB, noK)]) := by rw [lnT_succ _ k hlt]; rw [show (id, es).2[k] = (4, S, f, lo, hi) from hx]; rfl
      have HEl := Lib.hid (show tks (lnT (id, es) (k + 1)) = tks (lnT (id, es) k) ++ [.int .i64 2, .int .i64 0, .int .i64 0, .int .i64 0, .string S, .int .u64 ((wK f 0 : Nat) : Int), .int .u64 ((wK f 1 : Nat) : Int), .int .u64 ((wK f 2 : Nat) : Int), .int .u64 ((wK f 3 : Nat) : Int)] ++ [.int .i64 3, .int .i64 0, .int .i64 0, .int .i64 lo, .string ⟨#[]⟩, .int .u64 0, .int .u64 0, .int .u64 0, .int .u64 0, .int .i64 3, .int .i64 0, .int .i64 0, .int .i64 hi, .string ⟨#[]⟩, .int .u64 0, .int .u64 0, .int .u64 0, .int .u64 0] by rw [hel, tks_app, tks_app3, tks_two, ← List.append_assoc])
      have HLn := Lib.hid (show (lnT (id, es) (k + 1)).length = (lnT (id, es) k).length + 1 + 2 by rw [hel]; simp)
      have ch : (wr.alloc (elO (4, S, f, lo, hi))).cell? ⟨0, 4, none⟩ = some (.int .i64 2) := (((Below.refl wr.heap.size wr).alloc (Nat.le_refl _) (elO (4, S, f, lo, hi))).cell (p := ⟨0, 4, none⟩) hHW.1).trans (hHW.2 4 (by decide))
      have HF := Lib.hid ((Fr.nil hbl).new (elO (4, S, f, lo, hi)))
      have HO4 := Lib.hid (own_below hown ((Below.refl wr.heap.size wr).alloc (Nat.le_refl _) (elO (4, S, f, lo, hi))))
      have HNE := Lib.hid (own_blk_ne HO4.out (HF.out.at (g := wr.heap.size) (o := elO (4, S, f, lo, hi)) List.mem_cons_self) (by decide))
      clear hel hHW hx hrd hown
      go_upto_region 5 with fail
      clear d0 d1 d2 d3 d4 d5 d6 d7 hbkw
      generalize wr.alloc (elO (4, S, f, lo, hi)) = W4 at *
      generalize wr.heap.size = R4 at *
      obtain ⟨⟨x0, x1, x2, x3, x4, x5, x6, x7⟩, _, l3⟩ := bx8 (HF.out.at (g := R4) (o := elO (4, S, f, lo, hi)) List.mem_cons_self)
      clear x6 x7
      go_region_law ((refine step_ap tkEl (w0 := w) (by exact HO4.out.alloc _) (by exact (ba HF.out.bel _).drew) [.int .i64 2, .int .i64 0, .int .i64 0, .int .i64 0, .string S, .int .u64 ((wK f 0 : Nat) : Int), .int .u64 ((wK f 1 : Nat) : Int), .int .u64 ((wK f 2 : Nat) : Int), .int .u64 ((wK f 3 : Nat) : Int)] (by exact alloc1_new _ _) ?_; intro g4 cap4 w4 hO4 hb4 hg4))
      all_goals
        obtain ⟨⟨y0, _, _, _, _, _, y6, y7⟩, _, l4⟩ := bx8 ((far_fr HF.out hb4 hg4 HNE.out).at (g := R4) List.mem_cons_self)
        have HO5 := Lib.hid hO4
        have HB5 := Lib.hid hb4
        clear hO4 hb4 hg4 x0 x1 x2 x3 x4 x5 l3 ch
        simp only [Act.put, List.getElem_toArray, List.getElem_cons_succ, List.getElem_cons_zero, List.setIfInBounds_toArray, List.set_cons_zero, List.set_cons_succ]
        go_wp2_with (at_builtin; refine wpList_ap tkEl (w0 := w) (by exact HO5.out.alloc _) (by exact ba HB5.out _) [.int .i64 3, .int .i64 0, .int .i64 0, .int .i64 lo, .string ⟨#[]⟩, .int .u64 0, .int .u64 0, .int .u64 0, .int .u64 0, .int .i64 3, .int .i64 0, .int .i64 0, .int .i64 hi, .string ⟨#[]⟩, .int .u64 0, .int .u64 0, .int .u64 0, .int .u64 0] (by exact alloc1_new _ _) ?_)
        intro g6 cap6 w6 hO6 hb6 hg6
        have HO7 := Lib.hid hO6
        have HB7 := Lib.hid hb6
        clear hO6 hb6 hg6 y0 y6 y7 l4 HO5 HB5
        go_wp2
        go_roundw
        case rel => exact ⟨k + 1, by omega, by go_num, by rw [HEl.out, HLn.out, List.append_assoc]; exact HO7.out, HB7.out⟩
        case measure => (simp [intOf]) <;> omega
end Go.Proofs.YtcopnpllaoahaaaGreatDoor
