/- words.Split. No condition. -/
import Derived.Test.YtaainkjgnljihaaGreatDoorN4
import Derived.Test.YtaainkjgnljihaaGreatDoorRnd
namespace Go.Proofs.YtaainkjgnljihaaGreatDoor
open Go.RowKit Go.Shelf
attribute [local go_sem] Oper.semAt_some
def fxD (x : FX) : Fd := (x.1.1.data.toList, x.1.2)
theorem fxF_eq (x : FX) : fxF x = (fxD x, x.2) := rfl
theorem seqX_yes {l : List UInt8} {ys : List FX} (h : ys.map fxF = seqX l) (ht : ∀ x ∈ ys, x.2 = true) : seqL l = (ys.map fxD, true) := by
  unfold seqX at h
  rcases hs : seqL l with ⟨fs, b⟩
  rw [hs] at h
  cases b with
  | true =>
    simp only [if_true, List.append_nil] at h
    have : ys.map fxD = fs := by
      have h2 := congrArg (List.map Prod.fst) h
      simpa [List.map_map, Function.comp_def, fxF_eq] using h2
    rw [this]
  | false =>
    exfalso
    have hm : fxF endX ∈ ys.map fxF := by rw [h]; simp
    obtain ⟨x, hx, he⟩ := List.mem_map.1 hm
    have := ht x hx
    have h3 := congrArg Prod.snd he
    simp only [fxF_eq] at h3
    rw [this] at h3
    exact absurd h3 (by simp [endX])
theorem seqX_no {l : List UInt8} {pre : List FX} {x : FX} {k : Nat} (h : (pre ++ [x]).map fxF = (seqX l).take k) (hx : x.2 = false) : (seqL l).2 = false := by
  rcases hs : (seqL l).2 with _ | _
  · rfl
  · exfalso
    have hm : fxF x ∈ seqX l := List.mem_of_mem_take (by rw [← h]; simp)
    unfold seqX at hm
    rw [hs] at hm
    simp only [if_true, List.append_nil, List.mem_map] at hm
    obtain ⟨f, _, he⟩ := hm
    have h3 := congrArg Prod.snd he
    simp only [fxF_eq] at h3
    rw [hx] at h3
    cases h3
set_option maxHeartbeats 1000000 in
theorem fields_in (n : Nat) (s : ByteArray) (w : World) :
    CallsIn Fence.wide n Tryz.prog 51 #[.string s] w fun e w' => e = .returned (.func (.func 66) #[] #[.pointer (some ⟨w.heap.size, 0, none⟩)]) ∧ w' = w.alloc (.cells #[.string s] 9 (0, 0)) := by
  refine callsIn_of_wp Tryz.func51 rfl trivial ?_ rfl
  simp only [Tryz.ntmps51, List.size_toArray, List.length_cons, List.length_nil, Nat.reduceAdd, Nat.reduceSub, Array.replicate_succ, Array.replicate_zero, List.push_toArray, List.append_toArray, List.nil_append, List.cons_append]
  gi_wp2
  go_ret
  exact ⟨rfl, rfl⟩
abbrev rsO : Obj := .cells #[.slice none 0 0] 76 (0, 0)
abbrev erO (k : Int) : Obj := .cells #[.int .i64 k] 26 (0, 0)
abbrev tlO (b : Bool) : Obj := .cells #[.bool b] 4 (0, 0)
abbrev slO (v : Value) : Obj := .cells #[v] 76 (0, 0)
theorem own_ne_obj {base size n r : Nat} {e : TypeId} {v : Value} {xs : List Value} {w : World} {o : Obj} (h : w.ownsRow base e size v n xs) (hr : w.heap[r]? = some o) (ho : o.isCells = false) : v.ownBlock ≠ some r := by
  rcases h.2 with ⟨rfl, _⟩ | ⟨g', cap, cur, rfl, _, hh, _⟩
  · simp [Value.ownBlock]
  · intro he
    have : g' = r := by simpa [Value.ownBlock] using he
    subst this
    rw [hr] at hh
    cases hh
    cases ho
theorem own_grown {base size n : Nat} {e : TypeId} {v : Value} {xs : List Value} {w w' : World} {row : Option Nat} (h : w.ownsRow base e size v n xs) (hg : w.grownBy w' row) (hr : ∀ r, row = some r → v.ownBlock ≠ some r) : w'.ownsRow base e size v n xs :=
  KeepX.own (X := fun g => row = some g) ⟨hg.size, fun g hgl hne => hg.block g hgl (fun e => hne e.symm)⟩ h (fun g hv e => hr g e hv)
/-- between two rounds -/
def PS (w : World) (pre : List FX) (W : World) : Prop :=
  w.heap.size + 5 ≤ W.heap.size ∧ (∀ x ∈ pre, x.2 = true) ∧ ∃ v, Fr w [(w.heap.size + 2, slO v), (w.heap.size + 3, tlO (anyLong (pre.map fxD))), (w.heap.size, rsO), (w.heap.size + 1, erO 0)] W ∧ Hid (W.ownsRow (w.heap.size + 8) 80 2 v pre.length (fds (pre.map fxD)))
theorem PS.turn {w W W' : World} {pre : List FX} (h : PS w pre W) {row : Option Nat} (hg : W.grownBy W' row) (hr : ∀ r, row = some r → w.heap.size + 5 ≤ r ∧ (r = w.heap.size + 7 ∨ ∃ o : Obj, W.heap[r]? = some o ∧ o.isCells = false)) : PS w pre W' := by
  obtain ⟨h1, h2, v, hF, hO⟩ := h
  have hs := hF.bel.size
  refine ⟨Nat.le_trans h1 hg.size, h2, v, hF.grown (hF.bel.grown hg hs fun k hk => by have := (hr k hk).1; omega) hg (fun p hp e => ?_), Lib.hid (own_grown hO.out hg fun r e hv => ?_)⟩
  · have := (hr _ e).1
    simp only [List.mem_cons, List.not_mem_nil, or_false] at hp
    rcases hp with rfl | rfl | rfl | rfl <;> simp only at this <;> omega
  · rcases (hr r e).2 with h7 | ⟨o, ho, hc⟩
    · have := (hO.out.lt r hv).1; omega
    · exact own_ne_obj hO.out ho hc hv
abbrev PS5 := PS
/-- a round has left: the results stand -/
def PX (w : World) (c : Code) (pre : List FX) (W : World) : Prop := c = .ret ∧ (∃ p x, pre = p ++ [x] ∧ x.2 = false) ∧ w.heap.size + 5 ≤ W.heap.size ∧ Fr w [(w.heap.size, rsO), (w.heap.size + 1, erO 6)] W
theorem PX.turn {w W W' : World} {c : Code} {pre : List FX} (h : PX w c pre W) {row : Option Nat} (hg : W.grownBy W' row) (hr : ∀ r, row = some r → w.heap.size + 5 ≤ r) : PX w c pre W' := by
  obtain ⟨h1, h2, h3, hF⟩ := h
  have hs := hF.bel.size
  refine ⟨h1, h2, Nat.le_trans h3 hg.size, hF.grown (hF.bel.grown hg hs fun k hk => by have := hr k hk; omega) hg (fun p hp e => ?_)⟩
  have := hr _ e
  simp only [List.mem_cons, List.not_mem_nil, or_false] at hp
  rcases hp with rfl | rfl <;> simp only at this <;> omega
theorem rg_keeps (B g : Nat) : ∀ X Y, Rg g X Y → KeepsFrom B X Y := fun X Y h => ⟨h.1.size, fun k o _ hk ho => (h.1.block k (heap_lt hk) (fun e => by injection e with e; subst e; rw [h.2 _ hk] at ho; cases ho)).trans hk⟩
theorem keepG_b {n₀ g : Nat} {w : World} (h1 : n₀ ≤ w.heap.size) : ∀ (W : World) (l : Nat) (o o' : Obj), w.heap.size ≤ l → W.heap[l]? = some o → o.isCells = false → o.isWalk = false → KeepG n₀ g W (W.putObj l o') := fun W l o o' hl ho hc hk =>
  ⟨belowK_b h1 W l o o' hl ho hc hk, fun c t fz hq => (World.putObj_heap_other (by intro e; subst e; rw [ho] at hq; cases hq; cases hc)).trans hq⟩
theorem split_rel (s : ByteArray) (hs : s.size ≤ 8192) (w : World) (hE : Esc w) (hM : ML w) (w5 : World) (hb5 : Below w.heap.size w w5) (hsz : w5.heap.size = w.heap.size + 5) (hbx : w5.heap[w.heap.size + 4]? = some (.cells #[.string s] 9 (0, 0)))
    (W1 : World) (hs1 : W1.heap.size = w5.heap.size + 2) (hb1 : Below w5.heap.size w5 W1) :
    SeqRelM Fence.wide 3 Tryz.prog 66 #[.pointer (some ⟨w.heap.size + 4, 0, none⟩)] fxEnc (KeepG w.heap.size (w.heap.size + 7)) (Rg (w.heap.size + 7)) (fun ys => ys.map fxF = seqX s.data.toList) (fun pre => ∃ k, pre.map fxF = (seqX s.data.toList).take k) (seqX s.data.toList).length (w.heap.size + 7 + 1) W1 :=
  fun L J Jx hJ _ hY h0 => fields1_in 3 (by omega) L (w.heap.size + 4) s hs w hE hM J Jx W1 (w.heap.size + 7) (by omega) hJ hY (hb5.trans (hb1.mono (by omega))) ((hb1.block _ (by omega)).trans hbx) h0
/-- what a round does to the world -/
def Tk (n : Nat) (W W' : World) : Prop := KeepsFrom (n + 5) W W' ∧ KeepG n (n + 7) W W'
theorem Tk.refl (n : Nat) (W : World) : Tk n W W := ⟨KeepsFrom.refl _ _, Below.refl _ _, fun _ _ _ h => h⟩
theorem Tk.trans {n : Nat} {A B C : World} (h : Tk n A B) (k : Tk n B C) : Tk n A C := ⟨h.1.trans k.1, h.2.trans k.2⟩
theorem Tk.set {n : Nat} {W W' : World} (h : Tk n W W') (b i : Nat) (v : Value) (h1 : n ≤ b) (h2 : b < n + 7) : Tk n W (W'.setCell ⟨b, i, none⟩ v) :=
  h.trans ⟨(KeepsOthers.setCell _ _ _).from _, (Below.refl _ _).setCell (p := ⟨b, i, none⟩) h1 v, fun _ _ _ hk => set_blk hk _ v (by simp only; omega)⟩
theorem Tk.al {n : Nat} {W W' : World} (h : Tk n W W') (o : Obj) (h1 : n ≤ W'.heap.size) : Tk n W (W'.alloc o) :=
  h.trans ⟨(KeepsOthers.alloc _ _).from _, (Below.refl _ _).alloc h1 o, fun _ _ _ hk => alloc_blk hk⟩
theorem Tk.grown {n : Nat} {W W' W2 : World} (h : Tk n W W') {e : TypeId} {size m : Nat} {v : Value} {xs : List Value} (hO : W'.ownsRow (n + 8) e size v m xs) (hg : W'.grownBy W2 v.ownBlock) (h1 : n ≤ W'.heap.size) : Tk n W W2 :=
  h.trans ⟨⟨hg.size, fun k o _ hk ho => (hg.block k (heap_lt hk) (fun e => own_ne_obj hO hk ho e.symm)).trans hk⟩,
    (Below.refl n W').grown hg h1 (fun k hk => by have := (hO.lt k hk).1; omega), fun _ _ _ hk => grown_blk hg hk (fun e => by have := (hO.lt _ e).1; omega)⟩
theorem seqF_len : ∀ (n : Nat) (l : List UInt8), (seqF n l).1.length ≤ l.length := by
  intro n
  induction n with
  | zero => intro l; simp [seqF]
  | succ n ih =>
    intro l
    unfold seqF
    rcases hh : headF l with _ | ⟨f, k⟩
    · simp
    · have hp := headF_pos hh
      simp only
      rcases hd : l.drop k with _ | ⟨x, r⟩
      · simp; omega
      · have hl := congrArg List.length hd
        simp at hl
        simp only
        split
        · have := ih r
          simp only [List.length_cons]; omega
        · simp
theorem seqX_len (l : List UInt8) : (seqX l).length ≤ l.length + 1 := by
  have := seqF_len (l.length + 1) l
  unfold seqX seqL
  simp only [List.length_append, List.length_map]
  split <;> simp <;> omega
theorem set_alloc_new (W : World) (p : Addr) (u : Value) (o : Obj) : ((W.setCell p u).alloc o).heap[W.heap.size]? = some o := by
  have := alloc1_new (W.setCell p u) o
  simpa [World.setCell] using this
theorem fin_world {w W : World} {D : Nat} (v : Value) (k : Int) {k0 : Int} (hb : Below w.heap.size w W) (e0 : W.heap[w.heap.size]? = some (.cells #[.slice none 0 0] 76 (0, 0))) (e1 : W.heap[w.heap.size + 1]? = some (erO k0)) (hD : w.heap.size + 5 ≤ D) (hK : W.heap[D]? = some (.deferred (some []))) (Wf : World) (hWf : Wf = (W.setCell ⟨w.heap.size, 0, none⟩ v).setCell ⟨w.heap.size + 1, 0, none⟩ (.int .i64 k)) :
    Wf.heap[D]? = some (.deferred (some [])) ∧ (Wf.putObj D (.deferred none)).cell? ⟨w.heap.size, 0, none⟩ = some v ∧ (Wf.putObj D (.deferred none)).cell? ⟨w.heap.size + 1, 0, none⟩ = some (.int .i64 k) ∧ Below w.heap.size w (Wf.putObj D (.deferred none)) := by
  have hN0 : Wf.heap[w.heap.size]? = some (.cells #[v] 76 (0, 0)) := by
    rw [hWf]
    refine set_blk ?_ _ _ (by simp only; omega)
    rw [set_same (i := 0) e0]; rfl
  have hN1 : Wf.heap[w.heap.size + 1]? = some (.cells #[.int .i64 k] 26 (0, 0)) := by
    rw [hWf, set_same (i := 0) (set_blk e1 _ _ (by simp only; omega))]; rfl
  have hDf : Wf.heap[D]? = some (.deferred (some [])) := by
    rw [hWf]
    exact set_blk (set_blk hK _ _ (by simp only; omega)) _ _ (by simp only; omega)
  have hBf : Below w.heap.size w Wf := by
    rw [hWf]
    exact bs (bs hb (by simp)) (by simp)
  exact ⟨hDf, Lib.cell_of_heap ((World.putObj_heap_other (by omega)).trans hN0) 0, Lib.cell_of_heap ((World.putObj_heap_other (by omega)).trans hN1) 0, hBf.trans (belowK_b (w := w) (Nat.le_refl _) Wf D _ _ (by omega) hDf rfl rfl)⟩
theorem news2 {w : World} {g : Nat} {F : ByteArray} {q : Bool} (h : w.heap[g]? = some (fdO F q)) : ∀ (j : Nat) (u : Value), ([.string F, .bool q] : List Value)[j]? = some u → w.cell? ((⟨g, 0, none⟩ : Addr).add j) = some u :=
  World.news_of_block h
theorem round_end {w W w1 : World} {pre : List FX} {F : ByteArray} {q : Bool} {v v' : Value} (hF : Fr w [(w.heap.size + 2, slO v), (w.heap.size + 3, tlO (anyLong (pre.map fxD))), (w.heap.size, rsO), (w.heap.size + 1, erO 0)] W)
    (hO : W.ownsRow (w.heap.size + 8) 80 2 v pre.length (fds (pre.map fxD))) (hsz : w.heap.size + 8 ≤ W.heap.size) (hall : ∀ x ∈ pre, x.2 = true) (b' : Bool) (hb' : b' = anyLong (pre.map fxD ++ [(F.data.toList, q)]))
    (hown' : w1.ownsRow (w.heap.size + 8) 80 2 v' (pre.length + 1) (fds (pre.map fxD) ++ [.string F, .bool q])) (hgrow : ((W.setCell ⟨w.heap.size + 3, 0, none⟩ (.bool b')).alloc (fdO F q)).grownBy w1 v.ownBlock) :
    (w1.cell? ⟨w.heap.size + 2, 0, none⟩ = some v ∧ w1.frozen? ⟨w.heap.size + 2, 0, none⟩ = false) ∧ Tk w.heap.size W (w1.setCell ⟨w.heap.size + 2, 0, none⟩ v') ∧ PS w (pre ++ [((F, q), true)]) (w1.setCell ⟨w.heap.size + 2, 0, none⟩ v') := by
  have hs := hF.bel.size
  have hv : ∀ k, v.ownBlock = some k → w.heap.size + 8 ≤ k := fun k hk => (hO.lt k hk).1
  have hv' : ∀ k, v'.ownBlock = some k → w.heap.size + 8 ≤ k := fun k hk => (hown'.lt k hk).1
  have e2 := hF.at (g := w.heap.size + 2) (o := slO v) (by simp)
  have e3 := hF.at (g := w.heap.size + 3) (o := tlO (anyLong (pre.map fxD))) (by simp)
  have e0 := hF.at (g := w.heap.size) (o := rsO) (by simp)
  have e1 := hF.at (g := w.heap.size + 1) (o := erO 0) (by simp)
  have k2 : w1.heap[w.heap.size + 2]? = some (slO v) := grown_blk hgrow (alloc_blk (set_blk e2 _ _ (by simp only; omega))) (fun e => by have := hv _ e; omega)
  have k3 : w1.heap[w.heap.size + 3]? = some (tlO b') := grown_blk hgrow (alloc_blk (by rw [set_same (i := 0) e3]; rfl)) (fun e => by have := hv _ e; omega)
  have k0 : w1.heap[w.heap.size]? = some rsO := grown_blk hgrow (alloc_blk (set_blk e0 _ _ (by simp only; omega))) (fun e => by have := hv _ e; omega)
  have k1 : w1.heap[w.heap.size + 1]? = some (erO 0) := grown_blk hgrow (alloc_blk (set_blk e1 _ _ (by simp only; omega))) (fun e => by have := hv _ e; omega)
  have hs1 : W.heap.size ≤ w1.heap.size := Nat.le_trans (by simp [World.setCell]) hgrow.size
  have hOb : ((W.setCell ⟨w.heap.size + 3, 0, none⟩ (.bool b')).alloc (fdO F q)).ownsRow (w.heap.size + 8) 80 2 v pre.length (fds (pre.map fxD)) := (own_set hO _ _ (fun e => by have := hv _ e; simp only at this; omega)).alloc _
  have hT0 := ((Tk.refl w.heap.size W).set (w.heap.size + 3) 0 (.bool b') (by omega) (by omega)).al (fdO F q) (by simpa [World.setCell] using hs)
  have hT1 := hT0.grown hOb hgrow (by simp [World.setCell]; omega)
  refine ⟨⟨Lib.cell_of_heap k2 0, Lib.frozen_of_heap k2 0⟩, hT1.set _ 0 v' (by omega) (by omega), ?_, ?_, v', ?_, Lib.hid ?_⟩
  · simp [World.setCell]; omega
  · intro x hx
    rw [List.mem_append] at hx
    rcases hx with hx | hx
    · exact hall x hx
    · simp at hx; rw [hx]
  · refine ⟨bs (hF.bel.trans (hT1.2.1.mono (Nat.le_refl _))) (by simp), ?_⟩
    intro p hp
    simp only [List.mem_cons, List.not_mem_nil, or_false] at hp
    rcases hp with rfl | rfl | rfl | rfl
    · rw [set_same (i := 0) k2]; rfl
    · rw [List.map_append, show List.map fxD [((F, q), true)] = [(F.data.toList, q)] from rfl, ← hb']
      exact set_blk k3 _ _ (by simp only; omega)
    · exact set_blk k0 _ _ (by simp only; omega)
    · exact set_blk k1 _ _ (by simp only; omega)
  · rw [List.map_append, show List.map fxD [((F, q), true)] = [(F.data.toList, q)] from rfl, fds_snocB, List.length_append]
    exact own_set hown' _ _ (fun e => by have := hv' _ e; simp only at this; omega)
--WALK
set_option maxRecDepth 100000 in
set_option maxHeartbeats 4000000 in
theorem split_ (s : ByteArray) (w : World) (hE : Esc w) (hM : ML w) :
    Calls Tryz.prog 40 #[.string s] w (RetFs w (splitL s.data.toList)) := by
  have hl : s.data.toList.length = s.size := by simp
  refine (callsIn_wide (n := 4)).1 ?_
  by_cases h8 : 8192 < s.size
  · have hR := Lib.hid (show splitL s.data.toList = ([], 3) by unfold splitL; rw [if_pos (by omega)])
    have h8' : (8192 : Int) < (s.size : Int) := by omega
    clear hl h8
    refine callsIn_of_wp_marks Tryz.func40 rfl trivial ?_ rfl
    simp only [Tryz.ntmps40, List.size_toArray, List.length_cons, List.length_nil, Nat.reduceAdd, Nat.reduceSub, Array.replicate_succ, Array.replicate_zero, List.push_toArray, List.append_toArray, List.nil_append, List.cons_append]
    gi_wp2
    have c0 : ((w.alloc rsO).alloc (erO 3)).cell? ⟨w.heap.size, 0, none⟩ = some (.slice none 0 0) := Lib.cell_of_heap (alloc_blk (alloc1_new _ _)) 0
    have c1 : ((w.alloc rsO).alloc (erO 3)).cell? ⟨w.heap.size + 1, 0, none⟩ = some (.int .i64 3) := Lib.cell_of_heap (alloc2_new _ _ _) 0
    refine ⟨.tuple #[.slice none 0 0, .int .i64 3], by simp [results, Tryz.f40, go_sem, c0, c1], ?_⟩
    exact RetFs.none_ (ba (ba (Below.refl _ _) _) _) hR.out
  have h8' : ¬ ((8192 : Int) < (s.size : Int)) := by omega
  by_cases hz : s.size = 0
  · have hz2 : s.toList.isEmpty = true := List.isEmpty_iff.2 ((toList_nil s).2 hz)
    have hz3 : s.data.toList = [] := List.eq_nil_of_length_eq_zero (by omega)
    have hR := Lib.hid (show splitL s.data.toList = ([], 0) by rw [hz3]; rfl)
    clear hl h8 hz3
    refine callsIn_of_wp_marks Tryz.func40 rfl trivial ?_ rfl
    simp only [Tryz.ntmps40, List.size_toArray, List.length_cons, List.length_nil, Nat.reduceAdd, Nat.reduceSub, Array.replicate_succ, Array.replicate_zero, List.push_toArray, List.append_toArray, List.nil_append, List.cons_append]
    gi_wp2
    have c0 : ((w.alloc rsO).alloc (erO 0)).cell? ⟨w.heap.size, 0, none⟩ = some (.slice none 0 0) := Lib.cell_of_heap (alloc_blk (alloc1_new _ _)) 0
    have c1 : ((w.alloc rsO).alloc (erO 0)).cell? ⟨w.heap.size + 1, 0, none⟩ = some (.int .i64 0) := Lib.cell_of_heap (alloc2_new _ _ _) 0
    refine ⟨.tuple #[.slice none 0 0, .int .i64 0], by simp [results, Tryz.f40, go_sem, c0, c1], ?_⟩
    exact RetFs.none_ (ba (ba (Below.refl _ _) _) _) hR.out
  have hz2 : s.toList.isEmpty = false := by rw [List.isEmpty_eq_false_iff]; exact fun e => hz ((toList_nil s).1 e)
  have hne := Lib.hid (ne_nil hz)
  have Hl := Lib.hid hl
  have hs8 : s.size ≤ 8192 := by omega
  clear hl h8
  refine callsIn_of_wp_marks Tryz.func40 rfl trivial ?_ rfl
  simp only [Tryz.ntmps40, List.size_toArray, List.length_cons, List.length_nil, Nat.reduceAdd, Nat.reduceSub, Array.replicate_succ, Array.replicate_zero, List.push_toArray, List.append_toArray, List.nil_append, List.cons_append]
  gi_wp2_with (refine ⟨trivial, ?_⟩; gi_at_call 51; refine (fields_in _ _ _).mono ?_; rintro e w' ⟨rfl, rfl⟩)
  simp only [Nat.add_assoc, Nat.reduceAdd]
  have hF5 : Fr w [(w.heap.size + 2, slO (.slice none 0 0)), (w.heap.size + 3, tlO false), (w.heap.size, rsO), (w.heap.size + 1, erO 0)] (((((w.alloc rsO).alloc (erO 0)).alloc (slO (.slice none 0 0))).alloc (tlO false)).alloc (.cells #[.string s] 9 (0, 0))) :=
    (((((Fr.start w).new rsO).newN (g := w.heap.size + 1) (by simp) (erO 0)).newN (g := w.heap.size + 2) (by simp) (slO (.slice none 0 0))).newN (g := w.heap.size + 3) (by simp) (tlO false)).al _ |>.sub (by intro p hp; simp only [List.mem_cons, List.not_mem_nil, or_false] at hp ⊢; rcases hp with h | h | h | h <;> simp [h])
  have hbx5 : (((((w.alloc rsO).alloc (erO 0)).alloc (slO (.slice none 0 0))).alloc (tlO false)).alloc (.cells #[.string s] 9 (0, 0))).heap[w.heap.size + 4]? = some (.cells #[.string s] 9 (0, 0)) := by
    have := alloc1_new ((((w.alloc rsO).alloc (erO 0)).alloc (slO (.slice none 0 0))).alloc (tlO false)) (.cells #[.string s] 9 (0, 0))
    simpa using this
  have hsz5 : (((((w.alloc rsO).alloc (erO 0)).alloc (slO (.slice none 0 0))).alloc (tlO false)).alloc (.cells #[.string s] 9 (0, 0))).heap.size = w.heap.size + 5 := by simp
  generalize (((((w.alloc rsO).alloc (erO 0)).alloc (slO (.slice none 0 0))).alloc (tlO false)).alloc (.cells #[.string s] 9 (0, 0))) = w5 at *
  have hI0 : PS5 w [] w5 := ⟨by omega, (fun _ h => by cases h), .slice none 0 0, hF5, Lib.hid (World.ownsRow_nil _ _ _ _)⟩
  refine wpIn_range_relM rfl (by omega) (gf := 66) (lb := #[.pointer (some ⟨w.heap.size + 4, 0, none⟩)]) rfl trivial (enters_of Tryz.func66 (by kernel_rfl) rfl)
    (split_rel s hs8 w hE hM w5 hF5.bel hsz5 hbx5)
    (rg_keeps _ _) (fun h k => h.trans k) (keepG_b (by omega)) (fun _ => rfl)
    (PS5 w) (PX w) ?hI ?hIx ?hIr ?hIxr hI0
    (fun x W => { tmps := #[.string s, undef, .pointer (some ⟨w.heap.size, 0, none⟩), .pointer (some ⟨w.heap.size + 1, 0, none⟩), .pointer (some ⟨w.heap.size + 2, 0, none⟩), .pointer (some ⟨w.heap.size + 3, 0, none⟩), .pointer (some ⟨W.heap.size, 0, none⟩), .bool x.2, .bool false, .string s, .int .i64 (s.size : Int), .bool false, .bool false, .string s, .bool false, .string s, .func (.func 66) #[] #[.pointer (some ⟨w.heap.size + 4, 0, none⟩)], .agg #[.string x.1.1, .bool x.1.2], .bool x.2, undef, undef, undef, undef, undef, undef, undef, undef, undef, undef, undef, undef, undef, undef, undef, undef, undef, undef, undef, undef], defers := [] }) (fun x W => W.alloc (fdO x.1.1 x.1.2)) (fun pre x a W => ∃ g, a = { tmps := #[.string s, undef, .pointer (some ⟨w.heap.size, 0, none⟩), .pointer (some ⟨w.heap.size + 1, 0, none⟩), .pointer (some ⟨w.heap.size + 2, 0, none⟩), .pointer (some ⟨w.heap.size + 3, 0, none⟩), .pointer (some ⟨g, 0, none⟩), .bool x.2, .bool false, .string s, .int .i64 (s.size : Int), .bool false, .bool false, .string s, .bool false, .string s, .func (.func 66) #[] #[.pointer (some ⟨w.heap.size + 4, 0, none⟩)], .agg #[.string x.1.1, .bool x.1.2], .bool x.2, undef, undef, undef, undef, undef, undef, undef, undef, undef, undef, undef, undef, undef, undef, undef, undef, undef, undef, undef, undef], defers := [] } ∧ w.heap.size + 5 ≤ g ∧ PS5 w pre W ∧ W.heap[g]? = some (fdO x.1.1 x.1.2)) ?hw1 ?hI1 ?hI1o ?assign ?body ?done ?stop
  case hI =>
    intro pre X Y row hs hg hr
    exact hs.turn hg (fun r e => by
      obtain ⟨h1, o, h2, h3⟩ := hr r e
      exact ⟨by omega, .inr ⟨o, h2, h3⟩⟩)
  case hIx =>
    intro c pre X Y row hs hg hr
    exact PX.turn hs hg (fun r e => by have := (hr r e).1; omega)
  case hIr =>
    intro pre X Y hs hg
    exact hs.turn hg.1 (fun r e => by cases e; exact ⟨by omega, .inl rfl⟩)
  case hIxr =>
    intro c pre X Y hs hg
    exact PX.turn hs hg.1 (fun r e => by cases e; omega)
  case hw1 =>
    intro pre x W hs
    have hn := hs.2.2
    obtain ⟨v, hF, _⟩ := hn
    have hk := (Tk.refl w.heap.size W).al (fdO x.1.1 x.1.2) hF.bel.size
    exact ⟨(KeepsOthers.alloc _ _).from _, hk.2⟩
  case hI1 =>
    intro pre x W hs
    exact ⟨W.heap.size, rfl, hs.1, hs.turn (World.grownBy_alloc W _ none) (fun r e => by cases e), alloc1_new _ _⟩
  case hI1o =>
    rintro x act pre X Y row ⟨g, rfl, h1, hs, h2⟩ hg hr
    refine ⟨g, rfl, h1, hs.turn hg (fun r e => ?_), (hg.block g (heap_lt h2) fun e => ?_).trans h2⟩
    · obtain ⟨k1, o, k2, k3⟩ := hr r e
      exact ⟨by omega, .inr ⟨o, k2, k3⟩⟩
    · obtain ⟨k1, o, k2, k3⟩ := hr g e.symm
      rw [h2] at k2; cases k2; cases k3
  case assign =>
    intro L x W K hK
    gi_wp2
    exact hK
  case body =>
    rintro L pre ⟨⟨F, q⟩, b⟩ act W ⟨g, rfl, hg5, ⟨hsz, hall, v, hF, hO⟩, hgf⟩ hm hlt
    simp only at hgf
    have hB := hF.bel.size
    cases b
    case false =>
      have e0 := hF.at (g := w.heap.size) (o := rsO) (by simp)
      have e1 := hF.at (g := w.heap.size + 1) (o := erO 0) (by simp)
      have f0 : W.frozen? ⟨w.heap.size, 0, none⟩ = false := Lib.frozen_of_heap e0 0
      have f1 : W.frozen? ⟨w.heap.size + 1, 0, none⟩ = false := Lib.frozen_of_heap e1 0
      have c0 : W.cell? ⟨w.heap.size, 0, none⟩ = some (.slice none 0 0) := Lib.cell_of_heap e0 0
      have c1 : W.cell? ⟨w.heap.size + 1, 0, none⟩ = some (.int .i64 0) := Lib.cell_of_heap e1 0
      have hT := ((Tk.refl w.heap.size W).set w.heap.size 0 (.slice none 0 0) (by omega) (by omega)).set (w.heap.size + 1) 0 (.int .i64 6) (by omega) (by omega)
      have hF2 : Fr w [(w.heap.size, rsO), (w.heap.size + 1, erO 6)] ((W.setCell ⟨w.heap.size, 0, none⟩ (.slice none 0 0)).setCell ⟨w.heap.size + 1, 0, none⟩ (.int .i64 6)) := by
        refine ⟨bs (bs hF.bel (by simp)) (by simp), ?_⟩
        intro p hp
        simp only [List.mem_cons, List.not_mem_nil, or_false] at hp
        rcases hp with rfl | rfl
        · refine set_blk ?_ _ _ (by simp only; omega)
          rw [set_same (i := 0) e0]; rfl
        · rw [set_same (i := 0) (set_blk e1 _ _ (by simp only; omega))]; rfl
      have HT := Lib.hid (And.intro hT hF2)
      clear e0 e1 hT hF2 hF hO hgf
      gi_wp2
      refine ⟨by rw [hsz5]; exact HT.out.1.1, rfl, ⟨pre, _, rfl, rfl⟩, ?_, HT.out.2⟩
      simpa [World.setCell] using hsz
    case true =>
      have e2 := hF.at (g := w.heap.size + 2) (o := slO v) (by simp)
      have e3 := hF.at (g := w.heap.size + 3) (o := tlO (anyLong (pre.map fxD))) (by simp)
      have f2 : W.frozen? ⟨w.heap.size + 2, 0, none⟩ = false := Lib.frozen_of_heap e2 0
      have f3 : W.frozen? ⟨w.heap.size + 3, 0, none⟩ = false := Lib.frozen_of_heap e3 0
      have c2 : W.cell? ⟨w.heap.size + 2, 0, none⟩ = some v := Lib.cell_of_heap e2 0
      have c3 : W.cell? ⟨w.heap.size + 3, 0, none⟩ = some (.bool (anyLong (pre.map fxD))) := Lib.cell_of_heap e3 0
      have d0 : W.cell? ⟨g, 0, none⟩ = some (.string F) := Lib.cell_of_heap hgf 0
      have d1 : W.cell? ⟨g, 1, none⟩ = some (.bool q) := Lib.cell_of_heap hgf 1
      have hg2 : ¬ (g = w.heap.size + 3) := by omega
      have hg3 : ¬ (w.heap.size + 3 = g) := by omega
      have hpl : pre.length ≤ 8200 := by have h1 := seqX_len s.data.toList; rw [Hl.out] at h1; omega
      obtain ⟨i0, hi, hz0, hz1, hz2⟩ := info_parts fdEl.hi
      have HF := Lib.hid hF
      have Hgf := Lib.hid hgf
      have Hi := Lib.hid (And.intro hi (And.intro hz0 (And.intro hz1 hz2)))
      have hOs : ∀ b', (W.setCell ⟨w.heap.size + 3, 0, none⟩ (.bool b')).ownsRow (w.heap.size + 8) 80 2 v pre.length (fds (pre.map fxD)) := fun b' => own_set hO.out _ _ (fun e => by have := (hO.out.lt _ e).1; simp only at this; omega)
      have HOs := Lib.hid hOs
      have hm2 : w.heap.size + 8 ≤ W.heap.size := hm
      have hsn := Lib.hid (anyLong_snoc (pre.map fxD) (F.data.toList, q))
      have hfl : F.data.toList.length = F.size := by simp
      rw [hfl] at hsn
      clear hF hgf hi hz0 hz1 hz2 hOs e2 e3 hfl
      rcases hL : anyLong (pre.map fxD) with _ | _
      · rw [hL] at c3
        by_cases h2 : 2000 < F.size
        · have hB2 := Lib.hid (show true = anyLong (pre.map fxD ++ [(F.data.toList, q)]) by rw [hsn.out]; simp [h2])
          have i2 : (2000 : Int) < (F.size : Int) := by omega
          clear h2 hL
          gi_wp2_with (gi_at_builtin; refine wpListIn_append_own _ rfl _ _ 76 rfl (w.heap.size + 8) 80 i0 (.agg #[.string ⟨#[]⟩, .bool false]) 2 24 Tryz.underlying76 Hi.out.1 Hi.out.2.1 Hi.out.2.2.1 Hi.out.2.2.2 rfl (by decide) _ _ _ rfl ((HOs.out _).alloc _) ⟨W.heap.size, 0, none⟩ 1 1 [.string F, .bool q] rfl rfl (news2 (set_alloc_new _ _ _ _)) (by simp [Value.oneCell']) (by unfold maxLen; omega) (by omega) (by simp [World.setCell]; omega) ?_; intro v' w1 hown' hgrow _; obtain ⟨g', cap', rfl⟩ := ownsRow_succ hown'; obtain ⟨⟨p2, q2⟩, hT, hPS⟩ := round_end HF.out hO.out hm2 hall _ hB2.out hown' hgrow)
          exact ⟨by first | exact hT.1 | (rw [hsz5]; exact hT.1), hT.2, hPS⟩
        · have hB2 := Lib.hid (show false = anyLong (pre.map fxD ++ [(F.data.toList, q)]) by rw [hsn.out, hL]; simp [h2])
          have i2 : ¬ ((2000 : Int) < (F.size : Int)) := by omega
          clear h2 hL
          gi_wp2_with (gi_at_builtin; refine wpListIn_append_own _ rfl _ _ 76 rfl (w.heap.size + 8) 80 i0 (.agg #[.string ⟨#[]⟩, .bool false]) 2 24 Tryz.underlying76 Hi.out.1 Hi.out.2.1 Hi.out.2.2.1 Hi.out.2.2.2 rfl (by decide) _ _ _ rfl ((HOs.out _).alloc _) ⟨W.heap.size, 0, none⟩ 1 1 [.string F, .bool q] rfl rfl (news2 (set_alloc_new _ _ _ _)) (by simp [Value.oneCell']) (by unfold maxLen; omega) (by omega) (by simp [World.setCell]; omega) ?_; intro v' w1 hown' hgrow _; obtain ⟨g', cap', rfl⟩ := ownsRow_succ hown'; obtain ⟨⟨p2, q2⟩, hT, hPS⟩ := round_end HF.out hO.out hm2 hall _ hB2.out hown' hgrow)
          exact ⟨by first | exact hT.1 | (rw [hsz5]; exact hT.1), hT.2, hPS⟩
      · rw [hL] at c3
        have hB2 := Lib.hid (show true = anyLong (pre.map fxD ++ [(F.data.toList, q)]) by rw [hsn.out, hL]; rfl)
        clear hL
        gi_wp2_with (gi_at_builtin; refine wpListIn_append_own _ rfl _ _ 76 rfl (w.heap.size + 8) 80 i0 (.agg #[.string ⟨#[]⟩, .bool false]) 2 24 Tryz.underlying76 Hi.out.1 Hi.out.2.1 Hi.out.2.2.1 Hi.out.2.2.2 rfl (by decide) _ _ _ rfl ((HOs.out _).alloc _) ⟨W.heap.size, 0, none⟩ 1 1 [.string F, .bool q] rfl rfl (news2 (set_alloc_new _ _ _ _)) (by simp [Value.oneCell']) (by unfold maxLen; omega) (by omega) (by simp [World.setCell]; omega) ?_; intro v' w1 hown' hgrow _; obtain ⟨g', cap', rfl⟩ := ownsRow_succ hown'; obtain ⟨⟨p2, q2⟩, hT, hPS⟩ := round_end HF.out hO.out hm2 hall _ hB2.out hown' hgrow)
        exact ⟨by first | exact hT.1 | (rw [hsz5]; exact hT.1), hT.2, hPS⟩
  case done =>
    rintro D ys W hD hys ⟨hsz, hall, v, hF, hO⟩ hK
    rw [hsz5] at hD
    have hsq := Lib.hid (seqX_yes hys hall)
    have hl1 : s.data.toList.length ≤ 8192 := by rw [Hl.out]; exact hs8
    obtain ⟨A, c, rfl, hRd, hc, hc9⟩ := own_sl hO.out
    have e2 := hF.at (g := w.heap.size + 2) (o := slO (.slice A ys.length c)) (by simp)
    have e3 := hF.at (g := w.heap.size + 3) (o := tlO (anyLong (ys.map fxD))) (by simp)
    have e0 := hF.at (g := w.heap.size) (o := rsO) (by simp)
    have e1 := hF.at (g := w.heap.size + 1) (o := erO 0) (by simp)
    have c2 : W.cell? ⟨w.heap.size + 2, 0, none⟩ = some (.slice A ys.length c) := Lib.cell_of_heap e2 0
    have c3 : W.cell? ⟨w.heap.size + 3, 0, none⟩ = some (.bool (anyLong (ys.map fxD))) := Lib.cell_of_heap e3 0
    have c0 : W.cell? ⟨w.heap.size, 0, none⟩ = some (.slice none 0 0) := Lib.cell_of_heap e0 0
    have c1 : W.cell? ⟨w.heap.size + 1, 0, none⟩ = some (.int .i64 0) := Lib.cell_of_heap e1 0
    have f0 : W.frozen? ⟨w.heap.size, 0, none⟩ = false := Lib.frozen_of_heap e0 0
    have f1 : W.frozen? ⟨w.heap.size + 1, 0, none⟩ = false := Lib.frozen_of_heap e1 0
    have HF := Lib.hid (And.intro hF.bel (And.intro e0 e1))
    have hyl : (ys.map fxD).length = ys.length := by simp
    have Hyl := Lib.hid hyl
    clear hF e0 e1 e2 e3 hyl hRd
    rcases hL : anyLong (ys.map fxD) with _ | _
    · rw [hL] at c3
      by_cases h6 : 64 < ys.length
      · have hN := Lib.hid (splitL_long hl1 hne.out hsq.out (.inr (by rw [Hyl.out]; exact h6)))
        have i6 : (64 : Int) < (ys.length : Int) := by omega
        clear hL h6 hl1
        gi_wp2
        obtain ⟨Wf, hWf⟩ : ∃ Wf, Wf = (W.setCell ⟨w.heap.size, 0, none⟩ (.slice none 0 0)).setCell ⟨w.heap.size + 1, 0, none⟩ (.int .i64 3) := ⟨_, rfl⟩
        obtain ⟨hDf, p0, p1, hBf⟩ := fin_world (.slice none 0 0) 3 HF.out.1 HF.out.2.1 HF.out.2.2 (by omega) hK Wf hWf
        try rw [← hWf]
        refine ⟨by simp, .inl ⟨_, _, rfl, run_takeDeferred hDf, ?_⟩⟩
        refine ⟨.tuple #[.slice none 0 0, .int .i64 3], by simp [results, Tryz.f40, go_sem, p0, p1], ?_⟩
        exact RetFs.none_ hBf hN.out
      · have hN := Lib.hid (splitL_ok hl1 hne.out hsq.out hL (by rw [Hyl.out]; exact h6))
        have i6 : ¬ ((64 : Int) < (ys.length : Int)) := by omega
        clear hL h6 hl1
        gi_wp2
        obtain ⟨Wf, hWf⟩ : ∃ Wf, Wf = (W.setCell ⟨w.heap.size, 0, none⟩ (.slice A ys.length c)).setCell ⟨w.heap.size + 1, 0, none⟩ (.int .i64 0) := ⟨_, rfl⟩
        obtain ⟨hDf, p0, p1, hBf⟩ := fin_world (.slice A ys.length c) 0 HF.out.1 HF.out.2.1 HF.out.2.2 (by omega) hK Wf hWf
        try rw [← hWf]
        refine ⟨by simp, .inl ⟨_, _, rfl, run_takeDeferred hDf, ?_⟩⟩
        refine ⟨.tuple #[.slice A ys.length c, .int .i64 0], by simp [results, Tryz.f40, go_sem, p0, p1], ?_⟩
        have hOf : (Wf.putObj D (.deferred none)).ownsRow (w.heap.size + 8) 80 2 (.slice A ys.length c) ys.length (fds (ys.map fxD)) := by
          refine ownsRow_putObj ?_ _ hDf rfl
          rw [hWf]
          exact own_set (own_set hO.out _ _ (fun e => by have := (hO.out.lt _ e).1; simp only at this; omega)) _ _ (fun e => by have := (hO.out.lt _ e).1; simp only at this; omega)
        exact RetSl.of_own hOf hBf (by rw [hN.out]) (by rw [hN.out, Hyl.out]) (by rw [hN.out])
    · rw [hL] at c3
      have hN := Lib.hid (splitL_long hl1 hne.out hsq.out (.inl hL))
      clear hL hl1
      gi_wp2
      obtain ⟨Wf, hWf⟩ : ∃ Wf, Wf = (W.setCell ⟨w.heap.size, 0, none⟩ (.slice none 0 0)).setCell ⟨w.heap.size + 1, 0, none⟩ (.int .i64 3) := ⟨_, rfl⟩
      obtain ⟨hDf, p0, p1, hBf⟩ := fin_world (.slice none 0 0) 3 HF.out.1 HF.out.2.1 HF.out.2.2 (by omega) hK Wf hWf
      try rw [← hWf]
      refine ⟨by simp, .inl ⟨_, _, rfl, run_takeDeferred hDf, ?_⟩⟩
      refine ⟨.tuple #[.slice none 0 0, .int .i64 3], by simp [results, Tryz.f40, go_sem, p0, p1], ?_⟩
      exact RetFs.none_ hBf hN.out
  case stop =>
    rintro D c pre W hD ⟨k, hk⟩ ⟨rfl, ⟨p, x, rfl, hx⟩, hsz, hF⟩ hK
    rw [hsz5] at hD
    have hl1 : s.data.toList.length ≤ 8192 := by rw [Hl.out]; exact hs8
    have hN := Lib.hid (splitL_form hl1 hne.out (seqX_no hk hx))
    have e0 := hF.at (g := w.heap.size) (o := rsO) (by simp)
    have e1 := hF.at (g := w.heap.size + 1) (o := erO 6) (by simp)
    have p0 : (W.putObj D (.deferred none)).cell? ⟨w.heap.size, 0, none⟩ = some (.slice none 0 0) := Lib.cell_of_heap ((World.putObj_heap_other (by omega)).trans e0) 0
    have p1 : (W.putObj D (.deferred none)).cell? ⟨w.heap.size + 1, 0, none⟩ = some (.int .i64 6) := Lib.cell_of_heap ((World.putObj_heap_other (by omega)).trans e1) 0
    have hBf : Below w.heap.size w (W.putObj D (.deferred none)) := hF.bel.trans (belowK_b (w := w) (Nat.le_refl _) W D _ _ (by omega) hK rfl rfl)
    gi_wp2
    refine ⟨by simp, .inl ⟨_, _, rfl, run_takeDeferred hK, ?_⟩⟩
    refine ⟨.tuple #[.slice none 0 0, .int .i64 6], by simp [results, Tryz.f40, go_sem, p0, p1], ?_⟩
    exact RetFs.none_ hBf hN.out
end Go.Proofs.YtaainkjgnljihaaGreatDoor
