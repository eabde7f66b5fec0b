/- Mask, of the script and of its reference. -/
import Derived.Test.YtoogemdcmnjpnaaDoorS5
import Derived.Test.YtoogemdcmnjpnaaDoorMem2
namespace Go.Proofs.YtoogemdcmnjpnaaDoor
open Go.RowKit
set_option maxRecDepth 100000 in
set_option maxHeartbeats 400000 in
theorem maskNext (w : World) (a b : Nat) (n : Nat) (s : ByteArray) (hs : 0 < s.size) (hs2 : s.size ≤ 1000) (hn : n ≤ 1000000) (hca : w.cell? ⟨a, 0, none⟩ = some (.int .i64 ((n : Int) - 1))) (hcb : w.cell? ⟨b, 0, none⟩ = some (.string s)) (hf : w.frozen? ⟨a, 0, none⟩ = false) (hab : a ≠ b) :
    Calls Tryd.prog 39 #[.pointer (some ⟨a, 0, none⟩), .pointer (some ⟨b, 0, none⟩)] w fun e w' => e = .returned (.int .u8 (byteAt s (n % s.size)).toNat) ∧ ∃ q, w' = (w.setCell ⟨a, 0, none⟩ (.int .i64 (n : Int))).drewN q := by
  go_enter Tryd.func39, Tryd.ntmps39
  go_wp2
  have d1 : (w.setCell ⟨a, 0, none⟩ (.int .i64 (n : Int))).cell? ⟨b, 0, none⟩ = some (.string s) := by
    rw [World.cell?_setCell_other w _ _ _ (by intro e; injection e with e; exact hab e)]; exact hcb
  have d2 : (w.setCell ⟨a, 0, none⟩ (.int .i64 (n : Int))).cell? ⟨a, 0, none⟩ = some (.int .i64 (n : Int)) := World.cell?_setCell_same w _ _ hca
  generalize hW : w.setCell ⟨a, 0, none⟩ (.int .i64 (n : Int)) = W at *
  have HW := Lib.hid hW
  clear hW
  have hs' : (0 : Int) < (s.size : Int) := by omega
  have hz1 : ¬ s = ByteArray.empty := by rintro rfl; simp at hs
  have hlt := Nat.mod_lt n hs
  have hmod : ((n : Int) % (s.size : Int)) = ((n % s.size : Nat) : Int) := by simp
  have hlt' : (n : Int) % (s.size : Int) < (s.size : Int) := by omega
  have hge' : (0 : Int) ≤ (n : Int) % (s.size : Int) := by omega
  have Hm := Lib.hid hmod
  clear hmod hlt
  go_quiet (fail)
  go_wp2
  go_ret
  refine ⟨?_, nq, by rw [HW.out]⟩
  rw [← byteAt_lt s _ (Nat.mod_lt n hs)]
  rfl

/-- n bytes of s, over and over, from number a on -/
def cyc (s : ByteArray) (a n : Nat) : List UInt8 := (List.range n).map fun j => byteAt s ((a + j) % s.size)
theorem cyc_length (s : ByteArray) (a n : Nat) : (cyc s a n).length = n := by simp [cyc]
theorem cyc_succ (s : ByteArray) (a n : Nat) : cyc s a (n + 1) = cyc s a n ++ [byteAt s ((a + n) % s.size)] := by
  unfold cyc; rw [List.range_succ, List.map_append]; rfl
def maskFrom (s : ByteArray) (a : Nat) : List Sc → List Sc
  | [] => []
  | x :: r => (x.1, ⟨(cyc s a x.2.size).toArray⟩) :: maskFrom s (a + x.2.size) r
def maskErr (l : List Sc) (s : ByteArray) : Int := if (chk l).2 ≠ 0 then (chk l).2 else if s.size = 0 then 2 else 0
def mask (l : List Sc) (s : ByteArray) : List Sc := if maskErr l s = 0 then maskFrom s 0 l else []
theorem mask_pos {l : List Sc} {s : ByteArray} (h : maskErr l s = 0) : mask l s = maskFrom s 0 l := if_pos h
theorem mask_neg {l : List Sc} {s : ByteArray} (h : maskErr l s ≠ 0) : mask l s = [] := if_neg h
theorem maskFrom_length (s : ByteArray) (a : Nat) (l : List Sc) : (maskFrom s a l).length = l.length := by
  induction l generalizing a with
  | nil => rfl
  | cons x r ih => simp [maskFrom, ih]
def MaskRel (l : List Sc) (s : ByteArray) (out : List Sc) (a k : Nat) : Prop := out ++ maskFrom s a (l.drop k) = maskFrom s 0 l
theorem MaskRel.step {l : List Sc} {s x : ByteArray} {out : List Sc} {a k : Nat} {K : Int} (h : MaskRel l s out a k) (hd : Hid (l.drop k = (K, x) :: l.drop (k + 1))) : MaskRel l s (out ++ [(K, ⟨(cyc s a x.size).toArray⟩)]) (a + x.size) (k + 1) := by
  unfold MaskRel at *
  rw [hd.out, maskFrom] at h
  rw [List.append_assoc]
  exact h
theorem MaskRel.done {l : List Sc} {s : ByteArray} {out : List Sc} {a k : Nat} (h : MaskRel l s out a k) (hk : l.length ≤ k) : out = maskFrom s 0 l := by
  unfold MaskRel at h
  rw [List.drop_eq_nil_of_le hk, maskFrom, List.append_nil] at h
  exact h
/-- the first j of n bytes are laid -/
def cycCells (s : ByteArray) (a n j : Nat) : List Value := ((cyc s a j) ++ List.replicate (n - j) 0).map fun b : UInt8 => Value.int .u8 (b.toNat : Int)
theorem cycCells_start (s : ByteArray) (a n : Nat) : cycCells s a n 0 = List.replicate n (Value.int .u8 0) := by
  unfold cycCells cyc; simp
theorem cycCells_end (s : ByteArray) (a n : Nat) : cycCells s a n n = (cyc s a n).map fun b : UInt8 => Value.int .u8 (b.toNat : Int) := by
  unfold cycCells; simp
theorem cycCells_set (s : ByteArray) (a n j : Nat) (h : j < n) : (cycCells s a n j).set j (.int .u8 ((byteAt s ((a + j) % s.size)).toNat : Int)) = cycCells s a n (j + 1) := by
  unfold cycCells
  have e : n - j = (n - (j + 1)) + 1 := by omega
  rw [cyc_succ, e, List.replicate_succ, List.map_append, List.map_append, List.map_append, List.set_append_right _ _ (by simp [cyc_length])]
  simp [cyc_length]
theorem cycCells_length (s : ByteArray) (a n j : Nat) (h : j ≤ n) : (cycCells s a n j).length = n := by
  unfold cycCells; simp [cyc_length]; omega
theorem cycCells_get (s : ByteArray) (a n j : Nat) (h : j < n) : (cycCells s a n j)[j]? = some (.int .u8 0) := by
  unfold cycCells
  have e : n - j = (n - (j + 1)) + 1 := by omega
  rw [e, List.replicate_succ, List.map_append, List.getElem?_append_right (by simp [cyc_length])]
  simp [cyc_length]
/-- the inner loop's world: g the new bytes, of which j are laid -/
structure MaskIn (w wr : World) (v : Value) (out : List Sc) (s x : ByteArray) (K : Int) (bx ba gx g a j : Nat) : Prop where
  bel : Below w.heap.size w wr
  own : wr.ownsRow w.heap.size 47 2 v out.length (scs out)
  box : wr.heap[bx]? = some (.cells #[.string s] 9 (0, 0))
  cnt : wr.heap[ba]? = some (.cells #[.int .i64 (((a + j : Nat) : Int) - 1)] 3 (0, 0))
  call : wr.heap[gx]? = some (.cells #[.int .i64 K, .string x] 47 (0, 0))
  buf : wr.heap[g]? = some (.cells (cycCells s a x.size j).toArray 5 (0, 0))
  ge : w.heap.size ≤ ba ∧ w.heap.size ≤ g
  ne : ba ≠ bx ∧ ba ≠ gx ∧ ba ≠ g ∧ g ≠ bx ∧ g ≠ gx
theorem MaskIn.step {w wr : World} {v : Value} {out : List Sc} {s x : ByteArray} {K : Int} {bx ba gx g a j q : Nat} (h : MaskIn w wr v out s x K bx ba gx g a j) (hj : j < x.size) :
    MaskIn w (((wr.setCell ⟨ba, 0, none⟩ (.int .i64 ((a + j : Nat) : Int))).drewN q).setCell ⟨g, j, none⟩ (.int .u8 ((byteAt s ((a + j) % s.size)).toNat : Int))) v out s x K bx ba gx g a (j + 1) := by
  obtain ⟨h1, h2, h3, h4, h5, h6, ⟨h7, h7'⟩, h8, h9, h10, h11, h12⟩ := h
  have o1 := own_blk_ne h2 h4 (by decide)
  have o2 := own_blk_ne h2 h6 (by decide)
  refine ⟨((h1.setCell (p := ⟨ba, 0, none⟩) h7 _).trans (below_drewN' _ q)).setCell (p := ⟨g, j, none⟩) h7' _, own_set (own_set h2 _ _ o1) _ _ o2, ?_, ?_, ?_, ?_, ⟨h7, h7'⟩, h8, h9, h10, h11, h12⟩
  · exact set_blk (w := (wr.setCell ⟨ba, 0, none⟩ (.int .i64 ((a + j : Nat) : Int))).drewN q) (set_blk h3 _ _ h8) _ _ h11
  · refine set_blk (w := (wr.setCell ⟨ba, 0, none⟩ (.int .i64 ((a + j : Nat) : Int))).drewN q) (o := .cells #[.int .i64 (((a + (j + 1) : Nat) : Int) - 1)] 3 (0, 0)) ?_ _ _ (fun e => h10 e.symm)
    have := set_same (i := 0) h4 (.int .i64 ((a + j : Nat) : Int))
    rw [show ((a + (j + 1) : Nat) : Int) - 1 = ((a + j : Nat) : Int) by omega]
    exact this
  · exact set_blk (w := (wr.setCell ⟨ba, 0, none⟩ (.int .i64 ((a + j : Nat) : Int))).drewN q) (set_blk h5 _ _ h9) _ _ h12
  · have := set_same (w := (wr.setCell ⟨ba, 0, none⟩ (.int .i64 ((a + j : Nat) : Int))).drewN q) (i := j) (set_blk h6 _ _ h10) (.int .u8 ((byteAt s ((a + j) % s.size)).toNat : Int))
    rw [← cycCells_set s a x.size j hj]
    rw [this]
    congr 2
    simp

/-- the outer loop's world -/
structure MaskOut (w wr : World) (v : Value) (out : List Sc) (s : ByteArray) (bx ba a : Nat) : Prop where
  bel : Below w.heap.size w wr
  own : wr.ownsRow w.heap.size 47 2 v out.length (scs out)
  box : wr.heap[bx]? = some (.cells #[.string s] 9 (0, 0))
  cnt : wr.heap[ba]? = some (.cells #[.int .i64 ((a : Int) - 1)] 3 (0, 0))
  ge : w.heap.size ≤ ba
  ne : ba ≠ bx
theorem MaskOut.inn {w wr : World} {v : Value} {out : List Sc} {s x : ByteArray} {bx ba a : Nat} (h : MaskOut w wr v out s bx ba a) (K : Int) (mk : Array Value) (hmk : mk = (List.replicate x.size (Value.int .u8 0)).toArray) :
    MaskIn w ((wr.alloc (.cells #[.int .i64 K, .string x] 47)).alloc (.cells mk 5)) v out s x K bx ba wr.heap.size (wr.heap.size + 1) a 0 := by
  obtain ⟨h1, h2, h3, h4, h5, h6⟩ := h
  have l3 := heap_lt h3
  have l4 := heap_lt h4
  have hs := h1.size
  subst hmk
  refine ⟨(h1.alloc hs _).alloc (by simp; omega) _, (h2.alloc _).alloc _, alloc_blk (alloc_blk h3), alloc_blk (alloc_blk h4), alloc_blk (alloc1_new _ _), ?_, ⟨h5, by omega⟩, h6, by omega, by omega, by omega, by omega⟩
  rw [cycCells_start]
  exact alloc2_new _ _ _
theorem MaskIn.conv {w wr : World} {v : Value} {out : List Sc} {s x : ByteArray} {K : Int} {bx ba gx g a : Nat} (h : MaskIn w wr v out s x K bx ba gx g a x.size) :
    (convert 58 9 (.slice (some ⟨g, 0, none⟩) x.size x.size)).run Tryd.prog wr = .ok (.string ⟨(cyc s a x.size).toArray⟩) wr := by
  have hb := reads_blk h.buf
  rw [cycCells_length _ _ _ _ (Nat.le_refl _), cycCells_end] at hb
  exact run_conv Tryd.underlying58 Tryd.underlying5 Tryd.underlying9 hb
theorem MaskIn.outp {w wr w3 : World} {v v3 : Value} {out : List Sc} {s x : ByteArray} {K : Int} {bx ba gx g a : Nat} {o : Obj} (h : MaskIn w wr v out s x K bx ba gx g a x.size) (hb : Below w.heap.size w w3)
    (ho : w3.ownsRow w.heap.size 47 2 v3 (out.length + 1) (scs out ++ [.int .i64 K, .string ⟨(cyc s a x.size).toArray⟩])) (hg : (wr.alloc o).grownBy w3 v.ownBlock) : MaskOut w w3 v3 (out ++ [(K, ⟨(cyc s a x.size).toArray⟩)]) s bx ba (a + x.size) := by
  refine ⟨hb, ?_, grown_blk hg (alloc_blk h.box) (own_blk_ne h.own h.box (by decide)), grown_blk hg (alloc_blk h.cnt) (own_blk_ne h.own h.cnt (by decide)), h.ge.1, h.ne.1⟩
  rw [List.length_append, scs, flat2_append]
  exact ho

set_option maxRecDepth 100000 in
set_option maxHeartbeats 800000 in
theorem smask (w : World) (A : Option Addr) (c : Nat) (l : List Sc) (h : IsSc w A l) (s : ByteArray) (hs2 : s.size ≤ 1000) :
    Calls Tryd.prog 14 #[.slice A l.length c, .string s] w (RetSl w 2 (scs (mask l s)) (mask l s).length (maskErr l s)) := by
  have hb0 : Below w.heap.size w (w.alloc (.cells #[.string s] 9)) := (Go.RowKit.Below.refl _ w).alloc (Nat.le_refl _) _
  have hbox := Lib.hid (heap_alloc_new w (.cells #[.string s] 9))
  by_cases h0 : (chk l).2 = 0
  · have e0 : ((chk l).2 != 0) = false := by simp [h0]
    have h200 := chk_len h0
    by_cases hs : s.size = 0
    · have hE : s.toList.isEmpty = true := by rw [(toList_nil s).2 hs]; rfl
      have He := Lib.hid (show maskErr l s = 2 by simp [maskErr, h0, hs])
      have Hm := Lib.hid (mask_neg (l := l) (s := s) (by rw [He.out]; decide))
      clear h0 hs
      go_enter Tryd.func14, Tryd.ntmps14
      go_wp2_with fail
      (with_reducible refine (scheck _ A c l (h.below hb0)).mono ?_); rintro e w1 ⟨rfl, hb1⟩
      have cb : w1.cell? ⟨w.heap.size, 0, none⟩ = some (.string s) := by rw [Lib.cell_of_heap (below_blk hb1 (by simp) hbox.out)]; rfl
      have hE2 : s.toList = [] := by simpa using hE
      go_wp2
      go_ret2
      rw [He.out]
      exact RetSl.nil (hb0.trans (hb1.mono hb0.size)) (by rw [Hm.out]; rfl) (by rw [Hm.out]; rfl)
    · have hE : s.toList.isEmpty = false := by
        rw [Bool.eq_false_iff]; intro e
        exact hs ((toList_nil s).1 (List.isEmpty_iff.1 e))
      have hE2 : ¬ s.toList = [] := fun e => hs ((toList_nil s).1 e)
      have Hs := Lib.hid (show 0 < s.size by omega)
      have He := Lib.hid (show maskErr l s = 0 by simp [maskErr, h0, hs])
      have Hm := Lib.hid (mask_pos (l := l) (s := s) He.out)
      have H0 := Lib.hid h0
      clear h0 hs
      go_enter Tryd.func14, Tryd.ntmps14
      go_wp2_with fail
      (with_reducible refine (scheck _ A c l (h.below hb0)).mono ?_); rintro e w1 ⟨rfl, hb1⟩
      have hbx := below_blk hb1 (by simp) hbox.out
      have cb : w1.cell? ⟨w.heap.size, 0, none⟩ = some (.string s) := by rw [Lib.cell_of_heap hbx]; rfl
      have hb1' := hb0.trans (hb1.mono hb0.size)
      have hb1s : w.heap.size + 1 ≤ w1.heap.size := by have := hb1.size; simpa using this
      have Hbx := Lib.hid hbx
      clear hbx
      go_wp2
      go_loopw [10, 28] (fun v i wr => ∃ (k a : Nat) (out : List Sc), k ≤ l.length ∧ i = .int .i64 k ∧ MaskOut w wr v out s w.heap.size w1.heap.size a ∧ out.length = k ∧ a ≤ k * 1100 ∧ MaskRel l s out a k) (fun _ i _ => l.length - (intOf i).toNat)
      case atStart =>
        refine ⟨0, 0, [], Nat.zero_le _, rfl, ⟨hb1'.alloc (by omega) _, World.ownsRow_nil _ _ _ _, alloc_blk Hbx.out, ?_, by omega, by omega⟩, rfl, by omega, rfl⟩
        exact alloc1_new _ _
      case round =>
        obtain ⟨k, a, out, hk, rfl, ho, hol, ha, hr⟩ := hrel
        obtain ⟨wo, rfl⟩ : ∃ wo : World, wo = wr := ⟨_, rfl⟩
        have Hol := Lib.hid hol
        clear hol
        by_cases hlt : k < l.length
        · obtain ⟨b, off, K, x, rfl, hb, c1, c2, hd, hK1, hK4, hx1, _⟩ := scAtOk (h.rd.below ho.bel) hlt H0
          have hmk := run_mk u8El .i64 .i64 x.size x.size (Nat.le_refl _) (by omega) (by omega)
          have hin0 := ho.inn (x := x) K (madeCells #[Value.int .u8 0] x.size) (by apply Array.toList_inj.1; exact toList_madeCells_one _ _)
          have H1 := Lib.hid hb1
          have hws := ho.bel.size
          have hbx1 := Lib.hid (heap_lt ho.box)
          have hba1 := Lib.hid (heap_lt ho.cnt)
          clear hb1
          go_wp2
          go_loopw [38] (fun i wv => ∃ j : Nat, j ≤ x.size ∧ i = .int .i64 j ∧ MaskIn w wv u10 out s x K w.heap.size w1.heap.size wo.heap.size (wo.heap.size + 1) a j) (fun i _ => x.size - (intOf i).toNat)
          case atStart => exact ⟨0, Nat.zero_le _, rfl, hin0⟩
          case round =>
            obtain ⟨j, hj, rfl, hin⟩ := hrel
            by_cases hjl : j < x.size
            · have b1 := hin.buf
              have cn := hin.cnt
              have bb := hin.box
              have k1 : wr.cell? ⟨w.heap.size, 0, none⟩ = some (.string s) := by rw [Lib.cell_of_heap hin.box]; rfl
              have k2 : wr.cell? ⟨w1.heap.size, 0, none⟩ = some (.int .i64 (((a + j : Nat) : Int) - 1)) := by rw [Lib.cell_of_heap hin.cnt]; rfl
              have k3 : wr.frozen? ⟨w1.heap.size, 0, none⟩ = false := Lib.frozen_of_heap hin.cnt 0
              have haj : a + j ≤ 1000000 := by omega
              have Hin := Lib.hid hin
              clear hin b1 cn bb
              have K1 := Lib.hid k1
              have K2 := Lib.hid k2
              have K3 := Lib.hid k3
              clear k1 k2 k3
              go_wp2_with fail
              (with_reducible refine (maskNext _ _ _ (a + j) s Hs.out hs2 haj K2.out K1.out K3.out Hin.out.ne.1).mono ?_); rintro e w2 ⟨rfl, q, hq⟩
              have k4 : w2.cell? ⟨wo.heap.size + 1, j, none⟩ = some (.int .u8 0) := by
                rw [hq]
                refine (Lib.cell_of_heap (w := wr.setCell ⟨w1.heap.size, 0, none⟩ (.int .i64 ((a + j : Nat) : Int))) (set_blk Hin.out.buf _ _ Hin.out.ne.2.2.1) j).trans ?_
                simpa using cycCells_get s a x.size j hjl
              have k5 : w2.frozen? ⟨wo.heap.size + 1, j, none⟩ = false := by
                rw [hq]
                exact Lib.frozen_of_heap (w := wr.setCell ⟨w1.heap.size, 0, none⟩ (.int .i64 ((a + j : Nat) : Int))) (set_blk Hin.out.buf _ _ Hin.out.ne.2.2.1) j
              have Hq := Lib.hid hq
              clear hq
              go_wp2
              go_roundw
              case rel => exact ⟨j + 1, by omega, by go_num, by rw [Hq.out]; exact Hin.out.step hjl⟩
              case measure => simp [intOf]; omega
            · obtain rfl : j = x.size := by omega
              have hcv := hin.conv
              have k1 : wr.cell? ⟨wo.heap.size, 0, none⟩ = some (.int .i64 K) := by rw [Lib.cell_of_heap hin.call]; rfl
              have k2 : wr.cell? ⟨wo.heap.size, 1, none⟩ = some (.string x) := by rw [Lib.cell_of_heap hin.call]; rfl
              have Hin := Lib.hid hin
              clear hin
              go_wp2_with (at_builtin; refine wpList_app scEl rfl (.tmp 47) (.tmp 53) rfl rfl out.length (scs out) rfl rfl w ?own ?bel [.int .i64 K, .string ⟨(cyc s a x.size).toArray⟩] ?new rfl ?one (by decide) ?by1 ?by2 ?_)
              case own => exact Hin.out.own.alloc _
              case bel => exact Hin.out.bel.alloc Hin.out.bel.size _
              case new => exact alloc1_new _ _
              case one => simp [Value.oneCell']
              case by1 => rw [Hol.out]; omega
              case by2 => rw [Hol.out]; omega
              intro g cap w3 hown3 hb3 hg3
              go_wp2
              go_roundw
              case rel => exact ⟨k + 1, a + x.size, out ++ [(K, ⟨(cyc s a x.size).toArray⟩)], by omega, by go_num, Hin.out.outp hb3 hown3 hg3, by simp [Hol.out], by omega, hr.step hd⟩
              case measure => simp [intOf]; omega
        · go_wp2
          go_ret2
          rw [He.out]
          have hx : scs out = scs (mask l s) := by rw [Hm.out, hr.done (by omega)]
          have hn : out.length = (mask l s).length := by rw [Hm.out, hr.done (by omega)]
          exact RetSl.of_own ho.own ho.bel rfl hn hx
  · have e0 : ((chk l).2 != 0) = true := by simp [h0]
    have He := Lib.hid (show maskErr l s = (chk l).2 by simp [maskErr, h0])
    have Hm := Lib.hid (mask_neg (l := l) (s := s) (by rw [He.out]; exact h0))
    clear h0
    go_enter Tryd.func14, Tryd.ntmps14
    go_wp2_with fail
    (with_reducible refine (scheck _ A c l (h.below hb0)).mono ?_); rintro e w1 ⟨rfl, hb1⟩
    go_wp2
    go_ret2
    rw [He.out]
    exact RetSl.nil (hb0.trans (hb1.mono hb0.size)) (by rw [Hm.out]; rfl) (by rw [Hm.out]; rfl)
end Go.Proofs.YtoogemdcmnjpnaaDoor
