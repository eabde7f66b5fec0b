/- words: the iterator over the fields of a line. No condition. -/
import Derived.Test.YtaainkjgnljihaaGreatDoorMl
import Derived.Test.YtaainkjgnljihaaGreatDoorIterM
import Derived.BigQuiet
namespace Go.Proofs.YtaainkjgnljihaaGreatDoor
open Go.RowKit Go.Shelf
attribute [local go_sem] Oper.semAt_some
/-- what is handed out: a field, and whether it is one -/
abbrev FX := (ByteArray × Bool) × Bool
abbrev fxEnc (x : FX) : Array Value := #[.agg #[.string x.1.1, .bool x.1.2], .bool x.2]
def fxF (x : FX) : Fd × Bool := ((x.1.1.data.toList, x.1.2), x.2)
def endX : FX := ((⟨#[]⟩, false), false)
def seqX (l : List UInt8) : List (Fd × Bool) := (seqL l).1.map (·, true) ++ (if (seqL l).2 = true then [] else [fxF endX])
section
variable {R r : List UInt8} {f : Fd} {k : Nat} {x : UInt8}
theorem seqX_none (hh : headF R = none) : seqX R = [fxF endX] := by unfold seqX; rw [seqL_none hh]; rfl
theorem seqX_done (hh : headF R = some (f, k)) (hk : R.length ≤ k) : seqX R = [(f, true)] := by unfold seqX; rw [seqL_end hh hk]; rfl
theorem seqX_more (hh : headF R = some (f, k)) (hd : R.drop k = 32 :: r) : seqX R = (f, true) :: seqX r := by unfold seqX; rw [seqL_more hh hd]; rfl
theorem seqX_stop (hh : headF R = some (f, k)) (hd : R.drop k = x :: r) (hx : x ≠ 32) : seqX R = [fxF endX] := by unfold seqX; rw [seqL_stop hh hd hx]; rfl
end
/-- the iterator's own block: its contents may change between two rounds -/
def KeepG (n₀ g : Nat) (W W' : World) : Prop := Below n₀ W W' ∧ ∀ c t fz, W.heap[g]? = some (.cells c t fz) → W'.heap[g]? = some (.cells c t fz)
theorem KeepG.trans {n₀ g : Nat} {A B C : World} (h : KeepG n₀ g A B) (k : KeepG n₀ g B C) : KeepG n₀ g A C := ⟨h.1.trans k.1, fun c t fz h1 => k.2 c t fz (h.2 c t fz h1)⟩
/-- what holds at the loop's head -/
def HInv (w0 : World) (J : List FX → World → Prop) (s : ByteArray) (g : Nat) (R : ByteArray) (pre : List FX) (F : ByteArray) (q : Bool) (wr : World) : Prop :=
  Hid (seqX s.data.toList = pre.map fxF ++ seqX R.data.toList) ∧ Hid (J pre wr) ∧ wr.heap[g]? = some (fdO F q) ∧ Below w0.heap.size w0 wr ∧ R.size ≤ s.size
def lenV (v : Option Value) : Nat := match v with | some (.string R) => R.size | _ => 0
def lenF (a : Act) : Nat := lenV a.tmps[3]?
def FldHead (L Bs g : Nat) (Inv : ByteArray → List FX → ByteArray → Bool → World → Prop) (a : Act) (wr : World) : Prop := ∃ u2 u5 u6 u7 u8 u9 u10 u11 u12 u13 u14 u15 u16 u17 u18 u19 u20 u21 u22 u23 u24 u25 u26 u27 u28 u29 u30 u31 u32 u33 u34 u35 u36 u37 u38 u39 u40 u41 u42 u43 u44 u45 u46 u47 u48 u49 u50 u51 u52 u53 u54 u55 u56 R pre F q, a = { tmps := #[.func (.yield L) #[] #[], .pointer (some ⟨Bs, 0, none⟩), u2, .string R, .pointer (some ⟨g, 0, none⟩), u5, u6, u7, u8, u9, u10, u11, u12, u13, u14, u15, u16, u17, u18, u19, u20, u21, u22, u23, u24, u25, u26, u27, u28, u29, u30, u31, u32, u33, u34, u35, u36, u37, u38, u39, u40, u41, u42, u43, u44, u45, u46, u47, u48, u49, u50, u51, u52, u53, u54, u55, u56], defers := [] } ∧ Inv R pre F q wr
def FldFound (L Bs g : Nat) (Inv : ByteArray → List FX → ByteArray → Bool → World → Prop) (a : Act) (wr : World) : Prop := ∃ u2 u6 u7 u8 u9 u10 u11 u12 u13 u14 u15 u16 u17 u18 u19 u20 u21 u22 u23 u24 u25 u26 u27 u28 u29 u30 u31 u32 u33 u34 u35 u36 u37 u38 u39 u40 u41 u42 u43 u44 u45 u46 u47 u48 u49 u50 u51 u52 u53 u54 u55 u56 R pre F q, ∃ m : Nat, a = { tmps := #[.func (.yield L) #[] #[], .pointer (some ⟨Bs, 0, none⟩), u2, .string R, .pointer (some ⟨g, 0, none⟩), .int .i64 (m : Int), u6, u7, u8, u9, u10, u11, u12, u13, u14, u15, u16, u17, u18, u19, u20, u21, u22, u23, u24, u25, u26, u27, u28, u29, u30, u31, u32, u33, u34, u35, u36, u37, u38, u39, u40, u41, u42, u43, u44, u45, u46, u47, u48, u49, u50, u51, u52, u53, u54, u55, u56], defers := [] } ∧ Inv R pre F q wr ∧ Hid (headF R.data.toList = some ((F.data.toList, q), m))
/-- what the iterator does between two rounds: it grows, and turns its own block -/
def Rg (g : Nat) (X Y : World) : Prop := X.grownBy Y (some g) ∧ ∀ o, X.heap[g]? = some o → o.isCells = true
theorem rg_below {w w' : World} {g : Nat} {cs : Array Value} {t : TypeId} {fz : Nat × Nat} (h : Below w.heap.size w w') (hg : w.heap[g]? = some (.cells cs t fz)) : Rg g w w' :=
  ⟨⟨h.os, h.tape, h.output, h.size, fun k hk _ => h.block k hk⟩, fun o ho => by rw [hg] at ho; cases ho; rfl⟩
theorem rg_new {w : World} {g : Nat} (o' : Obj) (hg : g = w.heap.size) : Rg g w (w.alloc o') :=
  ⟨World.grownBy_alloc w o' _, fun o ho => by have := heap_lt ho; omega⟩
theorem rg_set {w : World} {g : Nat} {cs : Array Value} {t : TypeId} {fz : Nat × Nat} (hg : w.heap[g]? = some (.cells cs t fz)) (i : Nat) (v : Value) : Rg g w (w.setCell ⟨g, i, none⟩ v) :=
  ⟨⟨rfl, rfl, rfl, by simp [World.setCell], fun k _ hne => Go.RowKit.Below.heap_setCell w ⟨g, i, none⟩ v k (fun e => hne (by rw [e]))⟩, fun o ho => by rw [hg] at ho; cases ho; rfl⟩
theorem set_fd0 {w : World} {g : Nat} {F : ByteArray} {q : Bool} (h : w.heap[g]? = some (fdO F q)) (b : ByteArray) : (w.setCell ⟨g, 0, none⟩ (.string b)).heap[g]? = some (fdO b q) := by
  rw [set_same (i := 0) h]; simp
theorem set_fd1 {w : World} {g : Nat} {F : ByteArray} {q : Bool} (h : w.heap[g]? = some (fdO F q)) (b : Bool) : (w.setCell ⟨g, 1, none⟩ (.bool b)).heap[g]? = some (fdO F b) := by
  rw [set_same (i := 1) h]; simp
theorem ext_end {R : ByteArray} {m : Nat} (h : m = R.size) : (R.extract m R.size).toList.isEmpty = true := by
  rw [List.isEmpty_iff, toList_nil, ByteArray.size_extract]; omega
theorem ext_more {R : ByteArray} {m : Nat} (h : m < R.size) : (R.extract m R.size).toList.isEmpty = false := by
  rw [List.isEmpty_eq_false_iff]
  intro e
  rw [toList_nil, ByteArray.size_extract] at e; omega
theorem ext_get {R : ByteArray} {m : Nat} (h : m < R.size) : (R.extract m R.size)[0]'(by rw [ByteArray.size_extract]; omega) = R[m] := by
  rw [ByteArray.getElem_extract]; simp
theorem ext2_list (R : ByteArray) (m : Nat) : ((R.extract m R.size).extract 1 (R.size - m)).data.toList = R.data.toList.drop (m + 1) := by
  rw [ext_list2, ext_from, List.drop_drop, List.take_of_length_le]
  simp; omega
theorem drop_one2 {l : List UInt8} {m : Nat} {c : UInt8} (h : l[m]? = some c) : l.drop m = c :: l.drop (m + 1) := by
  have hl := List.getElem?_eq_some_iff.1 h
  rw [List.drop_eq_getElem_cons hl.1, hl.2]
theorem drop_one {l : List UInt8} {m : Nat} {c : UInt8} (h : l[m]? = some c) (hc : c = 32) : l.drop m = 32 :: l.drop (m + 1) := by subst hc; exact drop_one2 h
theorem isBare' (l : List UInt8) (v : Bool) (h : Hid (bareL l = v)) (w : World) (hsz : l.length ≤ 1099511627776) :
    Calls Tryz.prog 69 #[.string ⟨l.toArray⟩] w fun e w' => e = .returned (.bool v) ∧ Below w.heap.size w w' := by
  have := isBare ⟨l.toArray⟩ w (by show l.toArray.size ≤ _; simpa using hsz)
  rw [show (⟨l.toArray⟩ : ByteArray).data.toList = l by simp, h.out] at this
  exact this
set_option maxRecDepth 100000 in
set_option maxHeartbeats 4000000 in
theorem fields1_in (n : Nat) (hn : 1 ≤ n) (L Bs : Nat) (s : ByteArray) (hs : s.size ≤ 8192) (w0 : World) (hE : Esc w0) (hM : ML w0) (J Jx : List FX → World → Prop) (W : World) (g : Nat) (hg : g = W.heap.size) (hJ : ∀ s X Y, J s X → Rg g X Y → J s Y)
    (hY : ∀ pre x W1, J pre W1 → g + 1 ≤ W1.heap.size → pre.length < (seqX s.data.toList).length → YieldAt Fence.wide (n - 1) Tryz.prog L (fxEnc x) W1 fun e W' =>
      (e = .returned (.bool true) ∧ J (pre ++ [x]) W' ∧ KeepG w0.heap.size g W1 W') ∨ (e = .returned (.bool false) ∧ Jx (pre ++ [x]) W'))
    (hb0 : Below w0.heap.size w0 W) (hBs : W.heap[Bs]? = some (.cells #[.string s] 9 (0, 0))) (h0 : J [] W) :
    CallsIn Fence.wide n Tryz.prog 66 #[.func (.yield L) #[] #[], .pointer (some ⟨Bs, 0, none⟩)] W fun e W' => (∃ v, e = .returned v) ∧
      ((∃ ys, ys.map fxF = seqX s.data.toList ∧ J ys W') ∨ (∃ pre, (∃ k, pre.map fxF = (seqX s.data.toList).take k) ∧ Jx pre W')) := by
  refine callsIn_of_wp Tryz.func66 rfl trivial ?_ rfl
  simp only [Tryz.ntmps66, List.size_toArray, List.length_cons, List.length_nil, Nat.reduceAdd, Nat.reduceSub, Array.replicate_succ, Array.replicate_zero, List.push_toArray, List.append_toArray, List.nil_append, List.cons_append]
  have hgb : w0.heap.size ≤ g := by have := hb0.size; omega
  have Hg := Lib.hid hg
  clear hg
  refine wpIn_scope_two rfl rfl (FldFound L Bs g (HInv w0 J s g)) (FldHead L Bs g (HInv w0 J s g)) lenF ?F ?H ?first
  case first =>
    intro hH
    have hc := Lib.cell_of_heap hBs 0
    have hb2 := ba hb0 (fdO ⟨#[]⟩ false)
    have hJ2 := Lib.hid (hJ _ _ _ h0 (rg_new (fdO ⟨#[]⟩ false) Hg.out))
    have hgk2 : (W.alloc (fdO ⟨#[]⟩ false)).heap[g]? = some (fdO ⟨#[]⟩ false) := by rw [Hg.out]; exact alloc1_new _ _
    clear hBs h0
    gi_wp2
    rw [← Hg.out]
    refine wpIn_label ?_
    rename_i hK
    refine hK _ _ (hH _ _ ⟨_, _, _, _, _, _, _, _, _, _, _, _, _, _, _, _, _, _, _, _, _, _, _, _, _, _, _, _, _, _, _, _, _, _, _, _, _, _, _, _, _, _, _, _, _, _, _, _, _, _, _, _, _, s, [], ⟨#[]⟩, false, rfl, Lib.hid (by simp), hJ2, hgk2, hb2, Nat.le_refl _⟩)
  case F =>
    rintro a w ⟨u2, u6, u7, u8, u9, u10, u11, u12, u13, u14, u15, u16, u17, u18, u19, u20, u21, u22, u23, u24, u25, u26, u27, u28, u29, u30, u31, u32, u33, u34, u35, u36, u37, u38, u39, u40, u41, u42, u43, u44, u45, u46, u47, u48, u49, u50, u51, u52, u53, u54, u55, u56, R, pre, F, q, m, rfl, ⟨hsq, hJp, hgk, hbl, hRs⟩, hh⟩
    have hmp := headF_pos hh.out
    have hml : m ≤ R.size := by have := hmp.2; simpa using this
    have hm0 := hmp.1
    have c0 : w.cell? ⟨g, 0, none⟩ = some (.string F) := Lib.cell_of_heap hgk 0
    have c1 : w.cell? ⟨g, 1, none⟩ = some (.bool q) := Lib.cell_of_heap hgk 1
    have Hgk := Lib.hid hgk
    have hRl : R.data.toList.length = R.size := by simp
    have HRl := Lib.hid hRl
    clear hgk hmp hRl
    by_cases hend : m = R.size
    · have hX := Lib.hid (seqX_done hh.out (by rw [HRl.out]; omega))
      have hz : (R.extract m R.size).toList.isEmpty = true := ext_end hend
      clear hend
      obtain ⟨fn, tmps, assign, body, hyy, hRr⟩ := hY pre ((F, q), true) w hJp.out (heap_lt Hgk.out) (by have := congrArg List.length hsq.out; rw [hX.out] at this; simp at this; omega)
      dsimp only [fxEnc] at hyy
      have hpre := Lib.hid (show (pre ++ [((F, q), true)]).map fxF = seqX s.data.toList by rw [hsq.out, hX.out]; simp [fxF])
      gi_wp2
      refine hRr.mono ?_
      clear c0 c1
      rintro e W3 (⟨rfl, hJ3, hk3⟩ | ⟨rfl, hJx3⟩)
      · clear hk3 hyy hRr
        gi_wp2
        refine jumps_ret ?_
        refine bodyPost_ret (results_none rfl _ _ _) rfl ?_
        exact ⟨⟨_, rfl⟩, .inl ⟨_, hpre.out, hJ3⟩⟩
      · clear hyy hRr
        gi_wp2
        refine jumps_ret ?_
        refine bodyPost_ret (results_none rfl _ _ _) rfl ?_
        exact ⟨⟨_, rfl⟩, .inr ⟨_, ⟨(seqX s.data.toList).length, by rw [hpre.out, List.take_length]⟩, hJx3⟩⟩
    · have hlt : m < R.size := by omega
      have hz : (R.extract m R.size).toList.isEmpty = false := ext_more hlt
      have hd := at_data R m hlt
      by_cases hc : R[m] = 32
      · have hX := Lib.hid (seqX_more hh.out (drop_one hd hc))
        have hgt : (R.extract m R.size)[0]'(by rw [ByteArray.size_extract]; omega) = 32 := by rw [ext_get hlt]; exact hc
        have hcb : ((((R.extract m R.size)[0]'(by rw [ByteArray.size_extract]; omega)).toNat : Int) != 32) = false := by rw [hgt]; rfl
        clear hd hc hend hgt
        obtain ⟨fn, tmps, assign, body, hyy, hRr⟩ := hY pre ((F, q), true) w hJp.out (heap_lt Hgk.out) (by have := congrArg List.length hsq.out; rw [hX.out] at this; simp at this; omega)
        dsimp only [fxEnc] at hyy
        have hpre := Lib.hid (show seqX s.data.toList = (pre ++ [((F, q), true)]).map fxF ++ seqX (R.data.toList.drop (m + 1)) by rw [hsq.out, hX.out]; simp [fxF])
        gi_wp2
        refine hRr.mono ?_
        clear c0 c1
        rintro e W3 (⟨rfl, hJ3, hk3⟩ | ⟨rfl, hJx3⟩)
        · have hgk3 := hk3.2 _ _ _ Hgk.out
          have hbl3 := hbl.trans hk3.1
          clear hk3 hyy hRr
          gi_wp2
          refine wpIn_goto (jumps_goto ?_)
          refine ⟨rfl, ⟨_, _, _, _, _, _, _, _, _, _, _, _, _, _, _, _, _, _, _, _, _, _, _, _, _, _, _, _, _, _, _, _, _, _, _, _, _, _, _, _, _, _, _, _, _, _, _, _, _, _, _, _, _, _, pre ++ [((F, q), true)], F, q, rfl, ⟨Lib.hid ?_, Lib.hid hJ3, hgk3, hbl3, ?_⟩⟩, ?_⟩
          · rw [hpre.out, ext2_list]
          · rw [ByteArray.size_extract, ByteArray.size_extract]; omega
          · have h9 : ((R.extract m R.size).extract 1 (R.size - m)).size < R.size := by rw [ByteArray.size_extract, ByteArray.size_extract]; omega
            exact h9
        · clear hyy hRr
          gi_wp2
          refine jumps_ret ?_
          refine bodyPost_ret (results_none rfl _ _ _) rfl ?_
          exact ⟨⟨_, rfl⟩, .inr ⟨_, ⟨pre.length + 1, by rw [hpre.out]; exact (List.take_left' (by simp)).symm⟩, hJx3⟩⟩
      · have hX := Lib.hid (seqX_stop hh.out (drop_one2 hd) hc)
        have hgt : (R.extract m R.size)[0]'(by rw [ByteArray.size_extract]; omega) ≠ 32 := by rw [ext_get hlt]; exact hc
        have hcb : ((((R.extract m R.size)[0]'(by rw [ByteArray.size_extract]; omega)).toNat : Int) != 32) = true := by rw [bne_iff_ne]; exact fun e => hgt (UInt8.toNat_inj.1 (by have : (32 : UInt8).toNat = 32 := rfl; omega))
        clear hd hc hend hgt
        obtain ⟨fn, tmps, assign, body, hyy, hRr⟩ := hY pre endX w hJp.out (heap_lt Hgk.out) (by have := congrArg List.length hsq.out; rw [hX.out] at this; simp at this; omega)
        dsimp only [fxEnc, endX] at hyy
        have hpre := Lib.hid (show (pre ++ [endX]).map fxF = seqX s.data.toList by rw [hsq.out, hX.out]; simp)
        gi_wp2
        refine hRr.mono ?_
        clear c0 c1
        rintro e W3 (⟨rfl, hJ3, hk3⟩ | ⟨rfl, hJx3⟩)
        · clear hk3 hyy hRr
          gi_wp2
          refine jumps_ret ?_
          refine bodyPost_ret (results_none rfl _ _ _) rfl ?_
          exact ⟨⟨_, rfl⟩, .inl ⟨_, hpre.out, hJ3⟩⟩
        · clear hyy hRr
          gi_wp2
          refine jumps_ret ?_
          refine bodyPost_ret (results_none rfl _ _ _) rfl ?_
          exact ⟨⟨_, rfl⟩, .inr ⟨_, ⟨(seqX s.data.toList).length, by rw [hpre.out, List.take_length]⟩, hJx3⟩⟩
  case H =>
    intro hF
    rintro a w ⟨u2, u5, u6, u7, u8, u9, u10, u11, u12, u13, u14, u15, u16, u17, u18, u19, u20, u21, u22, u23, u24, u25, u26, u27, u28, u29, u30, u31, u32, u33, u34, u35, u36, u37, u38, u39, u40, u41, u42, u43, u44, u45, u46, u47, u48, u49, u50, u51, u52, u53, u54, u55, u56, R, pre, F, q, rfl, ⟨hsq, hJp, hgk, hbl, hRs⟩⟩
    rcases hq : unquoteL R.data.toList with ⟨b, k⟩
    have Hq := Lib.hid hq
    have Hgk := Lib.hid hgk
    clear hq hgk
    by_cases hk : k = 0
    · have hkp : ¬ ((0 : Int) < (k : Int)) := by omega
      have h2 : R.data.toList.length = R.size := by simp
      have h1 := upTo_le R.data.toList
      have hul : (upTo R.data.toList).length ≤ 1099511627776 := by omega
      clear h1 h2
      rcases hb : bareL (upTo R.data.toList) with _ | _
      · have hX := Lib.hid (seqX_none (head_none (by rw [Hq.out, hk]) hb))
        have hbb := Lib.hid hb
        have hpre := Lib.hid (show (pre ++ [endX]).map fxF = seqX s.data.toList by rw [hsq.out, hX.out]; simp)
        clear hk hb
        gi_wp2_with (first
        | (refine ⟨trivial, ?_⟩; gi_at_call 67; refine (callsIn_wide.2 (unquote' R _ (hE.below hbl) (by omega) Hq)).mono ?_; rintro e w1 ⟨rfl, hb1⟩; have hgk1 := below_blk hb1 (heap_lt Hgk.out) Hgk.out; have f0 : w1.frozen? ⟨g, 0, none⟩ = false := Lib.frozen_of_heap hgk1 0; have f1 : w1.frozen? ⟨g, 1, none⟩ = false := Lib.frozen_of_heap hgk1 1; have c0 : w1.cell? ⟨g, 0, none⟩ = some (.string F) := Lib.cell_of_heap hgk1 0; have c1 : w1.cell? ⟨g, 1, none⟩ = some (.bool q) := Lib.cell_of_heap hgk1 1; have hgk2 := set_fd1 (set_fd0 hgk1 ⟨b.toArray⟩) false; have hJ2 := hJ _ _ _ (hJ _ _ _ (hJ _ _ _ hJp.out (rg_below hb1 Hgk.out)) (rg_set hgk1 0 (.string ⟨b.toArray⟩))) (rg_set (set_fd0 hgk1 ⟨b.toArray⟩) 1 (.bool false)); have hbl2 : Below w0.heap.size w0 ((w1.setCell ⟨g, 0, none⟩ (.string ⟨b.toArray⟩)).setCell ⟨g, 1, none⟩ (.bool false)) := bs (bs (bt hbl hb1) hgb) hgb)
        | (refine ⟨trivial, ?_⟩; gi_at_call 68; refine (callsIn_wide.2 (cut32 R _ (hM.below hbl2) (by omega))).mono ?_; rintro e w3 ⟨⟨xa, xb, rfl⟩, hb3⟩; have hgk3 := below_blk hb3 (heap_lt hgk2) hgk2; have g0 : w3.frozen? ⟨g, 0, none⟩ = false := Lib.frozen_of_heap hgk3 0; have d0 : w3.cell? ⟨g, 0, none⟩ = some (.string ⟨b.toArray⟩) := Lib.cell_of_heap hgk3 0; have hgk4 := set_fd0 hgk3 ⟨(upTo R.data.toList).toArray⟩; have hJ4 := hJ _ _ _ (hJ _ _ _ hJ2 (rg_below hb3 hgk2)) (rg_set hgk3 0 (.string ⟨(upTo R.data.toList).toArray⟩)); have hbl4 : Below w0.heap.size w0 (w3.setCell ⟨g, 0, none⟩ (.string ⟨(upTo R.data.toList).toArray⟩)) := bs (bt hbl2 hb3) hgb)
        | (refine ⟨trivial, ?_⟩; gi_at_call 69; refine (callsIn_wide.2 (isBare' (upTo R.data.toList) false hbb _ hul)).mono ?_; rintro e w5 ⟨rfl, hb5⟩; have hgk5 := below_blk hb5 (heap_lt hgk4) hgk4; have hJ5 := hJ _ _ _ hJ4 (rg_below hb5 hgk4); have hbl5 := bt hbl4 hb5; obtain ⟨fn, tmps, assign, body, hyy, hRr⟩ := hY pre endX w5 hJ5 (heap_lt hgk5) (by have := congrArg List.length hsq.out; rw [hX.out] at this; simp at this; omega); dsimp only [fxEnc, endX] at hyy))
        refine hRr.mono ?_
        rintro e W3 (⟨rfl, hJ3, hk3⟩ | ⟨rfl, hJx3⟩)
        · clear hk3 hyy hRr
          gi_wp2
          refine jumps_ret ?_
          refine bodyPost_ret (results_none rfl _ _ _) rfl ?_
          exact ⟨⟨_, rfl⟩, .inl ⟨_, hpre.out, hJ3⟩⟩
        · clear hyy hRr
          gi_wp2
          refine jumps_ret ?_
          refine bodyPost_ret (results_none rfl _ _ _) rfl ?_
          exact ⟨⟨_, rfl⟩, .inr ⟨_, ⟨(seqX s.data.toList).length, by rw [hpre.out, List.take_length]⟩, hJx3⟩⟩
      · have hh := Lib.hid (head_bare (by rw [Hq.out, hk]) hb)
        have hbb := Lib.hid hb
        clear hk hb
        gi_wp2_with (first
        | (refine ⟨trivial, ?_⟩; gi_at_call 67; refine (callsIn_wide.2 (unquote' R _ (hE.below hbl) (by omega) Hq)).mono ?_; rintro e w1 ⟨rfl, hb1⟩; have hgk1 := below_blk hb1 (heap_lt Hgk.out) Hgk.out; have f0 : w1.frozen? ⟨g, 0, none⟩ = false := Lib.frozen_of_heap hgk1 0; have f1 : w1.frozen? ⟨g, 1, none⟩ = false := Lib.frozen_of_heap hgk1 1; have c0 : w1.cell? ⟨g, 0, none⟩ = some (.string F) := Lib.cell_of_heap hgk1 0; have c1 : w1.cell? ⟨g, 1, none⟩ = some (.bool q) := Lib.cell_of_heap hgk1 1; have hgk2 := set_fd1 (set_fd0 hgk1 ⟨b.toArray⟩) false; have hJ2 := hJ _ _ _ (hJ _ _ _ (hJ _ _ _ hJp.out (rg_below hb1 Hgk.out)) (rg_set hgk1 0 (.string ⟨b.toArray⟩))) (rg_set (set_fd0 hgk1 ⟨b.toArray⟩) 1 (.bool false)); have hbl2 : Below w0.heap.size w0 ((w1.setCell ⟨g, 0, none⟩ (.string ⟨b.toArray⟩)).setCell ⟨g, 1, none⟩ (.bool false)) := bs (bs (bt hbl hb1) hgb) hgb)
        | (refine ⟨trivial, ?_⟩; gi_at_call 68; refine (callsIn_wide.2 (cut32 R _ (hM.below hbl2) (by omega))).mono ?_; rintro e w3 ⟨⟨xa, xb, rfl⟩, hb3⟩; have hgk3 := below_blk hb3 (heap_lt hgk2) hgk2; have g0 : w3.frozen? ⟨g, 0, none⟩ = false := Lib.frozen_of_heap hgk3 0; have d0 : w3.cell? ⟨g, 0, none⟩ = some (.string ⟨b.toArray⟩) := Lib.cell_of_heap hgk3 0; have hgk4 := set_fd0 hgk3 ⟨(upTo R.data.toList).toArray⟩; have hJ4 := hJ _ _ _ (hJ _ _ _ hJ2 (rg_below hb3 hgk2)) (rg_set hgk3 0 (.string ⟨(upTo R.data.toList).toArray⟩)); have hbl4 : Below w0.heap.size w0 (w3.setCell ⟨g, 0, none⟩ (.string ⟨(upTo R.data.toList).toArray⟩)) := bs (bt hbl2 hb3) hgb)
        | (refine ⟨trivial, ?_⟩; gi_at_call 69; refine (callsIn_wide.2 (isBare' (upTo R.data.toList) true hbb _ hul)).mono ?_; rintro e w5 ⟨rfl, hb5⟩; have hgk5 := below_blk hb5 (heap_lt hgk4) hgk4; have hJ5 := hJ _ _ _ hJ4 (rg_below hb5 hgk4); have hbl5 := bt hbl4 hb5))
        refine wpIn_label ?_
        rename_i hK
        refine hK _ _ (wpIn_mono (hF _ _ ⟨_, _, _, _, _, _, _, _, _, _, _, _, _, _, _, _, _, _, _, _, _, _, _, _, _, _, _, _, _, _, _, _, _, _, _, _, _, _, _, _, _, _, _, _, _, _, _, _, _, _, _, _, R, pre, ⟨(upTo R.data.toList).toArray⟩, false, (upTo R.data.toList).length, rfl, ⟨hsq, Lib.hid hJ5, hgk5, hbl5, hRs⟩, hh⟩) ?_)
        intro e a' w' hq
        cases e with
        | goto l =>
          obtain ⟨rfl, h2, h3⟩ := hq
          exact Or.inr ⟨rfl, h2, h3⟩
        | _ => exact hq
    · have hkp : (0 : Int) < (k : Int) := by omega
      have hh := Lib.hid (head_quoted Hq.out hk)
      clear hk
      gi_wp2_with (refine ⟨trivial, ?_⟩; gi_at_call 67; refine (callsIn_wide.2 (unquote' R _ (hE.below hbl) (by omega) Hq)).mono ?_; rintro e w1 ⟨rfl, hb1⟩; have hgk1 := below_blk hb1 (heap_lt Hgk.out) Hgk.out; have f0 : w1.frozen? ⟨g, 0, none⟩ = false := Lib.frozen_of_heap hgk1 0; have f1 : w1.frozen? ⟨g, 1, none⟩ = false := Lib.frozen_of_heap hgk1 1; have c0 : w1.cell? ⟨g, 0, none⟩ = some (.string F) := Lib.cell_of_heap hgk1 0; have c1 : w1.cell? ⟨g, 1, none⟩ = some (.bool q) := Lib.cell_of_heap hgk1 1)
      have hbl1 := bt hbl hb1
      have hgk3 := set_fd1 (set_fd0 hgk1 ⟨b.toArray⟩) true
      have hJ3 := hJ _ _ _ (hJ _ _ _ (hJ _ _ _ hJp.out (rg_below hb1 Hgk.out)) (rg_set hgk1 0 (.string ⟨b.toArray⟩))) (rg_set (set_fd0 hgk1 ⟨b.toArray⟩) 1 (.bool true))
      refine wpIn_goto ?_
      refine Or.inl ⟨rfl, ⟨_, _, _, _, _, _, _, _, _, _, _, _, _, _, _, _, _, _, _, _, _, _, _, _, _, _, _, _, _, _, _, _, _, _, _, _, _, _, _, _, _, _, _, _, _, _, _, _, _, _, _, _, R, pre, ⟨b.toArray⟩, true, k, rfl, ⟨hsq, Lib.hid hJ3, hgk3, bs (bs hbl1 hgb) hgb, hRs⟩, hh⟩, Nat.le_refl _⟩
end Go.Proofs.YtaainkjgnljihaaGreatDoor
