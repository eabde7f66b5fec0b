/- Traces: the runs of a trace, one after the other (runs). -/
import Derived.Test.YtpgojecldmcopaaGreatDoorT13
import Derived.Test.YtpgojecldmcopaaGreatDoorT5
import Derived.Test.YtpgojecldmcopaaGreatDoorIter
import Derived.BigQuiet
namespace Go.Proofs.YtpgojecldmcopaaGreatDoor
open Go.RowKit Go.Shelf
attribute [local go_sem] Oper.semAt_some
/-- a step of the trace that Check accepts -/
def OkR (l : List Ev) : Prop := l.length ≤ 8388608 ∧ ∀ x ∈ l, (x.1 = 1 ∨ x.1 = 2) ∧ 0 ≤ x.2 ∧ x.2 ≤ 65535
/-- a run, with what Check says of it -/
abbrev RnE := { p : Ev × Nat // (p.1.1 = 1 ∨ p.1.1 = 2) ∧ (0 ≤ p.1.2 ∧ p.1.2 ≤ 65535) ∧ p.2 ≤ 8388608 }
abbrev rnEnc (x : RnE) : Array Value := #[runV x.1.1.1 x.1.1.2 x.1.2]
/-- what a round keeps: all that is old, and all that is no buffer, but the blocks ob and lb -/
def KeepO (n₀ ob lb : Nat) (W W' : World) : Prop := Below n₀ W W' ∧ ∀ k c t fz, W.heap[k]? = some (.cells c t fz) → k ≠ ob → k ≠ lb → t ≠ 5 → W'.heap[k]? = some (.cells c t fz)
theorem KeepO.trans {n₀ ob lb : Nat} {A B C : World} (h : KeepO n₀ ob lb A B) (k : KeepO n₀ ob lb B C) : KeepO n₀ ob lb A C := ⟨h.1.trans k.1, fun i c t fz h1 h2 h3 h4 => k.2 i c t fz (h.2 i c t fz h1 h2 h3 h4) h2 h3 h4⟩
theorem KeepO.at {n₀ ob lb k : Nat} {A B : World} {c : Array Value} {t : TypeId} {fz : Nat × Nat} (h : KeepO n₀ ob lb A B) (h1 : A.heap[k]? = some (.cells c t fz)) (h2 : k ≠ ob) (h3 : k ≠ lb) (h4 : t ≠ 5) : B.heap[k]? = some (.cells c t fz) := h.2 k c t fz h1 h2 h3 h4
/-- the length of the slice in a box: the loop's measure -/
def boxLen (w : World) (b : Nat) : Nat := match w.cell? ⟨b, 0, none⟩ with | some (.slice _ n _) => n | _ => 0
theorem cell_box1 {w : World} {g : Nat} {v : Value} {t : TypeId} (h : w.heap[g]? = some (.cells #[v] t (0, 0))) : w.cell? ⟨g, 0, none⟩ = some v := Lib.cell_of_heap h 0
theorem boxLen_of {w : World} {b n c : Nat} {A : Option Addr} {t : TypeId} (h : w.heap[b]? = some (.cells #[.slice A n c] t (0, 0))) : boxLen w b = n := by
  unfold boxLen; rw [show w.cell? ⟨b, 0, none⟩ = some (.slice A n c) from Lib.cell_of_heap h 0]
/-- the number of steps in a run's cells: the inner loop's measure -/
def runM (w : World) (g : Nat) : Nat := match w.cell? ⟨g, 2, none⟩ with | some (.int _ n) => n.toNat | _ => 0
theorem runM_of {w : World} {g m : Nat} {K a : Int} (h : w.heap[g]? = some (runO K a m)) : runM w g = m := by
  unfold runM; rw [show w.cell? ⟨g, 2, none⟩ = some (.int .i64 (m : Int)) from Lib.cell_of_heap h 2]; simp
theorem grown_set (w : World) (b i : Nat) (v : Value) : w.grownBy (w.setCell ⟨b, i, none⟩ v) (some b) := ⟨rfl, rfl, rfl, by simp [World.setCell], fun k _ hne => Go.RowKit.Below.heap_setCell w ⟨b, i, none⟩ v k (fun e => hne (by rw [e]))⟩
theorem grown_below {w w' : World} (h : Below w.heap.size w w') (row : Option Nat) : w.grownBy w' row := ⟨h.os, h.tape, h.output, h.size, fun k hk _ => h.block k hk⟩
theorem runO_set {w : World} {g m : Nat} {K a : Int} (h : w.heap[g]? = some (runO K a m)) : (w.setCell ⟨g, 2, none⟩ (.int .i64 ((m : Int) + 1))).heap[g]? = some (runO K a (m + 1)) := by
  have := set_same (i := 2) h (.int .i64 ((m : Int) + 1))
  rw [this]; simp
abbrev bxE (A : Option Addr) (n c : Nat) : Obj := .cells #[.slice A n c] 22 (0, 0)
/-- the cells that the test of the inner loop reads -/
abbrev RgT (w wi : World) (Bs g b off m n : Nat) (A : Option Addr) (c : Nat) (K a K' a' : Int) : Prop :=
  (Below w.heap.size w wi ∧ b < w.heap.size ∧ Bs < w.heap.size ∧ g < wi.heap.size) ∧ wi.heap[g]? = some (runO K a m) ∧ wi.cell? ⟨Bs, 0, none⟩ = some (.slice A n c) ∧ wi.cell? ⟨g, 0, none⟩ = some (.int .i32 K) ∧ wi.cell? ⟨g, 1, none⟩ = some (.int .i32 a) ∧ wi.cell? ⟨g, 2, none⟩ = some (.int .i64 (m : Int)) ∧
    wi.cell? ⟨b, off + m * 2, none⟩ = some (.int .i32 K') ∧ wi.cell? ⟨b, off + m * 2 + 1, none⟩ = some (.int .i32 a')
section
variable {w wi wj : World} {Bs g b off m n : Nat} {A : Option Addr} {c : Nat} {K a K' a' : Int}
theorem RgT.drew (h : RgT w wi Bs g b off m n A c K a K' a') : RgT w wi.drew Bs g b off m n A c K a K' a' := ⟨⟨h.1.1.drew, h.1.2⟩, h.2⟩
theorem RgT.go (h : RgT w wi Bs g b off m n A c K a K' a') (hb : Below wi.heap.size wi wj) : RgT w wj Bs g b off m n A c K a K' a' := by
  obtain ⟨⟨h1, h2, h3, h4⟩, hg, k1, k2, k3, k4, k5, k6⟩ := h
  have hs := h1.size
  exact ⟨⟨bt h1 hb, h2, h3, Nat.lt_of_lt_of_le h4 hb.size⟩, (hb.block g h4).trans hg, (hb.cell (p := ⟨Bs, 0, none⟩) (Nat.lt_of_lt_of_le h3 hs)).trans k1, (hb.cell (p := ⟨g, 0, none⟩) h4).trans k2, (hb.cell (p := ⟨g, 1, none⟩) h4).trans k3, (hb.cell (p := ⟨g, 2, none⟩) h4).trans k4,
    (hb.cell (p := ⟨b, off + m * 2, none⟩) (Nat.lt_of_lt_of_le h2 hs)).trans k5, (hb.cell (p := ⟨b, off + m * 2 + 1, none⟩) (Nat.lt_of_lt_of_le h2 hs)).trans k6⟩
end
set_option maxRecDepth 100000 in
set_option maxHeartbeats 4000000 in
theorem runs1_in (n : Nat) (hn : 1 ≤ n) (L Bs n₀ ob lb c0 : Nat) (A0 : Option Addr) (l : List Ev) (hl : OkR l) (J Jx : List RnE → World → Prop) (hJ : ∀ s X Y, J s X → (X.grownBy Y (some Bs) ∧ ∃ c fz, Y.heap[Bs]? = some (.cells c 22 fz)) → J s Y)
    (hY : ∀ pre x W, J pre W → pre.length < (runsT l).length → YieldAt Fence.wide (n - 1) Tryz.prog L (rnEnc x) W fun e W' =>
      (e = .returned (.bool true) ∧ J (pre ++ [x]) W' ∧ KeepO n₀ ob lb W W') ∨ (e = .returned (.bool false) ∧ Jx (pre ++ [x]) W'))
    (W : World) (hB0 : n₀ ≤ Bs) (hob : Bs ≠ ob) (hlb : Bs ≠ lb) (hobW : ob < W.heap.size) (hlbW : lb < W.heap.size) (hBs : W.heap[Bs]? = some (bxE A0 l.length c0)) (hR : Reads W n₀ 2 A0 l.length (evs l)) (hc : l.length ≤ c0) (h0 : J [] W) :
    CallsIn Fence.wide n Tryz.prog 41 #[.func (.yield L) #[] #[], .pointer (some ⟨Bs, 0, none⟩)] W fun e W' => (∃ v, e = .returned v) ∧
      ((∃ ys, ys.map (·.1) = runsT l ∧ J ys W') ∨ (∃ pre, (∃ k, pre.map (·.1) = (runsT l).take k) ∧ Jx pre W')) := by
  refine callsIn_of_wp Tryz.func41 rfl trivial ?_ rfl
  simp only [Tryz.ntmps41, List.size_toArray, List.length_cons, List.length_nil, Nat.reduceAdd, Nat.reduceSub, Array.replicate_succ, Array.replicate_zero, List.push_toArray, List.append_toArray, List.nil_append, List.cons_append]
  have HL := Lib.hid hl
  have hlen := hl.1
  clear hl
  have hstart : ∃ (q : Nat) (pre : List RnE) (A : Option Addr) (c : Nat), q ≤ l.length ∧ Hid (runsT l = pre.map (·.1) ++ runsT (l.drop q)) ∧ Hid (J pre W) ∧ W.heap[Bs]? = some (bxE A (l.length - q) c) ∧ Reads W n₀ 2 A (l.length - q) (evs (l.drop q)) ∧ l.length - q ≤ c ∧ pre.length ≤ q ∧ ob < W.heap.size ∧ lb < W.heap.size :=
    ⟨0, [], A0, c0, Nat.zero_le _, Lib.hid rfl, Lib.hid h0, hBs, by simpa using hR, by omega, Nat.le_refl _, hobW, hlbW⟩
  clear hBs hR hc h0 hobW hlbW
  gi_wp2
  gi_loopw [4] (fun _ wr => ∃ (q : Nat) (pre : List RnE) (A : Option Addr) (c : Nat), q ≤ l.length ∧ Hid (runsT l = pre.map (·.1) ++ runsT (l.drop q)) ∧ Hid (J pre wr) ∧ wr.heap[Bs]? = some (bxE A (l.length - q) c) ∧ Reads wr n₀ 2 A (l.length - q) (evs (l.drop q)) ∧ l.length - q ≤ c ∧ pre.length ≤ q ∧ ob < wr.heap.size ∧ lb < wr.heap.size) (fun _ wr => boxLen wr Bs)
  case atStart => exact hstart
  case round =>
    clear hstart
    obtain ⟨q, pre, A, c, hq, hrun, hJs, hbx, hR, hc, hpl, hobW, hlbW⟩ := hrel
    have hbc := cell_box1 hbx
    have hblt := heap_lt hbx
    by_cases hlt : q < l.length
    · obtain ⟨wo, rfl⟩ : ∃ wo : World, wo = wr := ⟨_, rfl⟩
      have hln : (l.drop q).length = l.length - q := List.length_drop
      rw [← hln] at hR
      obtain ⟨b, off, K, a, rfl, hb, d1, d2, hd0⟩ := evAt hR (k := 0) (by omega)
      rw [Nat.zero_mul, Nat.add_zero] at d1 d2
      have hd : Hid (l.drop q = (K, a) :: l.drop (q + 1)) := Lib.hid (by have := hd0.out; rwa [List.drop_zero, List.drop_drop] at this)
      obtain ⟨hk1, hk2, hk3⟩ := HL.out.2 _ (mem_dropE hd)
      simp only at hk1 hk2 hk3
      have hst := Lib.hid (RunTo.start hd)
      have hl1 : (0 : Int) < ((l.length - q : Nat) : Int) := by omega
      have hl1n : 0 < l.length - q := by omega
      obtain ⟨g, hg⟩ : ∃ g, g = wo.heap.size := ⟨_, rfl⟩
      have hF0 : Below wo.heap.size wo (wo.alloc (runO K a 1)) := ba (Below.refl _ _) _
      have hg0 : (wo.alloc (runO K a 1)).heap[g]? = some (runO K a 1) := by rw [hg]; exact alloc1_new _ _
      have HR := Lib.hid hR
      have Hbx := Lib.hid hbx
      have Hg := Lib.hid hg
      have Hk := Lib.hid (And.intro hk1 (And.intro hk2 hk3))
      have Hln := Lib.hid hln
      clear hR hbx hd0 hd hg hk1 hln
      gi_wp2
      rw [← Hg.out]
      generalize wo.alloc (.cells #[.int .i32 K, .int .i32 a, .int .i64 1] 56 (0, 0)) = wq at *
      gi_loopw [12] (fun _ wi => ∃ m : Nat, Hid (RunTo l q m K a) ∧ Below wo.heap.size wo wi ∧ wi.heap[g]? = some (runO K a m)) (fun _ wi => l.length - runM wi g)
      case atStart => exact ⟨1, hst, hF0, hg0⟩
      case round =>
        clear hst hF0 hg0 d1 d2 hbc
        obtain ⟨m, hrt, hbw, hgm⟩ := hrel
        have hrt1 := hrt.out.1
        have hrt2 := hrt.out.2.1
        have hgl := heap_lt hgm
        have hsz := hbw.size
        have hcb : wr.cell? ⟨Bs, 0, none⟩ = some (.slice (some ⟨b, off, none⟩) (l.length - q) c) := (hbw.cell (p := ⟨Bs, 0, none⟩) hblt).trans (cell_box1 Hbx.out)
        have g0 : wr.cell? ⟨g, 0, none⟩ = some (.int .i32 K) := Lib.cell_of_heap hgm 0
        have g1 : wr.cell? ⟨g, 1, none⟩ = some (.int .i32 a) := Lib.cell_of_heap hgm 1
        have g2 : wr.cell? ⟨g, 2, none⟩ = some (.int .i64 (m : Int)) := Lib.cell_of_heap hgm 2
        by_cases hml : m < l.length - q
        · obtain ⟨b', off', K', a', hA, hb', e1, e2, hy0⟩ := evAt HR.out (k := m) (by rw [Hln.out]; omega)
          injection hA with hA; injection hA with a1 a2; subst a1 a2
          have hy : Hid (l.drop (q + m) = (K', a') :: l.drop (q + m + 1)) := Lib.hid (by have := hy0.out; rw [List.drop_drop, List.drop_drop] at this; rwa [Nat.add_assoc])
          have hnx := next_ K a m Hk.out.2.1 (by have := Hk.out.2.2; omega)
          have hT : RgT wo wr Bs g b off m (l.length - q) (some ⟨b, off, none⟩) c K a K' a' := ⟨⟨hbw, by omega, hblt, hgl⟩, hgm, hcb, g0, g1, g2, (hbw.cell (p := ⟨b, off + m * 2, none⟩) (by show b < _; omega)).trans e1, (hbw.cell (p := ⟨b, off + m * 2 + 1, none⟩) (by show b < _; omega)).trans e2⟩
          have hi0 : (m : Int) < ((l.length - q : Nat) : Int) := by omega
          have hi1 : (0 : Int) ≤ (m : Int) := by omega
          have m1 : decide ((m : Int) < ((l.length - q : Nat) : Int)) = true := by simp; omega
          have Hnx := Lib.hid hnx
          have Hbw := Lib.hid hbw
          have Hgm := Lib.hid hgm
          clear hcb g0 g1 g2 e1 e2 hy0 hnx hbw hgm
          gi_wp2
          refine wpIn_wide.2 ?_
          go_region_held3 (fun w' => RgT wo w' Bs g b off m (l.length - q) (some ⟨b, off, none⟩) c K a K' a')
            (with_reducible (first | exact RgT.drew hT | exact RgT.go (by assumption) hb2 | assumption))
            ((first | (go_at_call 33; refine (Hnx.out _).mono ?_; rintro e w2 ⟨rfl, hb2⟩)))
          obtain ⟨⟨hbw2, _, _, hgl2⟩, hgm2, hcb2, q0, q1, q2, _, _⟩ : RgT wo w2 Bs g b off m (l.length - q) (some ⟨b, off, none⟩) c K a K' a' := by assumption
          generalize hQ : (decide (K' = K) && decide (a' = a + (m : Int))) = Qb at *
          cases Qb
          case true =>
            have he : ((K', a') : Ev) = (K, a + m) := by simp at hQ; rw [hQ.1, hQ.2]
            have hrt2' := Lib.hid (hrt.out.step hy he)
            have f2 : w2.frozen? ⟨g, 2, none⟩ = false := Lib.frozen_of_heap hgm2 2
            have i1 : IntKind.i64.wrap ((m : Int) + 1) = (m : Int) + 1 := IntWalk.i64_in _ (by omega)
            have hgm3 := Lib.hid (runO_set hgm2)
            have hbw3 := Lib.hid (hbw2.setCell (p := ⟨g, 2, none⟩) (by have := Hg.out; show wo.heap.size ≤ g; omega) (.int .i64 ((m : Int) + 1)))
            have hr3 := Lib.hid (runM_of hgm3.out)
            have hr0 := Lib.hid (runM_of Hgm.out)
            clear he hT hbw2 hgm2 hcb2 hb2 m1 hQ
            gi_wp2
            go_roundw
            case rel => exact ⟨m + 1, hrt2', hbw3.out, hgm3.out⟩
            case measure => rw [hr3.out, hr0.out]; omega
          case false =>
            have he : ((K', a') : Ev) ≠ (K, a + m) := by intro h; injection h with h1 h2; simp [h1, h2] at hQ
            have Hst := Lib.hid (hrt.out.stop (.inr ⟨_, hy, he⟩))
            have HBW := Lib.hid hbw2
            have HGM := Lib.hid hgm2
            clear he hT hbw2 hgm2 hcb2 q0 q1 q2 hb2 hgl2 m1 hQ
            have hm8 : m ≤ 8388608 := by omega
            obtain ⟨x, hx⟩ : ∃ x : RnE, x.1 = ((K, a), m) := ⟨⟨((K, a), m), Hk.out.1, ⟨Hk.out.2.1, Hk.out.2.2⟩, hm8⟩, rfl⟩
            have hJw : J pre w2 := hJ _ _ _ hJs.out ⟨grown_below HBW.out (some Bs), _, _, (HBW.out.block Bs hblt).trans Hbx.out⟩
            obtain ⟨fn, tmps, assign, body, hyy, hRr⟩ := hY pre x w2 hJw (by have := congrArg List.length hrun.out; rw [Hst.out] at this; simp at this; omega)
            dsimp only [rnEnc] at hyy
            rw [hx] at hyy
            have g0 : w2.cell? ⟨g, 0, none⟩ = some (.int .i32 K) := Lib.cell_of_heap HGM.out 0
            have g1 : w2.cell? ⟨g, 1, none⟩ = some (.int .i32 a) := Lib.cell_of_heap HGM.out 1
            have g2 : w2.cell? ⟨g, 2, none⟩ = some (.int .i64 (m : Int)) := Lib.cell_of_heap HGM.out 2
            have HX := Lib.hid hx
            clear hx hJw
            gi_wp2
            refine hRr.mono ?_
            clear g0 g1 g2
            rintro e W3 (⟨rfl, hJ3, hk3⟩ | ⟨rfl, hJx3⟩)
            · have hg3 := hk3.at HGM.out (by have := Hg.out; omega) (by have := Hg.out; omega) (by decide)
              have hbx3 := hk3.at ((HBW.out.block Bs hblt).trans Hbx.out) hob hlb (by decide)
              have hR3 := (HR.out.below' HBW.out (by omega)).below' hk3.1 (Nat.le_refl _)
              rw [Hln.out] at hR3
              obtain ⟨A', hsl, hR4⟩ := sl_from evEl (by kernel_rfl) hR3 (m : Int) m rfl (by omega) hc
              rw [flat2_drop, List.drop_drop] at hR4
              have e3 : l.length - q - m = l.length - (q + m) := by omega
              rw [e3] at hR4 hsl
              have k0 : W3.cell? ⟨Bs, 0, none⟩ = some (.slice (some ⟨b, off, none⟩) (l.length - q) c) := cell_box1 hbx3
              have kf : W3.frozen? ⟨Bs, 0, none⟩ = false := Lib.frozen_of_heap hbx3 0
              have k2 : W3.cell? ⟨g, 2, none⟩ = some (.int .i64 (m : Int)) := Lib.cell_of_heap hg3 2
              have hbx4 : (W3.setCell ⟨Bs, 0, none⟩ (.slice A' (l.length - (q + m)) (c - m))).heap[Bs]? = some (bxE A' (l.length - (q + m)) (c - m)) := by
                rw [set_same (i := 0) hbx3]; simp
              have hJ4 := Lib.hid (hJ _ _ _ hJ3 ⟨grown_set W3 Bs 0 (.slice A' (l.length - (q + m)) (c - m)), _, _, hbx4⟩)
              have hR5 := Lib.hid (hR4.setCell (p := ⟨Bs, 0, none⟩) hB0 (.slice A' (l.length - (q + m)) (c - m)))
              have hbl3 := Lib.hid (boxLen_of hbx4)
              have hblo := Lib.hid (boxLen_of Hbx.out)
              have hbx4 := Lib.hid hbx4
              have hrun2 := Lib.hid (show runsT l = (pre ++ [x]).map (·.1) ++ runsT (l.drop (q + m)) by rw [hrun.out, Hst.out]; simp [HX.out])
              have s1 : ob < W3.heap.size := Nat.lt_of_lt_of_le hobW (Nat.le_trans HBW.out.size hk3.1.size)
              have s2 : lb < W3.heap.size := Nat.lt_of_lt_of_le hlbW (Nat.le_trans HBW.out.size hk3.1.size)
              clear hJ3 hk3 hg3 hbx3 hR3 hR4 hyy hRr
              gi_wp2
              go_roundw
              case rel => exact ⟨q + m, pre ++ [x], A', c - m, by omega, hrun2, hJ4, hbx4.out, hR5.out, by omega, by simp; omega, by simpa using s1, by simpa using s2⟩
              case measure => rw [hbl3.out, hblo.out]; omega
            · have hpre : ∃ k, (pre ++ [x]).map (·.1) = (runsT l).take k := ⟨pre.length + 1, by rw [hrun.out, Hst.out]; simp [HX.out, List.take_append]; rw [List.take_of_length_le (by simp)]⟩
              have hpre := Lib.hid hpre
              gi_wp2
              refine bodyPost_ret (results_none rfl _ _ _) rfl ?_
              exact ⟨⟨_, rfl⟩, .inr ⟨_, hpre.out, hJx3⟩⟩
        · have Hst := Lib.hid (hrt.out.stop (.inl (by omega)))
          have HBW := Lib.hid (hbw.trans (below_drewN' (B := wo.heap.size) wr 1))
          have HGM : Hid (wr.drew.heap[g]? = some (runO K a m)) := Lib.hid hgm
          have m1 : decide ((m : Int) < ((l.length - q : Nat) : Int)) = false := by simp; omega
          clear hbw hgm
          gi_wp2
          refine wpIn_wide.2 ?_
          go_region
          clear hcb g0 g1 g2
          have hm8 : m ≤ 8388608 := by omega
          obtain ⟨x, hx⟩ : ∃ x : RnE, x.1 = ((K, a), m) := ⟨⟨((K, a), m), Hk.out.1, ⟨Hk.out.2.1, Hk.out.2.2⟩, hm8⟩, rfl⟩
          have hJw : J pre wr.drew := hJ _ _ _ hJs.out ⟨grown_below HBW.out (some Bs), _, _, (HBW.out.block Bs hblt).trans Hbx.out⟩
          obtain ⟨fn, tmps, assign, body, hyy, hRr⟩ := hY pre x wr.drew hJw (by have := congrArg List.length hrun.out; rw [Hst.out] at this; simp at this; omega)
          dsimp only [rnEnc] at hyy
          rw [hx] at hyy
          have g0 : wr.drew.cell? ⟨g, 0, none⟩ = some (.int .i32 K) := Lib.cell_of_heap HGM.out 0
          have g1 : wr.drew.cell? ⟨g, 1, none⟩ = some (.int .i32 a) := Lib.cell_of_heap HGM.out 1
          have g2 : wr.drew.cell? ⟨g, 2, none⟩ = some (.int .i64 (m : Int)) := Lib.cell_of_heap HGM.out 2
          have HX := Lib.hid hx
          clear hx hJw
          gi_wp2
          refine hRr.mono ?_
          clear g0 g1 g2
          rintro e W3 (⟨rfl, hJ3, hk3⟩ | ⟨rfl, hJx3⟩)
          · have hg3 := hk3.at HGM.out (by have := Hg.out; omega) (by have := Hg.out; omega) (by decide)
            have hbx3 := hk3.at ((HBW.out.block Bs hblt).trans Hbx.out) hob hlb (by decide)
            have hR3 := (HR.out.below' HBW.out (by omega)).below' hk3.1 (Nat.le_refl _)
            rw [Hln.out] at hR3
            obtain ⟨A', hsl, hR4⟩ := sl_from evEl (by kernel_rfl) hR3 (m : Int) m rfl (by omega) hc
            rw [flat2_drop, List.drop_drop] at hR4
            have e3 : l.length - q - m = l.length - (q + m) := by omega
            rw [e3] at hR4 hsl
            have k0 : W3.cell? ⟨Bs, 0, none⟩ = some (.slice (some ⟨b, off, none⟩) (l.length - q) c) := cell_box1 hbx3
            have kf : W3.frozen? ⟨Bs, 0, none⟩ = false := Lib.frozen_of_heap hbx3 0
            have k2 : W3.cell? ⟨g, 2, none⟩ = some (.int .i64 (m : Int)) := Lib.cell_of_heap hg3 2
            have hbx4 : (W3.setCell ⟨Bs, 0, none⟩ (.slice A' (l.length - (q + m)) (c - m))).heap[Bs]? = some (bxE A' (l.length - (q + m)) (c - m)) := by
              rw [set_same (i := 0) hbx3]; simp
            have hJ4 := Lib.hid (hJ _ _ _ hJ3 ⟨grown_set W3 Bs 0 (.slice A' (l.length - (q + m)) (c - m)), _, _, hbx4⟩)
            have hR5 := Lib.hid (hR4.setCell (p := ⟨Bs, 0, none⟩) hB0 (.slice A' (l.length - (q + m)) (c - m)))
            have hbl3 := Lib.hid (boxLen_of hbx4)
            have hblo := Lib.hid (boxLen_of Hbx.out)
            have hbx4 := Lib.hid hbx4
            have hrun2 := Lib.hid (show runsT l = (pre ++ [x]).map (·.1) ++ runsT (l.drop (q + m)) by rw [hrun.out, Hst.out]; simp [HX.out])
            have s1 : ob < W3.heap.size := Nat.lt_of_lt_of_le hobW (Nat.le_trans HBW.out.size hk3.1.size)
            have s2 : lb < W3.heap.size := Nat.lt_of_lt_of_le hlbW (Nat.le_trans HBW.out.size hk3.1.size)
            clear hJ3 hk3 hg3 hbx3 hR3 hR4 hyy hRr
            gi_wp2
            go_roundw
            case rel => exact ⟨q + m, pre ++ [x], A', c - m, by omega, hrun2, hJ4, hbx4.out, hR5.out, by omega, by simp; omega, by simpa using s1, by simpa using s2⟩
            case measure => rw [hbl3.out, hblo.out]; omega
          · have hpre : ∃ k, (pre ++ [x]).map (·.1) = (runsT l).take k := ⟨pre.length + 1, by rw [hrun.out, Hst.out]; simp [HX.out, List.take_append]; rw [List.take_of_length_le (by simp)]⟩
            have hpre := Lib.hid hpre
            gi_wp2
            refine bodyPost_ret (results_none rfl _ _ _) rfl ?_
            exact ⟨⟨_, rfl⟩, .inr ⟨_, hpre.out, hJx3⟩⟩
    · obtain rfl : q = l.length := by omega
      have hl0 : ¬ ((0 : Int) < ((l.length - l.length : Nat) : Int)) := by omega
      gi_wp2
      go_end0
      refine ⟨⟨_, rfl⟩, .inl ⟨pre, ?_, hJs.out⟩⟩
      rw [hrun.out, List.drop_eq_nil_of_le (Nat.le_refl _), runsT_nil, List.append_nil]
end Go.Proofs.YtpgojecldmcopaaGreatDoor
