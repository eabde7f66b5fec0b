/- Arenas: Region, Regions. No condition. -/
import Derived.Test.YtmpdgckccgbdnaaDoorA1
import Derived.Deep.DeepCutAuto
namespace Go.Proofs.YtmpdgckccgbdnaaDoor
open Go.RowKit
/-- the row of regions of an arena, made since w0 -/
structure ArS (w0 W : World) (p gc g : Nat) (A : Option Addr) (c : Nat) (R : List Rg) : Prop where
  bel : Below w0.heap.size w0 W
  ge : w0.heap.size ≤ g
  blk : W.heap[g]? = some (arO p gc (.slice A R.length c) g)
  own : W.ownsRow w0.heap.size 38 3 (.slice A R.length c) R.length (rgs R)
section
variable {w0 W W2 : World} {p gc g : Nat} {A : Option Addr} {c : Nat} {R : List Rg}
theorem ArS.go (h : ArS w0 W p gc g A c R) (hb : Below W.heap.size W W2) : ArS w0 W2 p gc g A c R := ⟨bt h.bel hb, h.ge, below_blk hb (heap_lt h.blk) h.blk, own_below h.own hb⟩
theorem ArS.rd (h : ArS w0 W p gc g A c R) : Reads W W.heap.size 3 A R.length (rgs R) := Reads.of_own h.own
theorem ArS.drewN (h : ArS w0 W p gc g A c R) (n : Nat) : ArS w0 (W.drewN n) p gc g A c R := h.go (drewN_below _ _)
end
theorem ArS.put {w0 W : World} {p gc g : Nat} {A A2 : Option Addr} {c c2 : Nat} {R R2 : List Rg} (hg : w0.heap.size ≤ g) (hb : Below w0.heap.size w0 W) (h : W.heap[g]? = some (arO p gc (.slice A R.length c) g)) (hO : W.ownsRow w0.heap.size 38 3 (.slice A2 R2.length c2) R2.length (rgs R2)) :
    ArS w0 (W.setCell ⟨g, 3, none⟩ (.slice A2 R2.length c2)) p gc g A2 c2 R2 := by
  refine ⟨hb.setCell (p := ⟨g, 3, none⟩) hg _, hg, ?_, own_set hO _ _ (own_blk_ne hO h (by decide))⟩
  rw [set_same (i := 3) h]
  simp
theorem own_empty (w : World) (t : TypeId) (size : Nat) : (w.alloc (.cells #[] t)).ownsRow w.heap.size t size (.slice (some ⟨w.heap.size, 0, none⟩) 0 0) 0 [] :=
  ⟨by simp, .inr ⟨w.heap.size, 0, #[], rfl, Nat.le_refl _, alloc1_new _ _, Nat.le_refl _, by unfold maxLen; omega, by simp, by simp⟩⟩
theorem rgs_one (l : List Rg) : ∀ u ∈ rgs l, u.oneCell' = true := by
  induction l with
  | nil => intro u hu; cases hu
  | cons x r ih =>
    intro u hu
    simp only [rgs, flat3, List.mem_cons] at hu
    rcases hu with rfl | rfl | rfl | hu
    · rfl
    · rfl
    · rfl
    · exact ih u hu
/-- what the last region of an arena leaves -/
def NextB (R : List Rg) (B : Int) : Prop := (R = [] ∧ B = 0) ∨ ∃ (h : 0 < R.length), R[R.length - 1].2.1 + R[R.length - 1].2.2 = B ∧ 0 ≤ R[R.length - 1].2.1 ∧ 0 ≤ R[R.length - 1].2.2
set_option maxRecDepth 100000 in
set_option maxHeartbeats 4000000 in
theorem aregion (w0 w : World) (p gc g : Nat) (A : Option Addr) (c : Nat) (R : List Rg) (nm : ByteArray) (B S : Int) (hS : ArS w0 w p gc g A c R) (hr : R.length ≤ 60) (hn : Hid (∀ y ∈ R, y.1 ≠ nm)) (hnm : Hid (nameL nm.data.toList = true)) (hsz : nm.size ≤ 1000) (h1 : 1 ≤ S) (hB : Hid (NextB R B)) (hB0 : 0 ≤ B) (hB1 : B ≤ 100000) (hS1 : S ≤ (p : Int) - B) (hp : p ≤ 100000) :
    Calls Tryd.prog 8 #[.pointer (some ⟨g, 0, none⟩), .string nm, .int .i64 S] w fun e w' => e = .returned (.tuple #[.int .i64 B, .int .i64 0]) ∧ ∃ A2 c2, ArS w0 w' p gc g A2 c2 (R ++ [(nm, B, S)]) := by
  have HS := Lib.hid hS
  clear hS
  have i1 : ¬ (S < 1) := by omega
  have i2 : ((R.length : Int) == 64) = false := by rw [beq_eq_false_iff_ne]; omega
  go_enter Tryd.func8, Tryd.ntmps8
  go_wp2_with fail
  (with_reducible refine (anone _ p gc g _ HS.out.blk).mono ?_); rintro e w1 ⟨rfl, hw1⟩; subst w1
  go_wp2_with fail
  (with_reducible refine (name_ nm _ (by omega)).mono ?_); rintro e w1 ⟨rfl, hb1⟩
  rw [hnm.out]
  have HS1 := Lib.hid (HS.out.go hb1)
  clear hb1 HS
  obtain ⟨c2, c3, c4, f3, lt⟩ := ArI.of HS1.out.blk
  go_wp2_with fail
  (with_reducible refine (aplace _ p gc g A c R HS1.out.blk nm HS1.out.rd (by omega) hn).mono ?_); rintro e w2 ⟨rfl, hb2⟩
  have HS2 := Lib.hid (HS1.out.go hb2)
  clear hb2 HS1 c2 c3 c4 f3 lt hn
  obtain ⟨c2, c3, c4, f3, lt⟩ := ArI.of HS2.out.blk
  go_upto_if 40 with (fail)
  go_cut [6] (fun s wx => s = .int .i64 B ∧ ArS w0 wx p gc g A c R)
  case first =>
    rcases hB.out with ⟨hR0, hBz⟩ | ⟨hR0, hBz, hB2, hB3⟩
    · subst hBz
      have g1 : ¬ ((0 : Int) < (R.length : Int)) := by rw [hR0]; simp
      have hs := HS2.out
      clear hR0 hB
      go_wp2
      go_meet
      exact ⟨rfl, hs⟩
    · have g1 : (0 : Int) < (R.length : Int) := by omega
      have wl : IntKind.i64.wrap ((R.length : Int) - 1) = (R.length : Int) - 1 := IntWalk.i64_in _ (by omega)
      have hi0 : (0 : Int) ≤ ((R.length : Int) - 1) := by omega
      have hi1 : ((R.length : Int) - 1) < (R.length : Int) := by omega
      have hi2 : ((R.length : Int) - 1).toNat = R.length - 1 := by omega
      obtain ⟨b, off, s5, B5, S5, rfl, hb, d1, d2, d3, hd⟩ := rgAt HS2.out.rd (k := R.length - 1) (by omega)
      have hv2 : R[R.length - 1] = (s5, B5, S5) := by
        have := hd.out
        rw [List.drop_eq_getElem_cons (by omega)] at this
        injection this
      rw [hv2] at hBz hB2 hB3
      simp only at hBz hB2 hB3
      have wsum : IntKind.i64.wrap (B5 + S5) = B5 + S5 := IntWalk.i64_in _ (by omega)
      clear hd hv2 hB hR0
      go_wp2
      go_quiet (fail)
      go_wp2
      go_meet
      exact ⟨rfl, HS2.out.drewN _⟩
  case rest =>
  obtain ⟨rfl, hS3⟩ := hcut
  clear hB HS2 c2 c3 c4 f3 lt
  have HS3 := Lib.hid hS3
  obtain ⟨c2, c3, c4, f3, lt⟩ := ArI.of hS3.blk
  clear hS3
  have wpB : IntKind.i64.wrap ((p : Int) - B) = (p : Int) - B := IntWalk.i64_in _ (by omega)
  have i3 : ¬ ((p : Int) - B < S) := by omega
  go_wp2_with (at_builtin; refine wpList_ap rgEl (w0 := w0) (by exact HS3.out.own.alloc _) (by exact ba HS3.out.bel _) [.string nm, .int .i64 B, .int .i64 S] (by exact alloc1_new _ _) ?_)
  intro g4 cap4 w4 hO4 hb4 hg4
  have hne : (Value.slice A R.length c).ownBlock ≠ some g := own_blk_ne HS3.out.own HS3.out.blk (by decide)
  have hblk4 := grown_blk hg4 (alloc_blk (o := _) HS3.out.blk) hne
  have lt4 := heap_lt hblk4
  have f4 := Lib.frozen_of_heap hblk4 3
  have q4 := Lib.cell_of_heap hblk4 3
  have hO5 : w4.ownsRow w0.heap.size 38 3 (.slice (some ⟨g4, 0, none⟩) (R ++ [(nm, B, S)]).length cap4) (R ++ [(nm, B, S)]).length (rgs (R ++ [(nm, B, S)])) := by
    rw [rgs_app, List.length_append]; exact hO4
  have hb5 : w4.heap[g]? = some (arO p gc (.slice A R.length c) g) := hblk4
  have HZ := Lib.hid (ArS.put HS3.out.ge hb4 hb5 hO5)
  clear hO4 hO5 hb4 hg4 hne hblk4 hb5 HS3 c2 c3 c4 f3
  go_wp2
  go_ret2
  exact ⟨rfl, _, _, by simpa using HZ.out⟩
set_option maxRecDepth 100000 in
set_option maxHeartbeats 4000000 in
theorem afull (w0 w : World) (p gc g : Nat) (A : Option Addr) (c : Nat) (R : List Rg) (nm : ByteArray) (B S : Int) (hS : ArS w0 w p gc g A c R) (hr : R.length ≤ 60) (hn : Hid (∀ y ∈ R, y.1 ≠ nm)) (hnm : Hid (nameL nm.data.toList = true)) (hsz : nm.size ≤ 1000) (h1 : 1 ≤ S) (hB : Hid (NextB R B)) (hB0 : 0 ≤ B) (hB1 : B ≤ 100000) (hS1 : (p : Int) - B < S) (hp : p ≤ 100000) :
    Calls Tryd.prog 8 #[.pointer (some ⟨g, 0, none⟩), .string nm, .int .i64 S] w fun e w' => e = .returned (.tuple #[.int .i64 0, .int .i64 5]) ∧ ArS w0 w' p gc g A c R := by
  have HS := Lib.hid hS
  clear hS
  have i1 : ¬ (S < 1) := by omega
  have i2 : ((R.length : Int) == 64) = false := by rw [beq_eq_false_iff_ne]; omega
  go_enter Tryd.func8, Tryd.ntmps8
  go_wp2_with fail
  (with_reducible refine (anone _ p gc g _ HS.out.blk).mono ?_); rintro e w1 ⟨rfl, hw1⟩; subst w1
  go_wp2_with fail
  (with_reducible refine (name_ nm _ (by omega)).mono ?_); rintro e w1 ⟨rfl, hb1⟩
  rw [hnm.out]
  have HS1 := Lib.hid (HS.out.go hb1)
  clear hb1 HS
  obtain ⟨c2, c3, c4, f3, lt⟩ := ArI.of HS1.out.blk
  go_wp2_with fail
  (with_reducible refine (aplace _ p gc g A c R HS1.out.blk nm HS1.out.rd (by omega) hn).mono ?_); rintro e w2 ⟨rfl, hb2⟩
  have HS2 := Lib.hid (HS1.out.go hb2)
  clear hb2 HS1 c2 c3 c4 f3 lt hn
  obtain ⟨c2, c3, c4, f3, lt⟩ := ArI.of HS2.out.blk
  go_upto_if 40 with (fail)
  go_cut [6] (fun s wx => s = .int .i64 B ∧ ArS w0 wx p gc g A c R)
  case first =>
    rcases hB.out with ⟨hR0, hBz⟩ | ⟨hR0, hBz, hB2, hB3⟩
    · subst hBz
      have g1 : ¬ ((0 : Int) < (R.length : Int)) := by rw [hR0]; simp
      have hs := HS2.out
      clear hR0 hB
      go_wp2
      go_meet
      exact ⟨rfl, hs⟩
    · have g1 : (0 : Int) < (R.length : Int) := by omega
      have wl : IntKind.i64.wrap ((R.length : Int) - 1) = (R.length : Int) - 1 := IntWalk.i64_in _ (by omega)
      have hi0 : (0 : Int) ≤ ((R.length : Int) - 1) := by omega
      have hi1 : ((R.length : Int) - 1) < (R.length : Int) := by omega
      have hi2 : ((R.length : Int) - 1).toNat = R.length - 1 := by omega
      obtain ⟨b, off, s5, B5, S5, rfl, hb, d1, d2, d3, hd⟩ := rgAt HS2.out.rd (k := R.length - 1) (by omega)
      have hv2 : R[R.length - 1] = (s5, B5, S5) := by
        have := hd.out
        rw [List.drop_eq_getElem_cons (by omega)] at this
        injection this
      rw [hv2] at hBz hB2 hB3
      simp only at hBz hB2 hB3
      have wsum : IntKind.i64.wrap (B5 + S5) = B5 + S5 := IntWalk.i64_in _ (by omega)
      clear hd hv2 hB hR0
      go_wp2
      go_quiet (fail)
      go_wp2
      go_meet
      exact ⟨rfl, HS2.out.drewN _⟩
  case rest =>
  obtain ⟨rfl, hS3⟩ := hcut
  clear hB HS2 c2 c3 c4 f3 lt
  have HS3 := Lib.hid hS3
  obtain ⟨c2, c3, c4, f3, lt⟩ := ArI.of hS3.blk
  clear hS3
  have wpB : IntKind.i64.wrap ((p : Int) - B) = (p : Int) - B := IntWalk.i64_in _ (by omega)
  have i3 : (p : Int) - B < S := by omega
  go_wp2
  go_ret2
  exact ⟨rfl, HS3.out⟩
set_option maxRecDepth 100000 in
set_option maxHeartbeats 1000000 in
theorem aclone (w : World) (a : Addr) (c : Nat) (l : List Rg) (h : Reads w w.heap.size 3 (some a) l.length (rgs l)) (hl : l.length ≤ 1000000) :
    Calls Tryd.prog 22 #[.slice (some a) l.length c] w fun e w' => ∃ A1 c1, e = .returned (.slice A1 l.length c1) ∧ Below w.heap.size w w' ∧ Reads w' w'.heap.size 3 A1 l.length (rgs l) := by
  have hrd := h.al (.cells #[] 38)
  have Hrd := Lib.hid hrd
  have hown := own_empty w 38 3
  have hnil : ∀ W : World, (binOp .eql 26 (.slice (some a) l.length c) (.slice none 0 0)).run Tryd.prog W = .ok (.bool false) W := fun W => Lib.run_eql_slice_nil W _ _ _ _ _ _ _ Tryd.underlying26
  clear h hrd
  go_enter Tryd.func22, Tryd.ntmps22
  go_wp2_with (at_builtin; refine wpList_apr rgEl (w0 := w) hown (ba (Below.refl _ _) _) (by exact Hrd.out) (rgs_one l) ?_)
  intro v1 w1 hO1 hb1 hg1
  try simp only [Nat.zero_add, List.nil_append] at hO1
  obtain ⟨A1, c1, rfl, hr1, hc1, hc2⟩ := own_sl hO1
  clear hown hg1 hO1 Hrd
  go_wp2
  go_ret
  exact ⟨A1, c1, rfl, hb1, hr1⟩
set_option maxRecDepth 100000 in
theorem aregions (w0 w : World) (p gc g : Nat) (a : Addr) (c : Nat) (R : List Rg) (hS : ArS w0 w p gc g (some a) c R) (hr : R.length ≤ 60) :
    Calls Tryd.prog 11 #[.pointer (some ⟨g, 0, none⟩)] w fun e w' => ∃ A1 c1, e = .returned (.slice A1 R.length c1) ∧ Below w.heap.size w w' ∧ Reads w' w'.heap.size 3 A1 R.length (rgs R) := by
  have HS := Lib.hid hS
  obtain ⟨c2, c3, c4, f3, lt⟩ := ArI.of hS.blk
  clear hS
  go_enter Tryd.func11, Tryd.ntmps11
  go_wp2_with fail
  (with_reducible refine (anone _ p gc g _ HS.out.blk).mono ?_); rintro e w1 ⟨rfl, hw1⟩; subst w1
  go_wp2_with fail
  (with_reducible refine (aclone _ a c R HS.out.rd (by omega)).mono ?_); rintro e w1 ⟨A1, c1, rfl, hb1, hr1⟩
  go_wp2
  go_ret
  exact ⟨A1, c1, rfl, hb1, hr1⟩
end Go.Proofs.YtmpdgckccgbdnaaDoor
