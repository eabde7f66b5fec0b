/- LexerPrints. -/
import Derived.Test.YtfleamgncodkpaaDoorL9
import Derived.Test.YtfleamgncodkpaaDoorJ16
namespace Go.Proofs.YtfleamgncodkpaaDoor
open Go.RowKit
theorem rpr_at (l : List T9) (w : World) (A : Option Addr) (c : Nat) (hR : Reads w w.heap.size 9 A l.length (tks l)) (hcap : l.length ≤ 100000) (s : ByteArray) (p er : Int) (hr : Hid (∃ q : Nat, prnL l = (s, q, er) ∧ p = (q : Int))) :
    Calls Tryd.prog 11 #[.slice A l.length c] w fun e w' => e = .returned (.tuple #[.string s, .int .i64 p, .int .i64 er]) ∧ Below w.heap.size w w' := by
  obtain ⟨q, hq, rfl⟩ := hr.out
  exact rpprint_ l w A c hR hcap _ (Lib.hid hq)
theorem str_self (s : ByteArray) : (s.toList == s.toList) = true := beq_self_eq_true _
/-- a token's box is not wanted: the cells of a token that lies in memory -/
abbrev C9 (w : World) (bk o : Nat) (K F T N : Int) (S : ByteArray) (f : Nat → Bool) (w' : World) : Prop := Below w.heap.size w w' ∧ bk < w.heap.size ∧
  w'.cell? ⟨bk, o, none⟩ = some (.int .i64 K) ∧ w'.cell? ⟨bk, o + 1, none⟩ = some (.int .i64 F) ∧ w'.cell? ⟨bk, o + 2, none⟩ = some (.int .i64 T) ∧ w'.cell? ⟨bk, o + 3, none⟩ = some (.int .i64 N) ∧ w'.cell? ⟨bk, o + 4, none⟩ = some (.string S) ∧
  w'.cell? ⟨bk, o + 5, none⟩ = some (.int .u64 ((wK f 0 : Nat) : Int)) ∧ w'.cell? ⟨bk, o + 6, none⟩ = some (.int .u64 ((wK f 1 : Nat) : Int)) ∧ w'.cell? ⟨bk, o + 7, none⟩ = some (.int .u64 ((wK f 2 : Nat) : Int)) ∧ w'.cell? ⟨bk, o + 8, none⟩ = some (.int .u64 ((wK f 3 : Nat) : Int))
section
variable {w w1 w2 : World} {bk o : Nat} {K F T N : Int} {S : ByteArray} {f : Nat → Bool}
theorem C9.drew (h : C9 w bk o K F T N S f w1) : C9 w bk o K F T N S f w1.drew := ⟨h.1.drew, h.2⟩
theorem C9.go (h : C9 w bk o K F T N S f w1) (hb : Below w1.heap.size w1 w2) : C9 w bk o K F T N S f w2 := by
  obtain ⟨h0, hl, h1, h2, h3, h4, h5, h6, h7, h8, h9⟩ := h
  have hl1 : bk < w1.heap.size := Nat.lt_of_lt_of_le hl h0.size
  exact ⟨bt h0 hb, hl, (hb.cell (p := ⟨bk, o, none⟩) hl1).trans h1, (hb.cell (p := ⟨bk, o + 1, none⟩) hl1).trans h2, (hb.cell (p := ⟨bk, o + 2, none⟩) hl1).trans h3, (hb.cell (p := ⟨bk, o + 3, none⟩) hl1).trans h4, (hb.cell (p := ⟨bk, o + 4, none⟩) hl1).trans h5,
    (hb.cell (p := ⟨bk, o + 5, none⟩) hl1).trans h6, (hb.cell (p := ⟨bk, o + 6, none⟩) hl1).trans h7, (hb.cell (p := ⟨bk, o + 7, none⟩) hl1).trans h8, (hb.cell (p := ⟨bk, o + 8, none⟩) hl1).trans h9⟩
end
set_option maxRecDepth 100000 in
set_option maxHeartbeats 8000000 in
theorem lexerPrints_walk (w : World) (A : Option Addr) (c : Nat) (l : List T9) (hR : Reads w w.heap.size 9 A l.length (tks l)) (hS : ∀ t ∈ l, t.2.2.2.2.1.size ≤ 140737488351232) (hlc : l.length ≤ c ∧ c ≤ 9223372036854775807) (hW : LxW w) (hM : ML w) :
    Calls Tryd.prog 3 #[.slice A l.length c] w fun e w' => e = .returned (.bool true) ∧ Below w.heap.size w w' := by
  have hcap : l.length ≤ 9223372036854775807 := by omega
  have Hfar := Lib.hid (far_ l w A c hR hcap hS)
  obtain ⟨s, q, er, hp⟩ : ∃ s q er, prnL l = (s, q, er) := ⟨_, _, _, rfl⟩
  have HP : Hid (∃ q' : Nat, prnL l = (s, q', er) ∧ (q : Int) = (q' : Int)) := Lib.hid ⟨q, hp, rfl⟩
  have HF0 := Lib.hid (Fr.start w)
  have HW := Lib.hid hW
  have HM := Lib.hid hM
  have HR := Lib.hid hR
  clear hp hW hM hR hS hcap hlc
  go_enter Tryd.func3, Tryd.ntmps3
  go_wp2_with fail
  (with_reducible refine Hfar.out.mono ?_); rintro e w1 ⟨b, rfl, h100, hb⟩
  have HF1 := Lib.hid (HF0.out.go hb)
  have HR1 := Lib.hid (HR.out.go hb)
  clear hb HF0 HR Hfar
  rcases b with _ | _
  case true =>
    go_wp2_with fail
    (with_reducible refine (shown_ _ (HW.out.below HF1.out.bel) (HM.out.below HF1.out.bel)).mono ?_); rintro e w6 ⟨rfl, hb⟩
    have HB := Lib.hid (bt HF1.out.bel hb)
    clear hb HF1
    go_wp2
    go_ret
    exact ⟨rfl, HB.out⟩
  have hl := h100 rfl
  have hl2 : l.length ≤ 100000 := by omega
  clear h100
  go_wp2_with fail
  (with_reducible refine (pr_at l l.length rfl _ A c HR1.out hl2 s q er HP (HW.out.below HF1.out.bel)).mono ?_); rintro e w2 ⟨rfl, hb⟩
  have HF2 := Lib.hid (HF1.out.go hb)
  have HR2 := Lib.hid (HR1.out.go hb)
  clear hb HF1 HR1
  go_wp2_with fail
  (with_reducible refine (rpr_at l _ A c HR2.out hl2 s q er HP).mono ?_); rintro e w3 ⟨rfl, hb⟩
  have HF3 := Lib.hid (HF2.out.go hb)
  have HR3 := Lib.hid (HR2.out.go hb)
  have e1 := str_self s
  have e2 : (er != er) = false := by simp
  clear hb HF2 HR2
  go_wp2
  go_loopw [9] (fun i wr => ∃ k : Nat, k ≤ l.length ∧ i = .int .i64 (k : Int) ∧ Hid (Below w3.heap.size w3 wr)) (fun i _ => l.length - (intOf i).toNat)
  case atStart => exact ⟨0, Nat.zero_le _, rfl, Lib.hid (Below.refl _ _)⟩
  case round =>
    obtain ⟨k, hk, rfl, HB⟩ := hrel
    clear e1 e2
    by_cases hlt : k < l.length
    case neg =>
      have i2 : ¬ ((k : Int) < (l.length : Int)) := by omega
      have HF7 := Lib.hid (HF3.out.go HB.out)
      go_wp2_with fail
      (with_reducible refine (shown_ _ (HW.out.below HF7.out.bel) (HM.out.below HF7.out.bel)).mono ?_); rintro e w7 ⟨rfl, hb⟩
      have HBz := Lib.hid (bt HF7.out.bel hb)
      clear hb HF7
      go_wp2
      go_ret
      exact ⟨rfl, HBz.out⟩
    have i2 : (k : Int) < (l.length : Int) := by omega
    have i0 : (0 : Int) ≤ (k : Int) := by omega
    obtain ⟨bk, off, rfl, hbk, c0, c1, c2, c3, c4, c5, c6, c7, c8⟩ := (HR3.out.below HB.out).at9 hlt
    obtain ⟨K, F, T, N, S, f, ht⟩ : ∃ K F T N S f, l[k] = (K, F, T, N, S, f) := ⟨_, _, _, _, _, _, rfl⟩
    rw [ht] at c0 c1 c2 c3 c4 c5 c6 c7 c8
    simp only at c0 c1 c2 c3 c4 c5 c6 c7 c8
    obtain ⟨x, hx⟩ : ∃ x, ckT K N S f = x := ⟨_, rfl⟩
    have HC1 := Lib.hid (fun W => chk_ K F T N S f x (Lib.hid hx) W)
    have HC2 := Lib.hid (fun W => rchk_ K F T N S f x (Lib.hid hx) W)
    have hT : C9 wr bk (off + k * 9) K F T N S f wr := ⟨Below.refl _ _, Nat.lt_of_lt_of_le hbk HB.out.size, c0, c1, c2, c3, c4, c5, c6, c7, c8⟩
    have e2 : (x != x) = false := by simp
    clear hx ht c0 c1 c2 c3 c4 c5 c6 c7 c8
    go_upto_region 10 with fail
    go_region_held3 (fun w' => C9 wr bk (off + k * 9) K F T N S f w')
      (with_reducible (first | exact C9.drew hT | exact C9.go (by assumption) hb5 | exact C9.go (by assumption) hb6 | assumption))
      ((first
        | (go_at_call 12; (with_reducible refine (HC1.out _).mono ?_); rintro e w5 ⟨rfl, hb5⟩)
        | (go_at_call 13; (with_reducible refine (HC2.out _).mono ?_); rintro e w6 ⟨rfl, hb6⟩)))
    have h6 : C9 wr bk (off + k * 9) K F T N S f w6 := by assumption
    have HB6 := Lib.hid (bt HB.out h6.1)
    clear h6 hT hb5 hb6
    go_wp2
    go_roundw
    case rel => exact ⟨k + 1, by omega, by go_num, HB6⟩
    case measure => (simp [intOf]) <;> omega
end Go.Proofs.YtfleamgncodkpaaDoor
