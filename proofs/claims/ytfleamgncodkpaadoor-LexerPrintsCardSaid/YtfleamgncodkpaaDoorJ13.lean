/- Lexer: the example of the laws. No condition. Lexer: what every law looks at (shown). No condition. -/
import Derived.Test.YtfleamgncodkpaaDoorG3
import Derived.Test.YtfleamgncodkpaaDoorJ12
import Derived.Test.YtfleamgncodkpaaDoorJ10
import Derived.Test.YtfleamgncodkpaaDoorJ5
namespace Go.Proofs.YtfleamgncodkpaaDoor
open Go.RowKit
def e0K : ByteArray := ⟨#[]⟩
/-- the tokens of the example -/
def exT : List T9 := [(1, 0, 0, 0, ⟨#[]⟩, fun _ => false), (3, 0, 0, 7, ⟨#[]⟩, fun _ => false), (4, 0, 0, 0, ⟨#[97, 32, 98]⟩, fun _ => false), (5, 0, 0, 0, ⟨#[120]⟩, fun _ => false), (6, 0, 0, 0, ⟨#[]⟩, rgK 97 100), (6, 0, 0, 0, ⟨#[]⟩, fun _ => true), (2, 0, 0, 0, ⟨#[]⟩, fun _ => false), (3, 0, 0, 0, ⟨#[]⟩, fun _ => false), (3, 0, 0, 3, ⟨#[]⟩, fun _ => false)]
abbrev E8 (w : World) (g : Nat) (f : Nat → Bool) (w' : World) : Prop := Below w.heap.size w w' ∧ g < w'.heap.size ∧ w'.cell? ⟨g, 0, none⟩ = some (.int .u64 ((wK f 0 : Nat) : Int)) ∧ w'.cell? ⟨g, 1, none⟩ = some (.int .u64 ((wK f 1 : Nat) : Int)) ∧ w'.cell? ⟨g, 2, none⟩ = some (.int .u64 ((wK f 2 : Nat) : Int)) ∧ w'.cell? ⟨g, 3, none⟩ = some (.int .u64 ((wK f 3 : Nat) : Int))
section
variable {w w1 w2 : World} {g : Nat} {f : Nat → Bool}
theorem E8.of (hb : Below w.heap.size w w1) (h : w1.heap[g]? = some (stO f)) : E8 w g f w1 :=
  ⟨hb, heap_lt h, Lib.cell_of_heap h 0, Lib.cell_of_heap h 1, Lib.cell_of_heap h 2, Lib.cell_of_heap h 3⟩
theorem E8.drew (h : E8 w g f w1) : E8 w g f w1.drew := ⟨h.1.drew, h.2⟩
theorem E8.go (h : E8 w g f w1) (hb : Below w1.heap.size w1 w2) : E8 w g f w2 := by
  obtain ⟨h1, h2, h3, h4, h5, h6⟩ := h
  exact ⟨bt h1 hb, Nat.lt_of_lt_of_le h2 hb.size, (hb.cell (p := ⟨g, 0, none⟩) h2).trans h3, (hb.cell (p := ⟨g, 1, none⟩) h2).trans h4, (hb.cell (p := ⟨g, 2, none⟩) h2).trans h5, (hb.cell (p := ⟨g, 3, none⟩) h2).trans h6⟩
theorem E8.al (h : E8 w g f w1) (o : Obj) : E8 w g f (w1.alloc o) := h.go ((Below.refl _ _).alloc (Nat.le_refl _) o)
end
theorem range_ac (w : World) : Calls Tryd.prog 21 #[.int .i64 97, .int .i64 99] w fun e w' => e = .returned (.tuple #[stV (rgK 97 100), .int .i64 0]) ∧ Below w.heap.size w w' := rrange_ 97 99 (by decide) (by decide) (by decide) w
set_option maxRecDepth 100000 in
set_option maxHeartbeats 8000000 in
theorem example_ (w : World) : Calls Tryd.prog 16 #[] w fun e w' => ∃ g, e = .returned (.slice (some ⟨g, 0, none⟩) 9 9) ∧ Below w.heap.size w w' ∧ Reads w' w'.heap.size 9 (some ⟨g, 0, none⟩) 9 (tks exT) := by
  have HR := Lib.hid range_ac
  have HA := Lib.hid rall_
  obtain ⟨fr, hfr⟩ : ∃ f, f = rgK 97 100 := ⟨_, rfl⟩
  obtain ⟨fa, hfa⟩ : ∃ f : Nat → Bool, f = fun _ => true := ⟨_, rfl⟩
  rw [← hfr] at HR
  rw [← hfa] at HA
  have HX := Lib.hid (show exT = [(1, 0, 0, 0, ⟨#[]⟩, fun _ => false), (3, 0, 0, 7, ⟨#[]⟩, fun _ => false), (4, 0, 0, 0, ⟨#[97, 32, 98]⟩, fun _ => false), (5, 0, 0, 0, ⟨#[120]⟩, fun _ => false), (6, 0, 0, 0, ⟨#[]⟩, fr), (6, 0, 0, 0, ⟨#[]⟩, fa), (2, 0, 0, 0, ⟨#[]⟩, fun _ => false), (3, 0, 0, 0, ⟨#[]⟩, fun _ => false), (3, 0, 0, 3, ⟨#[]⟩, fun _ => false)] by rw [hfr, hfa]; rfl)
  clear hfr hfa
  go_enter Tryd.func16, Tryd.ntmps16
  go_wp2_with fail
  (with_reducible refine (HR.out _).mono ?_); rintro e w1 ⟨rfl, hb1⟩
  have hT : E8 w w1.heap.size fr (w1.alloc (stO fr)) := E8.of (ba hb1 _) (alloc1_new _ _)
  clear hb1
  go_upto_region 2 with fail
  generalize w1.alloc (stO fr) = W1 at *
  generalize w1.heap.size = g1 at *
  go_region_held3 (fun w' => E8 w g1 fr w')
    (with_reducible (first | exact E8.drew hT | exact E8.go (by assumption) hb2 | exact E8.al (by assumption) _ | assumption))
    ((go_at_call 22; refine (HA.out _).mono ?_; rintro e w2 ⟨rfl, hb2⟩))
  obtain ⟨hB, _⟩ : E8 w g1 fr w2 := E8.go (E8.drew hT) hb2
  have HB := Lib.hid hB
  have hx : tks exT = [.int .i64 1, .int .i64 0, .int .i64 0, .int .i64 0, .string ⟨#[]⟩, .int .u64 0, .int .u64 0, .int .u64 0, .int .u64 0, .int .i64 3, .int .i64 0, .int .i64 0, .int .i64 7, .string ⟨#[]⟩, .int .u64 0, .int .u64 0, .int .u64 0, .int .u64 0,
      .int .i64 4, .int .i64 0, .int .i64 0, .int .i64 0, .string ⟨#[97, 32, 98]⟩, .int .u64 0, .int .u64 0, .int .u64 0, .int .u64 0, .int .i64 5, .int .i64 0, .int .i64 0, .int .i64 0, .string ⟨#[120]⟩, .int .u64 0, .int .u64 0, .int .u64 0, .int .u64 0,
      .int .i64 6, .int .i64 0, .int .i64 0, .int .i64 0, .string ⟨#[]⟩, .int .u64 ((wK fr 0 : Nat) : Int), .int .u64 ((wK fr 1 : Nat) : Int), .int .u64 ((wK fr 2 : Nat) : Int), .int .u64 ((wK fr 3 : Nat) : Int), .int .i64 6, .int .i64 0, .int .i64 0, .int .i64 0, .string ⟨#[]⟩, .int .u64 ((wK fa 0 : Nat) : Int), .int .u64 ((wK fa 1 : Nat) : Int), .int .u64 ((wK fa 2 : Nat) : Int), .int .u64 ((wK fa 3 : Nat) : Int),
      .int .i64 2, .int .i64 0, .int .i64 0, .int .i64 0, .string ⟨#[]⟩, .int .u64 0, .int .u64 0, .int .u64 0, .int .u64 0, .int .i64 3, .int .i64 0, .int .i64 0, .int .i64 0, .string ⟨#[]⟩, .int .u64 0, .int .u64 0, .int .u64 0, .int .u64 0, .int .i64 3, .int .i64 0, .int .i64 0, .int .i64 3, .string ⟨#[]⟩, .int .u64 0, .int .u64 0, .int .u64 0, .int .u64 0] := by
    rw [HX.out]
    unfold tks t9C
    simp only [List.flatMap_cons, List.flatMap_nil, wK_no]
    rfl
  have hrd := reads_blkN (size := 9) (n := 9) (t := 33) (cs := tks exT) (w := w2.alloc (.cells (tks exT).toArray 33)) (g := w2.heap.size) (alloc1_new _ _) rfl
  have HRd := Lib.hid hrd
  rw [hx] at HRd
  rw [← hx] at HRd
  clear hrd
  have HX2 := Lib.hid hx
  clear hx hT
  go_wp2
  go_ret
  refine ⟨w2.heap.size, rfl, ba HB.out _, ?_⟩
  have := HRd.out
  rw [HX2.out] at this ⊢
  exact this
end Go.Proofs.YtfleamgncodkpaaDoor
namespace Go.Proofs.YtfleamgncodkpaaDoor
open Go.RowKit
def txE : List UInt8 := [114, 117, 108, 101, 32, 55, 32, 34, 97, 32, 98, 34, 32, 105, 34, 120, 34, 32, 91, 97, 45, 99, 93, 32, 46, 32, 103, 97, 112, 32, 48, 32, 51]
theorem shE1 : (lineK txE).2 = (0, 0) := by decide +kernel
theorem shE2 : sameL false ((lineK txE).1.map t9) exT = true := by decide +kernel
theorem shE3 : prnL exT = (⟨txE.toArray⟩, 0, 0) := by decide +kernel
theorem shE4 : (lineK [49, 120]).2 = (1, 6) := by decide +kernel
theorem shE5 : (lineK [91, 97, 93, 98]).2 = (3, 6) := by decide +kernel
theorem shE6 : ((lineK txE).1.map t9).length = 9 := by decide +kernel
theorem ln_at (s : ByteArray) (hs : s.size ≤ 100000) (L : List UInt8) (hL : s.data.toList = L) (l : List Tok) (p er : Int) (h : Hid (∃ q : Nat, lineK L = (l, q, er) ∧ p = (q : Int))) (w : World) (hE : Esc w) (hM : ML w) :
    Calls Tryd.prog 14 #[.string s] w fun e w' => ∃ A c, e = .returned (.tuple #[.slice A l.length c, .int .i64 p, .int .i64 er]) ∧ Below w.heap.size w w' ∧ Reads w' w'.heap.size 9 A l.length (tks (l.map t9)) := by
  obtain ⟨q, hq, rfl⟩ := h.out
  rw [← hL] at hq
  refine (line_ s hs _ (Lib.hid hq) w hE hM).mono ?_
  rintro e w' ⟨A, c, he, hb, hr, _⟩
  exact ⟨A, c, he, hb, hr⟩
theorem pr_at (l : List T9) (n : Nat) (hn : l.length = n) (w : World) (A : Option Addr) (c : Nat) (hR : Reads w w.heap.size 9 A n (tks l)) (hcap : n ≤ 100000) (s : ByteArray) (p er : Int) (hr : Hid (∃ q : Nat, prnL l = (s, q, er) ∧ p = (q : Int))) (hW : LxW w) :
    Calls Tryd.prog 10 #[.slice A n c] w fun e w' => e = .returned (.tuple #[.string s, .int .i64 p, .int .i64 er]) ∧ Below w.heap.size w w' := by
  subst hn
  obtain ⟨q, hq, rfl⟩ := hr.out
  exact pprint_ l w A c hR hcap _ (Lib.hid hq) hW
theorem sm_at (p : Bool) (l m : List T9) (n k : Nat) (hn : l.length = n) (hk : m.length = k) (w : World) (A A' : Option Addr) (c c' : Nat) (hR : Reads w w.heap.size 9 A n (tks l)) (hR' : Reads w w.heap.size 9 A' k (tks m)) (h1 : n ≤ 100000) (h2 : k ≤ 100000) (b : Bool) (hb : Hid (sameL p l m = b)) :
    Calls Tryd.prog 15 #[.slice A n c, .slice A' k c', .bool p] w fun e w' => e = .returned (.bool b) ∧ Below w.heap.size w w' := by
  subst hn; subst hk
  exact same_ p l m w A A' c c' hR hR' h1 h2 b hb
set_option maxRecDepth 100000 in
set_option maxHeartbeats 8000000 in
theorem shown_ (w : World) (hW : LxW w) (hM : ML w) : Calls Tryd.prog 9 #[] w fun e w' => e = .returned (.bool true) ∧ Below w.heap.size w w' := by
  obtain ⟨l1, hl1⟩ : ∃ l, l = (lineK txE).1 := ⟨_, rfl⟩
  obtain ⟨l2, hl2⟩ : ∃ l, l = (lineK [49, 120]).1 := ⟨_, rfl⟩
  obtain ⟨l3, hl3⟩ : ∃ l, l = (lineK [91, 97, 93, 98]).1 := ⟨_, rfl⟩
  have H1 : Hid (∃ q : Nat, lineK txE = (l1, q, 0) ∧ (0 : Int) = (q : Int)) := Lib.hid ⟨0, Prod.ext hl1.symm shE1, rfl⟩
  have H2 : Hid (∃ q : Nat, lineK [49, 120] = (l2, q, 6) ∧ (1 : Int) = (q : Int)) := Lib.hid ⟨1, Prod.ext hl2.symm shE4, rfl⟩
  have H3 : Hid (∃ q : Nat, lineK [91, 97, 93, 98] = (l3, q, 6) ∧ (3 : Int) = (q : Int)) := Lib.hid ⟨3, Prod.ext hl3.symm shE5, rfl⟩
  have HS : Hid (sameL false (l1.map t9) exT = true) := Lib.hid (by rw [hl1]; exact shE2)
  have hln : l1.length ≤ 100000 := by
    have := shE6
    rw [← hl1, List.length_map] at this
    omega
  have HP : Hid (∃ q : Nat, prnL exT = (⟨txE.toArray⟩, q, 0) ∧ (0 : Int) = (q : Int)) := Lib.hid ⟨0, shE3, rfl⟩
  have HF0 := Lib.hid (Fr.start w)
  have HW := Lib.hid hW
  have HM := Lib.hid hM
  clear hl1 hl2 hl3 hW hM
  go_enter Tryd.func9, Tryd.ntmps9
  go_wp2_with fail
  (with_reducible refine (ln_at ⟨#[114, 117, 108, 101, 32, 55, 32, 34, 97, 32, 98, 34, 32, 105, 34, 120, 34, 32, 91, 97, 45, 99, 93, 32, 46, 32, 103, 97, 112, 32, 48, 32, 51]⟩ (by decide) txE rfl l1 0 0 H1 w HW.out.esc HM.out).mono ?_)
  rintro e w1 ⟨A1, c1, rfl, hb1, hr1⟩
  have HF1 := Lib.hid (HF0.out.go hb1)
  have HR1 := Lib.hid hr1
  clear hb1 hr1 HF0
  go_wp2_with fail
  (with_reducible refine (example_ _).mono ?_); rintro e w2 ⟨g2, rfl, hb2, hr2⟩
  have HF2 := Lib.hid (HF1.out.go hb2)
  have HR12 := Lib.hid (HR1.out.go hb2)
  have HR2 := Lib.hid hr2
  clear hb2 hr2 HF1 HR1
  go_wp2_with fail
  (with_reducible refine (pr_at exT 9 rfl _ (some ⟨g2, 0, none⟩) 9 HR2.out (by decide) _ 0 0 HP (HW.out.below HF2.out.bel)).mono ?_); rintro e w3 ⟨rfl, hb3⟩
  have HF3 := Lib.hid (HF2.out.go hb3)
  have HR13 := Lib.hid (HR12.out.go hb3)
  clear hb3 HF2 HR12 HR2
  go_wp2_with fail
  (with_reducible refine (ln_at ⟨#[49, 120]⟩ (by decide) [49, 120] rfl l2 1 6 H2 _ (HW.out.below HF3.out.bel).esc (HM.out.below HF3.out.bel)).mono ?_)
  rintro e w4 ⟨A4, c4, rfl, hb4, _⟩
  have HF4 := Lib.hid (HF3.out.go hb4)
  have HR14 := Lib.hid (HR13.out.go hb4)
  clear hb4 HF3 HR13
  go_wp2_with fail
  (with_reducible refine (ln_at ⟨#[91, 97, 93, 98]⟩ (by decide) [91, 97, 93, 98] rfl l3 3 6 H3 _ (HW.out.below HF4.out.bel).esc (HM.out.below HF4.out.bel)).mono ?_)
  rintro e w5 ⟨A5, c5, rfl, hb5, _⟩
  have HF5 := Lib.hid (HF4.out.go hb5)
  have HR15 := Lib.hid (HR14.out.go hb5)
  clear hb5 HF4 HR14
  go_wp2_with fail
  (with_reducible refine (example_ _).mono ?_); rintro e w6 ⟨g6, rfl, hb6, hr6⟩
  have HF6 := Lib.hid (HF5.out.go hb6)
  have HR16 := Lib.hid (HR15.out.go hb6)
  have HR6 := Lib.hid hr6
  clear hb6 hr6 HF5 HR15
  go_wp2_with fail
  (with_reducible refine (sm_at false (l1.map t9) exT l1.length 9 (List.length_map _) rfl _ A1 (some ⟨g6, 0, none⟩) c1 9 HR16.out HR6.out hln (by decide) true HS).mono ?_); rintro e w7 ⟨rfl, hb7⟩
  have HF7 := Lib.hid (HF6.out.go hb7)
  have e1 : ((⟨txE.toArray⟩ : ByteArray) == (⟨#[114, 117, 108, 101, 32, 55, 32, 34, 97, 32, 98, 34, 32, 105, 34, 120, 34, 32, 91, 97, 45, 99, 93, 32, 46, 32, 103, 97, 112, 32, 48, 32, 51]⟩ : ByteArray)) = true := by decide
  clear hb7 HF6
  go_wp2
  go_ret
  exact ⟨by rfl, HF7.out.bel⟩
end Go.Proofs.YtfleamgncodkpaaDoor
