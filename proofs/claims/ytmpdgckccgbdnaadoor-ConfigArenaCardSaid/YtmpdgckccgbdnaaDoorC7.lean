/- The cells needed; the search. -/
import Derived.Test.YtmpdgckccgbdnaaDoorC6
namespace Go.Proofs.YtmpdgckccgbdnaaDoor
open Go.RowKit
def sumS : List Rg → Int
  | [] => 0
  | x :: r => x.2.2 + sumS r
theorem sumS_take {l : List Rg} {j : Nat} {s : ByteArray} {B S : Int} (h : Hid (l.drop j = (s, B, S) :: l.drop (j + 1))) : sumS (l.take (j + 1)) = sumS (l.take j) + S := by
  rw [take_of_drop h.out]
  generalize l.take j = m
  induction m with
  | nil => simp [sumS]
  | cons x r ih => simp [sumS, ih]; omega
theorem mem_drop {α : Type} {l : List α} {j : Nat} {x : α} (h : Hid (l.drop j = x :: l.drop (j + 1))) : x ∈ l := List.mem_of_mem_drop (by rw [h.out]; exact List.mem_cons_self)
/-- bounds of the regions -/
def RgB (l : List Rg) : Prop := l.length ≤ 9 ∧ ∀ x ∈ l, 1 ≤ x.2.2 ∧ x.2.2 ≤ 1024 ∧ 0 ≤ x.2.1 ∧ x.2.1 ≤ 3000
theorem layL_bd (b k l s r : Int) : RgB (layL b k l s r) := by
  by_cases h : Ok2 b k l s r
  · rw [layL_yes h]
    obtain ⟨⟨hb, hk1, hk2, hl1, hl2⟩, hs1, hs2, hr1, hr2⟩ := h
    have hbr : 0 ≤ b * r ∧ b * r ≤ 256 := by rcases hb with rfl | rfl | rfl | rfl | rfl <;> omega
    have hrs : 1 ≤ r * s ∧ r * s ≤ 64 := by rcases (show s = 1 ∨ s = 2 ∨ s = 3 ∨ s = 4 by omega) with rfl | rfl | rfl | rfl <;> omega
    refine ⟨by simp [lay_len], ?_⟩
    simp only [lay, List.mem_cons, List.not_mem_nil, or_false]
    rintro x (rfl | rfl | rfl | rfl | rfl | rfl | rfl | rfl | rfl) <;> simp only <;> omega
  · rw [layL_no h]; exact ⟨by simp, fun x hx => by cases hx⟩
theorem sumS_bd {l : List Rg} (h : RgB l) (j : Nat) : 0 ≤ sumS (l.take j) ∧ sumS (l.take j) ≤ 9216 := by
  have key : ∀ m : List Rg, (∀ x ∈ m, 1 ≤ x.2.2 ∧ x.2.2 ≤ 1024) → 0 ≤ sumS m ∧ sumS m ≤ 1024 * m.length := by
    intro m
    induction m with
    | nil => intro _; simp [sumS]
    | cons x r ih =>
      intro hm
      have h1 := hm x (by simp)
      have h2 := ih fun y hy => hm y (by simp [hy])
      simp [sumS]; omega
  have := key (l.take j) (fun x hx => ⟨(h.2 x (List.mem_of_mem_take hx)).1, (h.2 x (List.mem_of_mem_take hx)).2.1⟩)
  have h1 := h.1
  have h2 : (l.take j).length ≤ 9 := by rw [List.length_take]; omega
  omega
def needI (b k l s r : Int) : Int := sumS (layL b k l s r)
theorem sum_lay (s r n : Int) : sumS (lay s r n) = (256 * s + s + r * s + s + s + r + 3 * n + n) + 4 := by simp only [lay, sumS]; omega
set_option maxRecDepth 100000 in
set_option maxHeartbeats 1000000 in
theorem cneed (b k l s r : Int) (w : World) :
    Calls Tryd.prog 5 #[cfV b k l, csV s r] w fun e w' => e = .returned (.tuple #[.int .i64 (needI b k l s r), .int .i64 (err2 b k l s r)]) ∧ Below w.heap.size w w' := by
  by_cases h : Ok2 b k l s r
  · have hbd := layL_bd b k l s r
    rw [layL_yes h] at hbd
    have hb8 := hbd.2 ((⟨#[102, 108, 97, 103, 115]⟩ : ByteArray), 256 * s + s + r * s + s + s + r + 3 * (k + b * r) + (k + b * r), (4 : Int)) (by simp [lay])
    obtain ⟨_, _, x1, x2⟩ := hb8
    simp only at x1 x2
    have Hk := Lib.hid h
    have HL := Lib.hid (show needI b k l s r = sumS (lay s r (k + b * r)) by unfold needI; rw [layL_yes h])
    have HE := Lib.hid (err2_yes h)
    clear h hbd
    generalize hn : k + b * r = n at *
    have Hn := Lib.hid hn
    clear hn
    have HS := Lib.hid (sum_lay s r n)
    generalize hz : 256 * s + s + r * s + s + s + r + 3 * n + n = z at *
    have Hz := Lib.hid hz
    clear hz
    go_enter Tryd.func5, Tryd.ntmps5
    go_wp2_with fail
    (with_reducible refine (layout_yes b k l s r Hk.out _).mono ?_); rintro e w1 ⟨A, c, rfl, hb1, hr1, _, _⟩
    have hB := bt (ba (ba (Below.refl _ _) _) _) hb1
    clear hb1
    rw [Hn.out] at hr1
    obtain ⟨b', off, rfl, hb', hc⟩ := hr1.2 (by omega)
    have c0 : w1.cell? ⟨b', off + 24, none⟩ = some (.string ⟨#[102, 108, 97, 103, 115]⟩) := hc 24 _ rfl
    have c1 : w1.cell? ⟨b', off + 24 + 1, none⟩ = some (.int .i64 z) := by rw [← Hz.out]; exact hc 25 _ rfl
    have c2 : w1.cell? ⟨b', off + 24 + 2, none⟩ = some (.int .i64 4) := hc 26 _ rfl
    clear hc hr1
    go_wp2
    go_ret2
    exact ⟨by rw [HL.out, HS.out, HE.out]; rfl, ba hB _⟩
  · have HE := Lib.hid (err2_no h)
    have HL := Lib.hid (show needI b k l s r = 0 by unfold needI; rw [layL_no h]; rfl)
    have Hk := Lib.hid h
    clear h
    go_enter Tryd.func5, Tryd.ntmps5
    go_wp2_with fail
    (with_reducible refine (layout_no b k l s r Hk.out _).mono ?_); rintro e w1 ⟨A, c, rfl, hb1, hr1, _, _⟩
    have hB := bt (ba (ba (Below.refl _ _) _) _) hb1
    clear hb1
    go_wp2
    go_ret2
    exact ⟨by rw [HL.out, HE.out]; rfl, hB⟩
/-- the search: the region of this name -/
def findR (l : List Rg) (nm : ByteArray) : Option Rg := l.find? fun x => decide (x.1 = nm)
def rg0 : Rg := (⟨#[]⟩, 0, 0)
abbrev rgV (x : Rg) : Value := .agg #[.string x.1, .int .i64 x.2.1, .int .i64 x.2.2]
def fndX (b k l s r : Int) (nm : ByteArray) : Rg := (findR (layL b k l s r) nm).getD rg0
def fndE (b k l s r : Int) (nm : ByteArray) : Int := if err2 b k l s r = 0 then (if (findR (layL b k l s r) nm).isSome then 0 else 4) else err2 b k l s r
theorem fndX_no {b k l s r : Int} (h : ¬ Ok2 b k l s r) (nm : ByteArray) : fndX b k l s r nm = rg0 := by unfold fndX; rw [layL_no h]; rfl
theorem fndE_no {b k l s r : Int} (h : ¬ Ok2 b k l s r) (nm : ByteArray) : fndE b k l s r nm = 7 := by unfold fndE; rw [err2_no h]; rfl
theorem fnd_some {b k l s r : Int} (h : Ok2 b k l s r) {nm : ByteArray} {x : Rg} (hx : findR (lay s r (k + b * r)) nm = some x) : fndX b k l s r nm = x ∧ fndE b k l s r nm = 0 := by
  unfold fndX fndE; rw [layL_yes h, err2_yes h, hx]; exact ⟨rfl, rfl⟩
theorem fnd_none {b k l s r : Int} (h : Ok2 b k l s r) {nm : ByteArray} (hx : findR (lay s r (k + b * r)) nm = none) : fndX b k l s r nm = rg0 ∧ fndE b k l s r nm = 4 := by
  unfold fndX fndE; rw [layL_yes h, err2_yes h, hx]; exact ⟨rfl, rfl⟩
def FndRel (l : List Rg) (nm : ByteArray) (j : Nat) : Prop := findR l nm = findR (l.drop j) nm
theorem FndRel.step {l : List Rg} {nm : ByteArray} {j : Nat} {x : Rg} (h : FndRel l nm j) (hd : Hid (l.drop j = x :: l.drop (j + 1))) (e : x.1 ≠ nm) : FndRel l nm (j + 1) := by
  unfold FndRel at *
  rw [h, hd.out, findR, List.find?_cons_of_neg (by simpa using e)]
  rfl
theorem FndRel.hit {l : List Rg} {nm : ByteArray} {j : Nat} {x : Rg} (h : FndRel l nm j) (hd : Hid (l.drop j = x :: l.drop (j + 1))) (e : x.1 = nm) : findR l nm = some x := by
  unfold FndRel at h
  rw [h, hd.out, findR, List.find?_cons_of_pos (by simpa using e)]
theorem FndRel.done {l : List Rg} {nm : ByteArray} {j : Nat} (h : FndRel l nm j) (hj : l.length ≤ j) : findR l nm = none := by
  unfold FndRel at h
  rw [h, List.drop_eq_nil_of_le hj]; rfl
abbrev rgO0 : Obj := .cells #[.string ⟨#[]⟩, .int .i64 0, .int .i64 0] 38 (0, 0)
theorem frBox3 (w : World) (b k l s r : Int) (o : Obj) : Fr w [(w.heap.size + 1 + 1, o), (w.heap.size + 1, csO s r), (w.heap.size, cfO b k l)] (((w.alloc (cfO b k l)).alloc (csO s r)).alloc o) :=
  (((Fr.start w).newN rfl (cfO b k l)).newN (by simp) (csO s r)).newN (by simp) o
end Go.Proofs.YtmpdgckccgbdnaaDoor
