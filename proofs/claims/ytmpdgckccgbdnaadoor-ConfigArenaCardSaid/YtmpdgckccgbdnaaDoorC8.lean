/- Cells and places, of the reference. -/
import Derived.Test.YtmpdgckccgbdnaaDoorC7
namespace Go.Proofs.YtmpdgckccgbdnaaDoor
open Go.RowKit
def celE (b k l s r : Int) (nm : ByteArray) (i : Int) : Int := if fndE b k l s r nm = 0 then (if i < 0 ∨ (fndX b k l s r nm).2.2 ≤ i then 7 else 0) else fndE b k l s r nm
def celI (b k l s r : Int) (nm : ByteArray) (i : Int) : Int := if celE b k l s r nm i = 0 then (fndX b k l s r nm).2.1 + i else 0
theorem fndX_bd (b k l s r : Int) (nm : ByteArray) : 0 ≤ (fndX b k l s r nm).2.2 ∧ (fndX b k l s r nm).2.2 ≤ 1024 ∧ 0 ≤ (fndX b k l s r nm).2.1 ∧ (fndX b k l s r nm).2.1 ≤ 3000 := by
  unfold fndX
  cases h : findR (layL b k l s r) nm with
  | none => simp [rg0]
  | some x =>
    have := (layL_bd b k l s r).2 x (List.mem_of_find?_eq_some h)
    simp only [Option.getD_some]
    omega
theorem fndE_bd (b k l s r : Int) (nm : ByteArray) : fndE b k l s r nm = 0 ∨ fndE b k l s r nm = 4 ∨ fndE b k l s r nm = 7 := by
  by_cases h : Ok2 b k l s r
  · cases hx : findR (lay s r (k + b * r)) nm with
    | none => exact .inr (.inl (fnd_none h hx).2)
    | some x => exact .inl (fnd_some h hx).2
  · exact .inr (.inr (fndE_no h nm))
theorem ret_tuple2 {j k : IntKind} {a b c d : Int} (h : a = c) (h' : b = d) : Ending.returned (.tuple #[.int j a, .int k b]) = .returned (.tuple #[.int j c, .int k d]) := by rw [h, h']
def FRel {α : Type} (l : List α) (p : α → Bool) (j : Nat) : Prop := l.find? p = (l.drop j).find? p
theorem FRel.step {α : Type} {l : List α} {p : α → Bool} {j : Nat} {x : α} (h : FRel l p j) (hd : Hid (l.drop j = x :: l.drop (j + 1))) (e : p x = false) : FRel l p (j + 1) := by
  unfold FRel at *
  rw [h, hd.out, List.find?_cons_of_neg (by simp [e])]
theorem FRel.hit {α : Type} {l : List α} {p : α → Bool} {j : Nat} {x : α} (h : FRel l p j) (hd : Hid (l.drop j = x :: l.drop (j + 1))) (e : p x = true) : l.find? p = some x := by
  unfold FRel at h
  rw [h, hd.out, List.find?_cons_of_pos e]
theorem FRel.done {α : Type} {l : List α} {p : α → Bool} {j : Nat} (h : FRel l p j) (hj : l.length ≤ j) : l.find? p = none := by
  unfold FRel at h
  rw [h, List.drop_eq_nil_of_le hj]; rfl
def holdsAt (at_ : Int) (x : Rg) : Bool := decide (x.2.1 ≤ at_) && decide (at_ < x.2.1 + x.2.2)
def whrR (b k l s r : Int) (at_ : Int) : Option Rg := (layL b k l s r).find? (holdsAt at_)
def whrN (b k l s r : Int) (at_ : Int) : ByteArray := match whrR b k l s r at_ with | some x => x.1 | none => ⟨#[]⟩
def whrI (b k l s r : Int) (at_ : Int) : Int := match whrR b k l s r at_ with | some x => at_ - x.2.1 | none => 0
def whrE (b k l s r : Int) (at_ : Int) : Int := if (whrR b k l s r at_).isSome then 0 else 7
abbrev whrV (b k l s r : Int) (at_ : Int) : Value := .tuple #[.string (whrN b k l s r at_), .int .i64 (whrI b k l s r at_), .int .i64 (whrE b k l s r at_)]
theorem whr_some {b k l s r at_ : Int} {x : Rg} (h : Ok2 b k l s r) (hx : (lay s r (k + b * r)).find? (holdsAt at_) = some x) : whrV b k l s r at_ = .tuple #[.string x.1, .int .i64 (at_ - x.2.1), .int .i64 0] := by
  have : whrR b k l s r at_ = some x := by unfold whrR; rw [layL_yes h]; exact hx
  simp [whrN, whrI, whrE, this]
theorem whr_none {b k l s r at_ : Int} (h : Ok2 b k l s r) (hx : (lay s r (k + b * r)).find? (holdsAt at_) = none) : whrV b k l s r at_ = .tuple #[.string ⟨#[]⟩, .int .i64 0, .int .i64 7] := by
  have : whrR b k l s r at_ = none := by unfold whrR; rw [layL_yes h]; exact hx
  simp [whrN, whrI, whrE, this]
theorem whr_no {b k l s r at_ : Int} (h : ¬ Ok2 b k l s r) : whrV b k l s r at_ = .tuple #[.string ⟨#[]⟩, .int .i64 0, .int .i64 7] := by
  have : whrR b k l s r at_ = none := by unfold whrR; rw [layL_no h]; rfl
  simp [whrN, whrI, whrE, this]
theorem ret_of {u v : Value} (h : u = v) : Ending.returned u = .returned v := by rw [h]
end Go.Proofs.YtmpdgckccgbdnaaDoor
