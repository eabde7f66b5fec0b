/- Traces: plain words on steps. No condition. -/
import Derived.Test.YtpgojecldmcopaaDoorFr
import Derived.Test.YtpgojecldmcopaaDoorCmp
import Derived.IntWalk
namespace Go.Proofs.YtpgojecldmcopaaDoor
open Go.RowKit
abbrev Ev := Int × Int
def eK (x : Ev) : Value := .int .i32 x.1
def eA (x : Ev) : Value := .int .i32 x.2
abbrev evs (l : List Ev) : List Value := flat2 eK eA l
def In32 (n : Int) : Prop := -2147483648 ≤ n ∧ n ≤ 2147483647
def Ok32 (l : List Ev) : Prop := ∀ x ∈ l, In32 x.1 ∧ In32 x.2
theorem mem_dropE {α : Type} {l : List α} {k : Nat} {x : α} (h : Hid (l.drop k = x :: l.drop (k + 1))) : x ∈ l := List.mem_of_mem_drop (i := k) (by rw [h.out]; exact List.mem_cons_self)
theorem evAt {w : World} {B k : Nat} {A : Option Addr} {l : List Ev} (h : Reads w B 2 A l.length (evs l)) (hk : k < l.length) :
    ∃ b off K a, A = some ⟨b, off, none⟩ ∧ b < B ∧ w.cell? ⟨b, off + k * 2, none⟩ = some (.int .i32 K) ∧ w.cell? ⟨b, off + k * 2 + 1, none⟩ = some (.int .i32 a) ∧
      Hid (l.drop k = (K, a) :: l.drop (k + 1)) := by
  obtain ⟨b, off, e, hb, c1, c2⟩ := h.at2 rfl hk
  exact ⟨b, off, _, _, e, hb, c1, c2, List.drop_eq_getElem_cons hk⟩
theorem evs_one (l : List Ev) : ∀ u ∈ evs l, u.oneCell' = true := flat2_one l (fun _ => rfl) (fun _ => rfl)
theorem wrap_i32 {n : Int} (h : In32 n) : IntKind.i64.wrap n = n := IntWalk.i64_in _ (by obtain ⟨h1, h2⟩ := h; omega)
/-! Check -/
def goodE (cells : Int) (x : Ev) : Int := if x.1 = 1 ∨ x.1 = 2 then (if x.2 < 0 ∨ cells ≤ x.2 then 7 else 0) else 2
def chkF (cells : Int) (i : Nat) : List Ev → Int × Int
  | [] => (0, 0)
  | x :: r => if goodE cells x = 0 then chkF cells (i + 1) r else (i, goodE cells x)
def chkT (l : List Ev) (cells : Int) : Int × Int := if cells < 1 ∨ 65536 < cells then (-1, 7) else if 8388608 < l.length then (-1, 3) else chkF cells 0 l
def ChkRel (cells : Int) (l : List Ev) (k : Nat) : Prop := chkF cells k (l.drop k) = chkF cells 0 l
theorem ChkRel.start (cells : Int) (l : List Ev) : ChkRel cells l 0 := rfl
theorem ChkRel.step {cells : Int} {l : List Ev} {k : Nat} {x : Ev} (h : ChkRel cells l k) (hd : Hid (l.drop k = x :: l.drop (k + 1))) (e : goodE cells x = 0) : ChkRel cells l (k + 1) := by
  unfold ChkRel at *
  rw [hd.out, chkF, if_pos e] at h
  exact h
theorem ChkRel.stop {cells : Int} {l : List Ev} {k : Nat} {x : Ev} {n : Int} (h : ChkRel cells l k) (hd : Hid (l.drop k = x :: l.drop (k + 1))) (e : goodE cells x = n) (hn : n ≠ 0) : chkF cells 0 l = ((k : Int), n) := by
  unfold ChkRel at h
  rw [hd.out, chkF, if_neg (by rw [e]; exact hn), e] at h
  exact h.symm
theorem ChkRel.done {cells : Int} {l : List Ev} {k : Nat} (h : ChkRel cells l k) (hk : l.length ≤ k) : chkF cells 0 l = (0, 0) := by
  unfold ChkRel at h
  rw [List.drop_eq_nil_of_le hk] at h
  exact h.symm
/-! Differ -/
def difF (i : Nat) : List Ev → List Ev → Int
  | [], [] => -1
  | [], _ :: _ => i
  | _ :: _, [] => i
  | x :: a, y :: b => if x = y then difF (i + 1) a b else i
def dif (a b : List Ev) : Int := difF 0 a b
def DifRel (a b : List Ev) (k : Nat) : Prop := difF k (a.drop k) (b.drop k) = dif a b
theorem DifRel.start (a b : List Ev) : DifRel a b 0 := rfl
theorem DifRel.step {a b : List Ev} {k : Nat} {x y : Ev} (h : DifRel a b k) (hd : Hid (a.drop k = x :: a.drop (k + 1))) (hd' : Hid (b.drop k = y :: b.drop (k + 1))) (e : x = y) : DifRel a b (k + 1) := by
  unfold DifRel at *
  rw [hd.out, hd'.out, difF, if_pos e] at h
  exact h
theorem DifRel.stop {a b : List Ev} {k : Nat} {x y : Ev} (h : DifRel a b k) (hd : Hid (a.drop k = x :: a.drop (k + 1))) (hd' : Hid (b.drop k = y :: b.drop (k + 1))) (e : x ≠ y) : dif a b = k := by
  unfold DifRel at h
  rw [hd.out, hd'.out, difF, if_neg e] at h
  exact h.symm
theorem DifRel.same {a b : List Ev} {k : Nat} (h : DifRel a b k) (h1 : a.length ≤ k) (h2 : b.length ≤ k) : dif a b = -1 := by
  unfold DifRel at h
  rw [List.drop_eq_nil_of_le h1, List.drop_eq_nil_of_le h2] at h
  exact h.symm
theorem DifRel.left {a b : List Ev} {k : Nat} (h : DifRel a b k) (h1 : a.length ≤ k) (h2 : k < b.length) : dif a b = k := by
  unfold DifRel at h
  rw [List.drop_eq_nil_of_le h1, List.drop_eq_getElem_cons h2] at h
  exact h.symm
theorem DifRel.right {a b : List Ev} {k : Nat} (h : DifRel a b k) (h1 : k < a.length) (h2 : b.length ≤ k) : dif a b = k := by
  unfold DifRel at h
  rw [List.drop_eq_nil_of_le h2, List.drop_eq_getElem_cons h1] at h
  exact h.symm
/-! Count -/
def badK (kind : Int) : Prop := kind ≠ 1 ∧ kind ≠ 2
instance (kind : Int) : Decidable (badK kind) := inferInstanceAs (Decidable (_ ∧ _))
def cntN (kind : Int) (l : List Ev) : Nat := l.countP fun x => decide (x.1 = kind)
def cntT (l : List Ev) (kind : Int) : Int × Int := if badK kind then (0, 2) else (cntN kind l, 0)
theorem cntN_le (kind : Int) (l : List Ev) (k : Nat) : cntN kind (l.take k) ≤ l.length := Nat.le_trans (List.countP_le_length ..) (by rw [List.length_take]; omega)
theorem cntN_step {kind : Int} {l : List Ev} {k : Nat} {x : Ev} (hd : Hid (l.drop k = x :: l.drop (k + 1))) : cntN kind (l.take (k + 1)) = cntN kind (l.take k) + (if x.1 = kind then 1 else 0) := by
  unfold cntN
  rw [take_of_drop hd.out, List.countP_append, List.countP_singleton]
  by_cases h : x.1 = kind <;> simp [h]
/-! Cut -/
def cutB (l : List Ev) (a b : Int) : Prop := a < 0 ∨ b < a ∨ (l.length : Int) < b
instance (l : List Ev) (a b : Int) : Decidable (cutB l a b) := inferInstanceAs (Decidable (_ ∨ _ ∨ _))
def cutL (l : List Ev) (a b : Int) : List Ev := if cutB l a b then [] else (l.drop a.toNat).take (b.toNat - a.toNat)
def cutE (l : List Ev) (a b : Int) : Int := if cutB l a b then 7 else 0
end Go.Proofs.YtpgojecldmcopaaDoor
