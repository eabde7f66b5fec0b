/- words: Join of the program. No condition. -/
import Derived.Test.YtaainkjgnljihaaGreatDoorN3
import Derived.Test.YtaainkjgnljihaaGreatDoorW1
import Derived.Lib.Join
namespace Go.Proofs.YtaainkjgnljihaaGreatDoor
open Go.RowKit
theorem strE : Elem Tryz.prog 56 9 (.string ⟨#[]⟩) 1 16 := ⟨Tryz.underlying56, by kernel_rfl, rfl, by decide⟩
abbrev Ss (l : List ByteArray) : List Value := l.map Value.string
theorem joinS_snoc (xs : List (List UInt8)) (y : List UInt8) : Lib.join (xs ++ [y]) [32] = if xs = [] then y else Lib.join xs [32] ++ ([32] ++ y) := by
  cases xs with
  | nil => simp [Lib.join_one]
  | cons x r =>
    rw [List.cons_append, Lib.join_cons, Lib.join_cons]
    simp [Lib.joinTail]
/-- the text of a field; a field that has none -/
def txF (f : Fd) : List UInt8 := if f.2 = true then quoteB f.1 else f.1
def badB (f : Fd) : Bool := !f.2 && !bareL f.1
def joinT (l : List Fd) : List UInt8 := Lib.join (l.map txF) [32]
def joinL (l : List Fd) : List UInt8 × Int :=
  if 64 < l.length then ([], 3) else if anyLong l = true then ([], 3) else if l.any badB = true then ([], 6) else if 8192 < (joinT l).length then ([], 3) else (joinT l, 0)
theorem joinT_nil : joinT [] = [] := rfl
theorem joinT_snoc (l : List Fd) (f : Fd) : joinT (l ++ [f]) = if l = [] then txF f else joinT l ++ ([32] ++ txF f) := by
  unfold joinT
  rw [List.map_append, List.map_cons, List.map_nil, joinS_snoc]
  simp
theorem quoteB_len (l : List UInt8) : (quoteB l).length ≤ 4 * l.length + 2 := by
  have h : (l.flatMap escB).length ≤ 4 * l.length := by
    induction l with
    | nil => simp
    | cons x r ih =>
      have := escB_len x
      simp only [List.flatMap_cons, List.length_append, List.length_cons]; omega
  unfold quoteB
  simp only [List.length_cons, List.length_append, List.length_nil]; omega
theorem txF_len (f : Fd) (n : Nat) (h : f.1.length ≤ n) : (txF f).length ≤ 4 * n + 2 := by
  unfold txF
  split
  · have := quoteB_len f.1; omega
  · omega
theorem joinT_len (l : List Fd) (n : Nat) (h : ∀ f ∈ l, f.1.length ≤ n) : (joinT l).length ≤ l.length * (4 * n + 3) := by
  unfold joinT
  cases l with
  | nil => simp [Lib.join_nil]
  | cons x r =>
    rw [List.map_cons, Lib.join_cons]
    have hx := txF_len x n (h x (by simp))
    have hr : ∀ r : List Fd, (∀ f ∈ r, f.1.length ≤ n) → (Lib.joinTail [32] (r.map txF)).length ≤ r.length * (4 * n + 3) := by
      intro r
      induction r with
      | nil => intro _; simp [Lib.joinTail]
      | cons y t ih =>
        intro hy
        have h1 := txF_len y n (hy y (by simp))
        have h2 := ih (fun f hf => hy f (by simp [hf]))
        simp only [Lib.joinTail, List.map_cons, List.flatten_cons, List.length_append, List.length_cons, List.length_nil] at h2 ⊢
        rw [Nat.succ_mul]
        omega
    have h3 := hr r (fun f hf => h f (by simp [hf]))
    simp only [List.length_append, List.length_cons]
    rw [Nat.succ_mul]
    omega
theorem not_long {l : List Fd} (h : anyLong l = false) : ∀ f ∈ l, f.1.length ≤ 2000 := by
  intro f hf
  have := List.any_eq_false.1 h f hf
  simpa using this
theorem joinL_many {l : List Fd} (h : 64 < l.length) : joinL l = ([], 3) := if_pos h
theorem joinL_long {l : List Fd} (h : ¬ 64 < l.length) (h2 : anyLong l = true) : joinL l = ([], 3) := by unfold joinL; rw [if_neg h, if_pos h2]
theorem joinL_bad {l : List Fd} (h : ¬ 64 < l.length) (h2 : anyLong l = false) (h3 : l.any badB = true) : joinL l = ([], 6) := by unfold joinL; rw [if_neg h, if_neg (by simp [h2]), if_pos h3]
theorem joinL_big {l : List Fd} (h : ¬ 64 < l.length) (h2 : anyLong l = false) (h3 : l.any badB = false) (h4 : 8192 < (joinT l).length) : joinL l = ([], 3) := by unfold joinL; rw [if_neg h, if_neg (by simp [h2]), if_neg (by simp [h3]), if_pos h4]
theorem joinL_ok {l : List Fd} (h : ¬ 64 < l.length) (h2 : anyLong l = false) (h3 : l.any badB = false) (h4 : ¬ 8192 < (joinT l).length) : joinL l = (joinT l, 0) := by unfold joinL; rw [if_neg h, if_neg (by simp [h2]), if_neg (by simp [h3]), if_neg h4]
theorem take_snocF {l : List Fd} {k : Nat} {f : Fd} (hd : l.drop k = f :: l.drop (k + 1)) : l.take (k + 1) = l.take k ++ [f] := take_of_drop hd
theorem any_take {p : Fd → Bool} {l : List Fd} {k : Nat} (h : (l.take k).any p = true) : l.any p = true := by
  rw [List.any_eq_true] at h ⊢
  obtain ⟨x, hx, hp⟩ := h
  exact ⟨x, List.mem_of_mem_take hx, hp⟩
def fmJ (b : Bool) : Int := if b = true then 6 else 0
abbrev fldO (F : ByteArray) (q : Bool) : Obj := .cells #[.string F, .bool q] 80 (0, 0)
end Go.Proofs.YtaainkjgnljihaaGreatDoor
