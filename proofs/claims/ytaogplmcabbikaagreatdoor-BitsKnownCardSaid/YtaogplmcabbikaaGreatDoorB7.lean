/- Rows of bits: And, Or and Not of the reference. -/
import Derived.Test.YtaogplmcabbikaaGreatDoorB6
namespace Go.Proofs.YtaogplmcabbikaaGreatDoor
open Go.RowKit
def twoE (n m : Nat) : Int := if chkB n ≠ 0 then chkB n else if chkB m ≠ 0 then chkB m else if n ≠ m then 6 else 0
theorem twoE_ok {n m : Nat} (h : twoE n m = 0) : chkB n = 0 ∧ n = m := by
  unfold twoE at h
  by_cases h1 : chkB n ≠ 0
  · rw [if_pos h1] at h; exact absurd h h1
  rw [if_neg h1] at h
  by_cases h2 : chkB m ≠ 0
  · rw [if_pos h2] at h; exact absurd h h2
  rw [if_neg h2] at h
  by_cases h3 : n ≠ m
  · rw [if_pos h3] at h; cases h
  · exact ⟨by simpa using h1, by simpa using h3⟩
def andL (l m : List Nat) : List Nat := if twoE l.length m.length = 0 then rowOf l.length (fun i => rbit l i && rbit m i) else []
def orL (l m : List Nat) : List Nat := if twoE l.length m.length = 0 then rowOf l.length (fun i => rbit l i || rbit m i) else []
def notL (l : List Nat) : List Nat := if chkB l.length = 0 then rowOf l.length (fun i => !rbit l i) else []
theorem RowAt.ret {w w' : World} {l : List Nat} {n : Nat} {f : Nat → Bool} {m : List Nat} {A : Option Addr} {c : Nat} (h : RowAt w n (64 * n) f m A c w') (hl : l = rowOf n f) : RetSl w 1 (u64s l) l.length 0 (.returned (.tuple #[.slice A n c, .int .i64 0])) w' := by
  have := h.up.done
  subst hl
  rw [this] at h
  exact ⟨A, c, by rw [rowOf_len], h.bel, by rw [rowOf_len]; exact h.rd, by rw [rowOf_len]; exact h.cap.1, h.cap.2⟩
theorem RowAt.zero (w : World) (n : Nat) (hn : n ≤ 100) (f : Nat → Bool) : RowAt w n 0 f (List.replicate n 0) (some ⟨w.heap.size, 0, none⟩) n (w.alloc (.cells (madeCells #[.int .u64 0] n) 37)) :=
  ⟨ba (Below.refl _ _) _, zeros_rd w n, ⟨Nat.le_refl _, by omega⟩, Upto.start n f⟩
end Go.Proofs.YtaogplmcabbikaaGreatDoor
