/- Rows of bits: Shift and Back of the reference. -/
import Derived.Test.YtaogplmcabbikaaGreatDoorB3
namespace Go.Proofs.YtaogplmcabbikaaGreatDoor
open Go.RowKit
theorem zeros_made (z : Value) (n : Nat) : madeCells #[z] n = (List.replicate n z).toArray := by
  apply Array.ext
  · simp [madeCells]
  · intro i h1 h2
    simp [madeCells, Nat.mod_one]
def shL (l : List Nat) (v : Bool) : List Nat := if chkB l.length = 0 then rowOf l.length (fun i => if i = 0 then v else rbit l (i - 1)) else []
def shO (l : List Nat) : Bool := if chkB l.length = 0 then rbit l (64 * l.length - 1) else false
def bkL (l : List Nat) (v : Bool) : List Nat := if chkB l.length = 0 then rowOf l.length (fun i => if i = 64 * l.length - 1 then v else rbit l (i + 1)) else []
def bkO (l : List Nat) : Bool := if chkB l.length = 0 then rbit l 0 else false
/-- what comes back: a row, a bit, an error -/
def RetSh (w : World) (l : List Nat) (b : Bool) (er : Int) (e : Ending) (w' : World) : Prop :=
  ∃ A c, e = .returned (.tuple #[.slice A l.length c, .bool b, .int .i64 er]) ∧ Below w.heap.size w w' ∧ Reads w' w'.heap.size 1 A l.length (u64s l) ∧ l.length ≤ c ∧ c ≤ 9223372036854775807
theorem RetSh.no {w w' : World} {l : List Nat} {b : Bool} {er : Int} (hb : Below w.heap.size w w') (hl : l = []) (hbb : b = false) : RetSh w l b er (.returned (.tuple #[.slice none 0 0, .bool false, .int .i64 er])) w' := by
  subst hl hbb
  exact ⟨none, 0, rfl, hb, Reads.none_, Nat.le_refl _, by omega⟩
theorem zeros_w (n : Nat) : W64 (List.replicate n 0) := fun x hx => by rw [(List.mem_replicate.1 hx).2]; omega
theorem zeros_bit (n i : Nat) : rbit (List.replicate n 0) i = false := by
  unfold rbit
  have : (List.replicate n 0).getD (i / 64) 0 = 0 := by
    rw [List.getD_eq_getElem?_getD, List.getElem?_replicate]
    split <;> rfl
  rw [this, Nat.zero_testBit]
/-- a row whose first bits are set -/
structure Upto (n i : Nat) (f : Nat → Bool) (m : List Nat) : Prop where
  len : m.length = n
  w : W64 m
  bit : ∀ j, j < 64 * n → rbit m j = if j < i then f j else false
theorem Upto.start (n : Nat) (f : Nat → Bool) : Upto n 0 f (List.replicate n 0) := ⟨by simp, zeros_w n, fun j _ => by rw [zeros_bit, if_neg (by omega)]⟩
theorem Upto.step {n i : Nat} {f : Nat → Bool} {m : List Nat} (h : Upto n i f m) (hi : i < 64 * n) : Upto n (i + 1) f (setB m i (f i)) := by
  refine ⟨by rw [setB_len, h.len], setB_w h.w i _ (by rw [h.len]; exact hi), fun j hj => ?_⟩
  rw [setB_bit (by rw [h.len]; exact hi), h.bit j hj]
  by_cases e : j = i
  · rw [if_pos e, if_pos (by omega), e]
  · rw [if_neg e]
    by_cases e2 : j < i
    · rw [if_pos e2, if_pos (by omega)]
    · rw [if_neg e2, if_neg (by omega)]
theorem Upto.done {n : Nat} {f : Nat → Bool} {m : List Nat} (h : Upto n (64 * n) f m) : m = rowOf n f :=
  row_eq h.w h.len fun i hi => by rw [h.bit i hi, if_pos hi]
theorem mk64 (n : Nat) (hn : n ≤ 100) (W : World) : (Instr.makeSlice 22 (.int .i64 (n : Int)) (.int .i64 (n : Int))).run Tryz.prog W = .ok (.slice (some ⟨W.heap.size, 0, none⟩) n n) (W.alloc (.cells (madeCells #[.int .u64 0] n) 37)) :=
  run_mk1 u64El rfl .i64 .i64 n n (Nat.le_refl _) (by omega) (by omega) W
theorem zeros_rd (w : World) (n : Nat) : Reads (w.alloc (.cells (madeCells #[.int .u64 0] n) 37)) (w.alloc (.cells (madeCells #[.int .u64 0] n) 37)).heap.size 1 (some ⟨w.heap.size, 0, none⟩) n (u64s (List.replicate n 0)) := by
  refine reads_blkN (t := 37) ?_ (by simp)
  rw [zeros_made, show u64s (List.replicate n 0) = List.replicate n (.int .u64 0) by simp [u64s, u64V]]
  exact alloc1_new _ _
/-- the row of a loop -/
structure RowAt (w : World) (n j : Nat) (f : Nat → Bool) (m : List Nat) (A : Option Addr) (c : Nat) (w' : World) : Prop where
  bel : Below w.heap.size w w'
  rd : Reads w' w'.heap.size 1 A n (u64s m)
  cap : n ≤ c ∧ c ≤ 9223372036854775807
  up : Upto n j f m
/-- a row that comes back from with -/
theorem RowAt.of {w w1 w2 : World} {n j : Nat} {f : Nat → Bool} {m : List Nat} {A A' : Option Addr} {c c' : Nat} (h : RowAt w n j f m A c w1) (hj : j < 64 * n) (ho : w2.ownsRow w1.heap.size 37 1 (.slice A' (setB m j (f j)).length c') (setB m j (f j)).length (u64s (setB m j (f j)))) (hb : Below w1.heap.size w1 w2) :
    RowAt w n (j + 1) f (setB m j (f j)) A' c' w2 := by
  have hU := h.up.step hj
  obtain ⟨_, _, he, hr1, hc1, hm1⟩ := own_sl ho
  injection he with e1 e2 e3
  subst e1 e3
  rw [hU.len] at hr1 hc1
  exact ⟨bt h.bel hb, hr1, ⟨hc1, hm1⟩, hU⟩
/-- a row whose last bit and whose first bits are set -/
structure UptoB (n i : Nat) (f : Nat → Bool) (m : List Nat) : Prop where
  len : m.length = n
  w : W64 m
  bit : ∀ j, j < 64 * n → rbit m j = if j < i ∨ j = 64 * n - 1 then f j else false
theorem UptoB.start (n : Nat) (f : Nat → Bool) (hn : 1 ≤ n) : UptoB n 0 f (setB (List.replicate n 0) (64 * n - 1) (f (64 * n - 1))) := by
  refine ⟨by rw [setB_len]; simp, setB_w (zeros_w n) _ _ (by simp; omega), fun j hj => ?_⟩
  rw [setB_bit (by simp; omega), zeros_bit]
  by_cases e : j = 64 * n - 1
  · rw [if_pos e, if_pos (.inr e), e]
  · rw [if_neg e, if_neg (by omega)]
theorem UptoB.step {n i : Nat} {f : Nat → Bool} {m : List Nat} (h : UptoB n i f m) (hi : i < 64 * n) : UptoB n (i + 1) f (setB m i (f i)) := by
  refine ⟨by rw [setB_len, h.len], setB_w h.w i _ (by rw [h.len]; exact hi), fun j hj => ?_⟩
  rw [setB_bit (by rw [h.len]; exact hi), h.bit j hj]
  by_cases e : j = i
  · rw [if_pos e, if_pos (.inl (by omega)), e]
  · rw [if_neg e]
    by_cases e2 : j < i ∨ j = 64 * n - 1
    · rw [if_pos e2, if_pos (by omega)]
    · rw [if_neg e2, if_neg (by omega)]
theorem UptoB.done {n : Nat} {f : Nat → Bool} {m : List Nat} (h : UptoB n (64 * n - 1) f m) : m = rowOf n f :=
  row_eq h.w h.len fun i hi => by rw [h.bit i hi, if_pos (by omega)]
structure RowAtB (w : World) (n j : Nat) (f : Nat → Bool) (m : List Nat) (A : Option Addr) (c : Nat) (w' : World) : Prop where
  bel : Below w.heap.size w w'
  rd : Reads w' w'.heap.size 1 A n (u64s m)
  cap : n ≤ c ∧ c ≤ 9223372036854775807
  up : UptoB n j f m
theorem RowAtB.of {w w1 w2 : World} {n j : Nat} {f : Nat → Bool} {m : List Nat} {A A' : Option Addr} {c c' : Nat} (h : RowAtB w n j f m A c w1) (hj : j < 64 * n) (ho : w2.ownsRow w1.heap.size 37 1 (.slice A' (setB m j (f j)).length c') (setB m j (f j)).length (u64s (setB m j (f j)))) (hb : Below w1.heap.size w1 w2) :
    RowAtB w n (j + 1) f (setB m j (f j)) A' c' w2 := by
  have hU := h.up.step hj
  obtain ⟨_, _, he, hr1, hc1, hm1⟩ := own_sl ho
  injection he with e1 e2 e3
  subst e1 e3
  rw [hU.len] at hr1 hc1
  exact ⟨bt h.bel hb, hr1, ⟨hc1, hm1⟩, hU⟩
end Go.Proofs.YtaogplmcabbikaaGreatDoor
