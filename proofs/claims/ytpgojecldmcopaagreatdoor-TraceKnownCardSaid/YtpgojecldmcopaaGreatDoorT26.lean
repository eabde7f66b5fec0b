/- Traces: Print in every case; Print of the reference. No condition. -/
import Derived.Test.YtpgojecldmcopaaGreatDoorT25
import Derived.Test.YtpgojecldmcopaaGreatDoorT1
namespace Go.Proofs.YtpgojecldmcopaaGreatDoor
open Go.RowKit
theorem chkF_zero (n : Int) : ∀ (l : List Ev) (i : Nat), (chkF n i l).2 = 0 → chkF n i l = (0, 0)
  | [], _, _ => rfl
  | x :: t, i, h => by
    unfold chkF at h ⊢
    by_cases hg : goodE n x = 0
    · rw [if_pos hg] at h ⊢; exact chkF_zero n t _ h
    · rw [if_neg hg] at h; exact absurd h hg
theorem chkT_zero {l : List Ev} {n : Int} (h : (chkT l n).2 = 0) : chkT l n = (0, 0) := by
  unfold chkT at h ⊢
  split at h
  · cases h
  rename_i h1
  rw [if_neg h1]
  split at h
  · cases h
  rename_i h2
  rw [if_neg h2]
  exact chkF_zero n l 0 h
def prE (l : List Ev) : Int := if (chkT l 65536).2 ≠ 0 then (chkT l 65536).2 else if 5000 < (runsT l).length then 3 else 0
def prS (l : List Ev) : ByteArray := if prE l = 0 then ⟨(prT l).toArray⟩ else ⟨#[]⟩
theorem prE_bad {l : List Ev} (h : (chkT l 65536).2 ≠ 0) : prE l = (chkT l 65536).2 ∧ prS l = ⟨#[]⟩ := by
  have h1 : prE l = (chkT l 65536).2 := by unfold prE; rw [if_pos h]
  exact ⟨h1, by unfold prS; rw [h1, if_neg h]⟩
theorem prE_many {l : List Ev} (h : (chkT l 65536).2 = 0) (h2 : 5000 < (runsT l).length) : prE l = 3 ∧ prS l = ⟨#[]⟩ := by
  have h1 : prE l = 3 := by unfold prE; rw [if_neg (by simpa using h), if_pos h2]
  exact ⟨h1, by unfold prS; rw [h1]; rfl⟩
theorem prE_ok {l : List Ev} (h : (chkT l 65536).2 = 0) (h2 : ¬ 5000 < (runsT l).length) : prE l = 0 ∧ prS l = ⟨(prT l).toArray⟩ := by
  have h1 : prE l = 0 := by unfold prE; rw [if_neg (by simpa using h), if_neg h2]
  exact ⟨h1, by unfold prS; rw [h1]; rfl⟩
abbrev eO (e : Int) : Obj := .cells #[.int .i64 e] 25 (0, 0)
set_option maxRecDepth 100000 in
set_option maxHeartbeats 1000000 in
theorem print_bad (w : World) (A : Option Addr) (c : Nat) (l : List Ev) (h : Reads w w.heap.size 2 A l.length (evs l)) (ho : Ok32 l) (hl : l.length ≤ 9223372036854775807) (hck : (chkT l 65536).2 ≠ 0) :
    Calls Tryz.prog 8 #[.slice A l.length c] w fun e w' => e = .returned (.tuple #[.string ⟨#[]⟩, .int .i64 (chkT l 65536).2]) ∧ Below w.heap.size w w' := by
  have hch := check_ ((w.alloc s0O).alloc e0O) A c l ((h.al _).al _) ho hl 65536
  generalize chkT l 65536 = q at *
  obtain ⟨pl, er⟩ := q
  simp only at hch hck ⊢
  have Hch := Lib.hid hch
  have x1 : (er != 0) = true := by simpa using hck
  clear h ho hl hck hch
  refine (callsIn_wide (n := 4)).1 ?_
  refine callsIn_of_wp_marks Tryz.func8 rfl trivial ?_ rfl
  simp only [Tryz.ntmps8, List.size_toArray, List.length_cons, List.length_nil, Nat.reduceAdd, Nat.reduceSub, Array.replicate_succ, Array.replicate_zero, List.push_toArray, List.append_toArray, List.nil_append, List.cons_append]
  gi_wp2_with (refine ⟨trivial, ?_⟩; gi_at_call 13; refine (callsIn_wide.2 Hch.out).mono ?_; rintro e w1 ⟨rfl, hb1⟩; have hF1 : Fr w [(w.heap.size, s0O), (w.heap.size + 1, e0O)] w1 := ((((Fr.start w).new s0O).newN (World.size_alloc _ _) e0O).go hb1).sub (by intro p hp; simp at hp ⊢; rcases hp with h | h <;> simp [h]); have b0 := hF1.at (g := w.heap.size) (o := s0O) (by simp); have b1 := hF1.at (g := w.heap.size + 1) (o := e0O) (by simp); have p0 := Lib.cell_of_heap b0 0; have p1 := Lib.cell_of_heap b1 0; have f0 := Lib.frozen_of_heap b0 0; have f1 := Lib.frozen_of_heap b1 0)
  have hB : Below w.heap.size w ((w1.setCell ⟨w.heap.size, 0, none⟩ (.string ⟨#[]⟩)).setCell ⟨w.heap.size + 1, 0, none⟩ (.int .i64 er)) := bs (bs hF1.bel (by simp)) (by simp)
  have k0 : ((w1.setCell ⟨w.heap.size, 0, none⟩ (.string ⟨#[]⟩)).setCell ⟨w.heap.size + 1, 0, none⟩ (.int .i64 er)).heap[w.heap.size]? = some s0O := by
    refine set_blk ?_ _ _ (by simp only; omega)
    rw [set_same (i := 0) b0]; rfl
  have k1 : ((w1.setCell ⟨w.heap.size, 0, none⟩ (.string ⟨#[]⟩)).setCell ⟨w.heap.size + 1, 0, none⟩ (.int .i64 er)).heap[w.heap.size + 1]? = some (eO er) := by
    rw [set_same (i := 0) (set_blk b1 _ _ (by simp only; omega))]; rfl
  have c0 := Lib.cell_of_heap k0 0
  have c1 := Lib.cell_of_heap k1 0
  exact ⟨.tuple #[.string ⟨#[]⟩, .int .i64 er], by simp [results, Tryz.f8, go_sem, c0, c1], rfl, hB⟩
theorem print_any (w : World) (A : Option Addr) (c : Nat) (l : List Ev) (h : Reads w w.heap.size 2 A l.length (evs l)) (hc : l.length ≤ c) (ho : Ok32 l) (hl : l.length ≤ 9223372036854775807) (hP : Pow w) :
    Calls Tryz.prog 8 #[.slice A l.length c] w fun e w' => e = .returned (.tuple #[.string (prS l), .int .i64 (prE l)]) ∧ Below w.heap.size w w' := by
  by_cases hck : (chkT l 65536).2 = 0
  · by_cases hn : 5000 < (runsT l).length
    · rw [(prE_many hck hn).1, (prE_many hck hn).2]
      exact print_many w A c l h hc ho (chkT_zero hck) hn hP
    · rw [(prE_ok hck hn).1, (prE_ok hck hn).2]
      exact print_ok w A c l h hc ho (chkT_zero hck) (Nat.le_of_not_lt hn) hP
  · rw [(prE_bad hck).1, (prE_bad hck).2]
    exact print_bad w A c l h ho hl hck
end Go.Proofs.YtpgojecldmcopaaGreatDoor
