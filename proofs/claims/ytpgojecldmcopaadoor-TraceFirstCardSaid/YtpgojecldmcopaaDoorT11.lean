/- Traces: the region of a step (slices.IndexFunc with the closure of Parts); the sort of nothing. -/
import Derived.Test.YtpgojecldmcopaaDoorT8
import Derived.Test.YtpgojecldmcopaaDoorShelf
namespace Go.Proofs.YtpgojecldmcopaaDoor
open Go.RowKit
abbrev rgV (x : Rg) : Value := .agg #[.string x.1, .int .i64 x.2.1, .int .i64 x.2.2]
abbrev rgO (x : Rg) : Obj := .cells #[.string x.1, .int .i64 x.2.1, .int .i64 x.2.2] 41 (0, 0)
set_option maxRecDepth 100000 in
theorem inR_ (w : World) (X : Nat) (a : Int) (y : Rg) (v : Bool) (hv : Hid (v = rIn a y)) (hX : w.cell? ⟨X, 1, none⟩ = some (.int .i32 a)) (hlt : X < w.heap.size) (ha : In32 a) (hg : badRg y = false) :
    Calls Tryd.prog 23 #[rgV y, .pointer (some ⟨X, 0, none⟩)] w fun e w' => e = .returned (.bool v) ∧ Below w.heap.size w w' := by
  obtain ⟨s, B, S⟩ := y
  obtain ⟨⟨o1, o2⟩, o3, o4⟩ := badRg_iff.1 hg
  have hw := wrap_i32 ha
  have i1 : IntKind.i64.wrap (B + S) = B + S := IntWalk.i64_in _ (by omega)
  have hX2 := (World.cell?_alloc_lt w (rgO (s, B, S)) ⟨X, 1, none⟩ hlt).trans hX
  clear hX hg
  go_enter Tryd.func23, Tryd.ntmps23
  go_wp2
  all_goals
    go_ret
    go_light
    exact ⟨ret_bool (by rw [hv.out, Bool.eq_iff_iff]; simp [rIn]; try omega), ba (Below.refl _ _) _⟩
/-- none of the first k holds a -/
def NoneIn (r : List Rg) (a : Int) (k : Nat) : Prop := ∀ y ∈ r.take k, rIn a y = false
theorem NoneIn.start (r : List Rg) (a : Int) : NoneIn r a 0 := fun y hy => by simp at hy
theorem NoneIn.step {r : List Rg} {a : Int} {k : Nat} {y : Rg} (h : NoneIn r a k) (hd : Hid (r.drop k = y :: r.drop (k + 1))) (e : rIn a y = false) : NoneIn r a (k + 1) := by
  intro z hz
  rw [take_of_drop hd.out] at hz
  rcases List.mem_append.1 hz with hz | hz
  · exact h z hz
  · rw [List.mem_singleton.1 hz]; exact e
theorem NoneIn.stop {r : List Rg} {a : Int} {k : Nat} {y : Rg} (h : NoneIn r a k) (hd : Hid (r.drop k = y :: r.drop (k + 1))) (e : rIn a y = true) : idxR r a = k ∧ k < r.length := by
  obtain ⟨hk, hy⟩ := getD_hd (z := rgz) hd
  refine ⟨?_, hk⟩
  unfold idxR
  rw [List.findIdx_eq hk]
  rw [getD_at hk] at hy
  refine ⟨by rw [hy]; exact e, fun j hj => h _ ?_⟩
  rw [List.mem_take_iff_getElem]
  exact ⟨j, by omega, rfl⟩
theorem NoneIn.done {r : List Rg} {a : Int} {k : Nat} (h : NoneIn r a k) (hk : r.length ≤ k) : idxR r a = r.length := by
  unfold idxR NoneIn at *
  rw [List.take_of_length_le hk] at h
  exact List.findIdx_eq_length_of_false h
def ixV (r : List Rg) (a : Int) : Int := if idxR r a < r.length then (idxR r a : Int) else -1
set_option maxRecDepth 100000 in
set_option maxHeartbeats 1000000 in
theorem index_ (w : World) (X : Nat) (a : Int) (A' : Option Addr) (c' : Nat) (r : List Rg) (hR : Reads w w.heap.size 3 A' r.length (rgs r)) (hr : r.length ≤ 1000000) (hX : w.cell? ⟨X, 1, none⟩ = some (.int .i32 a)) (hlt : X < w.heap.size) (ha : In32 a) (hg : ∀ y ∈ r, badRg y = false) :
    Calls Tryd.prog 22 #[.slice A' r.length c', .func (.func 23) #[] #[.pointer (some ⟨X, 0, none⟩)]] w fun e w' => e = .returned (.int .i64 (ixV r a)) ∧ Below w.heap.size w w' := by
  have Hg := Lib.hid hg
  clear hg
  go_enter Tryd.func22, Tryd.ntmps22
  go_wp2
  go_loopw [8] (fun i wr => ∃ k : Nat, k ≤ r.length ∧ i = .int .i64 k ∧ NoneIn r a k ∧ Below w.heap.size w wr) (fun i _ => r.length - (intOf i).toNat)
  case atStart => exact ⟨0, Nat.zero_le _, rfl, NoneIn.start r a, Below.refl _ _⟩
  case round =>
    obtain ⟨k, hk, rfl, hn, hbl⟩ := hrel
    by_cases hlk : k < r.length
    · have hRr := hR.go hbl
      obtain ⟨b, off, s, B, S, rfl, hb, d1, d2, d3, hd⟩ := rgAt hRr hlk
      have hX2 := Lib.hid ((hbl.cell (p := ⟨X, 1, none⟩) hlt).trans hX)
      have HG := Lib.hid (Hg.out _ (mem_dropE hd))
      have Hlt := Lib.hid (Nat.lt_of_lt_of_le hlt hbl.size)
      by_cases hin : rIn a (s, B, S) = true
      · have hst := Lib.hid (hn.stop hd hin)
        have Hin := Lib.hid hin.symm
        clear hn hd hin
        go_wp2_with fail
        (with_reducible refine (inR_ _ X a (s, B, S) true Hin hX2.out Hlt.out ha HG.out).mono ?_); rintro e w1 ⟨rfl, hb1⟩
        have hB := bt hbl hb1
        go_wp2
        go_ret
        exact ⟨ret_int (by unfold ixV; rw [hst.out.1, if_pos hst.out.2]), hB⟩
      · have hin' : rIn a (s, B, S) = false := by simpa using hin
        have hn2 := hn.step hd hin'
        have Hin := Lib.hid hin'.symm
        clear hn hd hin hin'
        go_wp2_with fail
        (with_reducible refine (inR_ _ X a (s, B, S) false Hin hX2.out Hlt.out ha HG.out).mono ?_); rintro e w1 ⟨rfl, hb1⟩
        have hB := bt hbl hb1
        go_wp2
        go_roundw
        case rel => exact ⟨k + 1, by omega, by go_num, hn2, hB⟩
        case measure => simp [intOf]; omega
    · have HS := Lib.hid (hn.done (by omega))
      go_wp2
      go_ret
      exact ⟨ret_int (by unfold ixV; rw [HS.out, if_neg (by omega)]), hbl⟩
set_option maxRecDepth 100000 in
theorem insert0 (w : World) (G cap : Nat) (f : Value) : Calls Tryd.prog 32 #[.slice (some ⟨G, 0, none⟩) 0 cap, .int .i64 0, .int .i64 0, f] w fun e w' => e = .returned (.tuple #[]) ∧ Below w.heap.size w w' := by
  go_enter Tryd.func32, Tryd.ntmps32
  go_wp2
  go_loopw [8] (fun i wr => i = .int .i64 1 ∧ wr = w) (fun _ _ => 0)
  case atStart => exact ⟨rfl, rfl⟩
  case round =>
    obtain ⟨rfl, rfl⟩ := hrel
    go_wp2
    go_end0
    exact ⟨rfl, Below.refl _ _⟩
set_option maxRecDepth 100000 in
theorem pdq0 (w : World) (G cap : Nat) (f : Value) (n : Int) : Calls Tryd.prog 28 #[.slice (some ⟨G, 0, none⟩) 0 cap, .int .i64 0, .int .i64 0, .int .i64 n, f] w fun e w' => e = .returned (.tuple #[]) ∧ Below w.heap.size w w' := by
  go_enter Tryd.func28, Tryd.ntmps28
  go_wp2
  go_loopw [1, 2] (fun a b wr => a = .int .i64 0 ∧ b = .int .i64 0 ∧ wr = w) (fun _ _ _ => 0)
  case atStart => exact ⟨rfl, rfl, rfl⟩
  case round =>
    obtain ⟨rfl, rfl, rfl⟩ := hrel
    go_wp2_with fail
    (with_reducible refine (insert0 _ _ _ _).mono ?_); rintro e w1 ⟨rfl, hb1⟩
    go_wp2
    refine bodyPost_ret (results_none rfl _ _ _) rfl ?_
    exact ⟨rfl, hb1⟩
set_option maxRecDepth 100000 in
theorem sort0 (w : World) (G cap : Nat) (f : Value) : Calls Tryd.prog 20 #[.slice (some ⟨G, 0, none⟩) 0 cap, f] w fun e w' => e = .returned (.tuple #[]) ∧ Below w.heap.size w w' := by
  have hl := Tryd.bits_Len 0 w (by omega) (by omega)
  go_enter Tryd.func20, Tryd.ntmps20
  go_wp2_with fail
  (with_reducible refine hl.mono ?_); rintro e w1 ⟨rfl, rfl⟩
  clear hl
  go_wp2_with fail
  (with_reducible refine (pdq0 _ _ _ _ _).mono ?_); rintro e w1 ⟨rfl, hb1⟩
  go_wp2
  go_end0
  exact ⟨rfl, hb1⟩
end Go.Proofs.YtpgojecldmcopaaDoor
