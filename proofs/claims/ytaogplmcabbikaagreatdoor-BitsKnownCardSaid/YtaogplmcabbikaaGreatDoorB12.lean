/- Rows of bits: Count of the program. -/
import Derived.Test.YtaogplmcabbikaaGreatDoorB11
namespace Go.Proofs.YtaogplmcabbikaaGreatDoor
open Go.RowKit
def cntL (l : List Nat) : Nat := (l.map ones64).sum
def cntV (l : List Nat) : Nat := if chkB l.length = 0 then cntL l else 0
theorem ones64_lt (x : Nat) : ones64 x < 128 := Nat.mod_lt _ (by decide)
theorem cntL_le (l : List Nat) : cntL l ≤ 128 * l.length := by
  unfold cntL
  induction l with
  | nil => simp
  | cons a l ih =>
    have := ones64_lt a
    simp only [List.map_cons, List.sum_cons, List.length_cons]
    omega
theorem cntL_succ {l : List Nat} {k : Nat} (hk : k < l.length) : cntL (l.take (k + 1)) = cntL (l.take k) + ones64 (l.getD k 0) := by
  unfold cntL
  have e : l.getD k 0 = l[k] := by simp [hk]
  rw [List.take_succ_eq_append_getElem hk, List.map_append, List.sum_append, e]
  simp only [List.map_cons, List.map_nil, List.sum_cons, List.sum_nil, Nat.add_zero]
set_option maxRecDepth 100000 in
set_option maxHeartbeats 2000000 in
theorem count_ (w : World) (A : Option Addr) (c : Nat) (l : List Nat) (h : Reads w w.heap.size 1 A l.length (u64s l)) (hw : W64 l) (hl : l.length ≤ 9223372036854775807) :
    Calls Tryz.prog 31 #[.slice A l.length c] w fun e w' => e = .returned (.tuple #[.int .i64 (cntV l), .int .i64 (chkB l.length)]) ∧ Below w.heap.size w w' := by
  obtain ⟨x, hx⟩ : ∃ x, x = chkB l.length := ⟨_, rfl⟩
  have Hx := Lib.hid hx
  rw [← hx]
  by_cases h0 : x = 0
  · subst h0
    obtain ⟨h1, h8⟩ := chkB_ok.1 hx.symm
    have HV := Lib.hid (show cntV l = cntL l from if_pos hx.symm)
    have HR := Lib.hid h
    have Hw := Lib.hid hw
    clear hx h hw
    go_enter Tryz.func31, Tryz.ntmps31
    go_wp2_with fail
    (with_reducible refine (check_ _ A c l.length hl 0 Hx).mono ?_); rintro e w' ⟨rfl, rfl⟩
    go_wp2_with fail
    go_loopw [5, 15] (fun nv i wr => ∃ (k q : Nat), k ≤ l.length ∧ i = .int .i64 k ∧ nv = .int .i64 q ∧ Hid (q = cntL (l.take k)) ∧ Below w.heap.size w wr) (fun _ i _ => l.length - (intOf i).toNat)
    case atStart => exact ⟨0, 0, Nat.zero_le _, rfl, rfl, Lib.hid (show 0 = cntL (l.take 0) from rfl), Below.refl _ _⟩
    case round =>
      obtain ⟨k, q, hk, rfl, rfl, hq, hB⟩ := hrel
      have hq2 : q ≤ 1024 := by
        have h2 := cntL_le (l.take k)
        rw [List.length_take] at h2
        rw [hq.out]
        omega
      by_cases hkl : k < l.length
      · obtain ⟨b, off, rfl, hb, d0⟩ := u64At HR.out hkl
        have d1 := (hB.cell (p := ⟨b, off + k, none⟩) hb).trans d0
        have hX := wget Hw.out k
        have hsu := cntL_succ hkl
        rw [← hq.out] at hsu
        have HS := Lib.hid hsu.symm
        have hlt := ones64_lt (l.getD k 0)
        clear hsu d0 hq
        generalize l.getD k 0 = X at *
        go_wp2_with fail
        (with_reducible refine (ones64_ _ X hX).mono ?_); rintro e w' ⟨rfl, rfl⟩
        go_wp2
        go_roundw
        case rel => exact ⟨k + 1, q + ones64 X, by omega, by go_num, by go_num, HS, hB⟩
        case measure => simp [intOf]; omega
      · obtain rfl : k = l.length := by omega
        have hq' := hq.out
        rw [List.take_of_length_le (Nat.le_refl _)] at hq'
        have HQ := Lib.hid hq'
        clear hq hq'
        go_wp2
        go_ret2
        rw [HV.out, ← HQ.out]
        exact ⟨rfl, hB⟩
  · have HV := Lib.hid (show cntV l = 0 from if_neg (by rw [← hx]; exact h0))
    have e1 : (x != 0) = true := by simpa using h0
    clear hx h0 h
    go_enter Tryz.func31, Tryz.ntmps31
    go_wp2_with fail
    (with_reducible refine (check_ _ A c l.length hl x Hx).mono ?_); rintro e w' ⟨rfl, rfl⟩
    go_wp2
    go_ret2
    rw [HV.out]
    exact ⟨rfl, Below.refl _ _⟩
end Go.Proofs.YtaogplmcabbikaaGreatDoor
