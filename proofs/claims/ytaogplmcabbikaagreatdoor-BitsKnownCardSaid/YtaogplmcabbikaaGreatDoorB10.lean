/- Rows of bits: Of of the program. -/
import Derived.Test.YtaogplmcabbikaaGreatDoorB9
namespace Go.Proofs.YtaogplmcabbikaaGreatDoor
open Go.RowKit
def badOf (n : Int) (i : Int) : Bool := decide (i < 0) || decide (64 * n ≤ i)
def ofE (n : Int) (L : List Int) : Int := if n < 1 then 6 else if 8 < n then 3 else if L.any (badOf n) then 7 else 0
def ofF (L : List Int) (j : Nat) : Bool := L.any fun i => i == (j : Int)
def ofL (n : Int) (L : List Int) : List Nat := if ofE n L = 0 then rowOf n.toNat (ofF L) else []
abbrev i64s (l : List Int) : List Value := l.map (Value.int .i64)
theorem i64At {w : World} {B k : Nat} {A : Option Addr} {l : List Int} (h : Reads w B 1 A l.length (i64s l)) (hk : k < l.length) :
    ∃ b off, A = some ⟨b, off, none⟩ ∧ b < B ∧ w.cell? ⟨b, off + k, none⟩ = some (.int .i64 (l.getD k 0)) := by
  obtain ⟨b, off, e, hb, hc⟩ := h.2 (by omega)
  exact ⟨b, off, e, hb, hc k _ (by rw [List.getElem?_map, List.getElem?_eq_getElem hk]; simp [hk])⟩
theorem or_self_bit {x n : Nat} (h : x.testBit n = true) : x ||| 2 ^ n = x := by
  refine Nat.eq_of_testBit_eq fun j => ?_
  rw [Nat.testBit_or, Nat.testBit_two_pow]
  by_cases e : n = j
  · subst e; simp [h]
  · simp [e]
theorem or_xor_bit {x n : Nat} (h : ¬ x.testBit n = true) : x ||| 2 ^ n = x ^^^ 2 ^ n := by
  refine Nat.eq_of_testBit_eq fun j => ?_
  rw [Nat.testBit_or, Nat.testBit_xor, Nat.testBit_two_pow]
  by_cases e : n = j
  · subst e; simp [h]
  · simp [e]
theorem set_or {l : List Nat} {i : Nat} (hi : i < 64 * l.length) : l.set (i / 64) (l.getD (i / 64) 0 ||| 2 ^ (i % 64)) = setB l i true := by
  unfold setB
  have hk : i / 64 < l.length := by omega
  by_cases h : rbit l i = true
  · rw [if_pos h, or_self_bit (by exact h)]
    simp [hk]
  · rw [if_neg h, or_xor_bit (by exact h)]
theorem set_row {n i : Nat} {f g : Nat → Bool} (hi : i < 64 * n) (hg : ∀ j, g j = if j = i then true else f j) : (rowOf n f).set (i / 64) ((rowOf n f).getD (i / 64) 0 ||| 2 ^ (i % 64)) = rowOf n g := by
  have hi' : i < 64 * (rowOf n f).length := by rw [rowOf_len]; exact hi
  rw [set_or hi']
  refine row_eq (setB_w (rowOf_w _ _) i true hi') (by rw [setB_len, rowOf_len]) fun j hj => ?_
  rw [setB_bit hi', hg j]
  by_cases e : j = i
  · rw [if_pos e, if_pos e]
  · rw [if_neg e, if_neg e, rowOf_bit hj]
theorem take_succ_ {L : List Int} {k : Nat} (hk : k < L.length) : L.take (k + 1) = L.take k ++ [L.getD k 0] := by
  rw [List.take_succ_eq_append_getElem hk]; simp [hk]
theorem ofF_succ {L : List Int} {k i : Nat} (hk : k < L.length) (hi : L.getD k 0 = (i : Int)) (j : Nat) : ofF (L.take (k + 1)) j = if j = i then true else ofF (L.take k) j := by
  unfold ofF
  rw [take_succ_ hk, List.any_append, hi]
  by_cases e : j = i
  · subst e; simp
  · simp only [List.any_cons, List.any_nil, Bool.or_false]
    rw [if_neg e, show (((i : Int)) == (j : Int)) = false by simp; omega, Bool.or_false]
set_option maxRecDepth 100000 in
set_option maxHeartbeats 2000000 in
theorem of_ (w : World) (A : Option Addr) (c : Nat) (n : Int) (hn : -9223372036854775808 ≤ n ∧ n ≤ 9223372036854775807) (L : List Int) (h : Reads w w.heap.size 1 A L.length (i64s L)) (hl : L.length ≤ 9223372036854775807) :
    Calls Tryz.prog 4 #[.int .i64 n, .slice A L.length c] w (RetSl w 1 (u64s (ofL n L)) (ofL n L).length (ofE n L)) := by
  by_cases h1 : n < 1
  · have HE := Lib.hid (show ofE n L = 6 from if_pos h1)
    have HL := Lib.hid (show ofL n L = [] from if_neg (by rw [HE.out]; decide))
    clear h
    go_enter Tryz.func4, Tryz.ntmps4
    go_wp2
    go_ret2
    rw [HE.out, HL.out]
    exact RetSl.nil (Below.refl _ _) rfl rfl
  by_cases h8 : 8 < n
  · have HE := Lib.hid (show ofE n L = 3 by unfold ofE; rw [if_neg h1, if_pos h8])
    have HL := Lib.hid (show ofL n L = [] from if_neg (by rw [HE.out]; decide))
    clear h
    go_enter Tryz.func4, Tryz.ntmps4
    go_wp2
    go_ret2
    rw [HE.out, HL.out]
    exact RetSl.nil (Below.refl _ _) rfl rfl
  obtain ⟨m, rfl⟩ : ∃ m : Nat, n = m := ⟨n.toNat, by omega⟩
  have hE := (show ofE m L = if L.any (badOf m) then 7 else 0 by unfold ofE; rw [if_neg h1, if_neg h8])
  have HE := Lib.hid hE
  have hmk := mk64 m (by omega)
  have hown0 : (w.alloc (.cells (madeCells #[.int .u64 0] m) 37)).ownsRow w.heap.size 37 1 (.slice (some ⟨w.heap.size, 0, none⟩) m m) m (u64s (rowOf m (ofF (L.take 0)))) := by
    have := World.ownsRow_lit (base := w.heap.size) (size := 1) (e := 37) w (madeCells #[.int .u64 0] m) m (Nat.le_refl _) (by unfold maxLen; omega) (by rw [zeros_made]; simp)
    rw [zeros_made] at this ⊢
    have e : u64s (rowOf m (ofF (L.take 0))) = List.replicate m (.int .u64 0) := by
      have e2 : rowOf m (ofF (L.take 0)) = List.replicate m 0 := by
        symm
        refine row_eq (fun x hx => by rw [List.eq_of_mem_replicate hx]; decide) (by simp) fun i hi => ?_
        unfold rbit ofF
        have : i / 64 < m := by omega
        simp [this]
      rw [e2]
      simp [u64s, u64V]
    rw [e]
    exact this
  have Hown0 := Lib.hid hown0
  have HR := Lib.hid h
  clear h hown0 hE
  go_enter Tryz.func4, Tryz.ntmps4
  have hB0 : Below w.heap.size w (w.alloc (.cells (madeCells #[.int .u64 0] m) 37)) := ba (Below.refl _ _) _
  have hlt0 : w.heap.size < (w.alloc (.cells (madeCells #[.int .u64 0] m) 37)).heap.size := by simp
  go_wp2_with fail
  go_loopw [19] (fun i wr => ∃ (k : Nat), k ≤ L.length ∧ i = .int .i64 k ∧ Hid ((L.take k).any (badOf m) = false) ∧ wr.ownsRow w.heap.size 37 1 (.slice (some ⟨w.heap.size, 0, none⟩) m m) m (u64s (rowOf m (ofF (L.take k)))) ∧ Below w.heap.size w wr) (fun i _ => L.length - (intOf i).toNat)
  case atStart => exact ⟨0, Nat.zero_le _, rfl, Lib.hid (show (L.take 0).any (badOf m) = false from rfl), Hown0.out, hB0⟩
  case round =>
    obtain ⟨k, hk, rfl, hno, hO, hB⟩ := hrel
    clear hB0 hlt0 hmk
    by_cases hkl : k < L.length
    · obtain ⟨b, off, rfl, hb, d0⟩ := i64At HR.out hkl
      have d1 := (hB.cell (p := ⟨b, off + k, none⟩) hb).trans d0
      have hts := take_succ_ hkl
      have hbw : b < wr.heap.size := Nat.lt_of_lt_of_le hb hB.size
      by_cases hbad : badOf m (L.getD k 0) = true
      · have HE7 := Lib.hid (show ofE m L = 7 by
          rw [HE.out, if_pos]
          rw [List.any_eq_true]
          exact ⟨L.getD k 0, by simp [hkl], hbad⟩)
        have HL := Lib.hid (show ofL m L = [] from if_neg (by rw [HE7.out]; decide))
        unfold badOf at hbad
        clear hts hO d0
        generalize L.getD k 0 = X at *
        rw [Bool.or_eq_true, decide_eq_true_iff, decide_eq_true_iff] at hbad
        rcases hbad with hbad | hbad
        all_goals
          go_wp2
          go_ret2
          rw [HE7.out, HL.out]
          exact RetSl.nil (by first | assumption | exact drewN_of _ _ (by assumption)) rfl rfl
      · have hbad' : badOf m (L.getD k 0) = false := by simpa using hbad
        have hno2 : (L.take (k + 1)).any (badOf m) = false := by rw [hts, List.any_append, hno.out]; simp only [List.any_cons, List.any_nil]; rw [hbad']; rfl
        unfold badOf at hbad'
        rw [Bool.or_eq_false_iff, decide_eq_false_iff_not, decide_eq_false_iff_not] at hbad'
        obtain ⟨hb0, hb1⟩ := hbad'
        obtain ⟨i, hi⟩ : ∃ i : Nat, L.getD k 0 = i := ⟨(L.getD k 0).toNat, by omega⟩
        have hset := set_row (n := m) (i := i) (f := ofF (L.take k)) (g := ofF (L.take (k + 1))) (by omega) (ofF_succ hkl hi)
        rw [hi] at d1 hb0 hb1
        have hX := wget (rowOf_w m (ofF (L.take k))) (i / 64)
        have hcl : wr.cell? ⟨w.heap.size, i / 64, none⟩ = some (.int .u64 (((rowOf m (ofF (L.take k))).getD (i / 64) 0 : Nat) : Int)) := by
          have hlen : i / 64 < (rowOf m (ofF (L.take k))).length := by rw [rowOf_len]; omega
          rw [hO.cellAt (i / 64) (by omega), List.getElem?_map, List.getElem?_eq_getElem hlen]
          simp [u64V, hlen]
        obtain ⟨hst, _⟩ := hO.stored (i / 64) (.int .u64 ((((rowOf m (ofF (L.take k))).getD (i / 64) 0 ||| 2 ^ (i % 64) : Nat)) : Int))
        have hst2 : (wr.setCell ⟨w.heap.size, i / 64, none⟩ (.int .u64 ((((rowOf m (ofF (L.take k))).getD (i / 64) 0 ||| 2 ^ (i % 64) : Nat)) : Int))).ownsRow w.heap.size 37 1 (.slice (some ⟨w.heap.size, 0, none⟩) m m) m (u64s (rowOf m (ofF (L.take (k + 1))))) := by
          rw [← hset, u64s, List.map_set]; exact hst
        have hgw : w.heap.size < wr.heap.size := (hO.lt w.heap.size rfl).2
        have hfr := hO.frozenAt (i / 64)
        clear hset hst hts
        generalize (rowOf m (ofF (L.take k))).getD (i / 64) 0 = X at *
        have h63 := and63 i (by omega)
        have hp : (2 : Nat) ^ (i % 64) < 18446744073709551616 := Nat.lt_of_lt_of_le (Nat.pow_lt_pow_right (by omega) (show i % 64 < 64 by omega)) (by decide)
        have hval : bits .or .u64 (X : Int) (IntKind.u64.wrap (2 ^ (i % 64))) = ((X ||| 2 ^ (i % 64) : Nat) : Int) := by
          rw [wrap_pow _ (by omega), u64_or_nat _ _ hX hp]
        have hq : ((i : Int) / 64).toNat = i / 64 := by omega
        have hq0 : (0 : Int) ≤ (i : Int) / 64 := by omega
        have hq1 : (i : Int) / 64 < (m : Int) := by omega
        have hBs := bs hB (p := ⟨w.heap.size, i / 64, none⟩) (u := .int .u64 ((X ||| 2 ^ (i % 64) : Nat) : Int)) (Nat.le_refl _)
        have hne : b ≠ w.heap.size := by omega
        have Hval := Lib.hid hval
        have HN := Lib.hid hno2
        have Hst := Lib.hid hst2
        have HBs := Lib.hid hBs
        clear hval hno2 hst2 hBs hO hB d0 hbad hno hi
        go_wp2
        go_region
        go_wp2
        rw [Hval.out]
        go_roundw
        case rel => exact ⟨k + 1, by omega, by go_num, HN, Hst.out, ⟨HBs.out.os, HBs.out.tape, HBs.out.output, HBs.out.size, HBs.out.block⟩⟩
        case measure => simp [intOf]; omega
    · obtain rfl : k = L.length := by omega
      have hno' := hno.out
      rw [List.take_of_length_le (Nat.le_refl _)] at hno' hO
      have HE0 := Lib.hid (show ofE m L = 0 by rw [HE.out, hno']; rfl)
      have HL := Lib.hid (show ofL m L = rowOf m (ofF L) by unfold ofL; rw [if_pos HE0.out]; rfl)
      obtain ⟨A9, c9, he, hrd, hc1, hc2⟩ := own_sl hO
      injection he with e1 e2 e3
      clear e2
      subst e1 e3
      have Hrd := Lib.hid hrd
      clear hO hrd hc1 hc2 hno hno'
      go_wp2
      go_ret2
      rw [HE0.out, HL.out]
      exact ⟨some ⟨w.heap.size, 0, none⟩, m, by rw [rowOf_len]; rfl, hB, by rw [rowOf_len]; exact Hrd.out, by rw [rowOf_len]; exact Nat.le_refl _, by omega⟩
end Go.Proofs.YtaogplmcabbikaaGreatDoor
