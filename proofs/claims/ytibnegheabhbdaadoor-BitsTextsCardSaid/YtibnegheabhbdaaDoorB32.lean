/- Rows of bits: Print of the reference. -/
import Derived.Test.YtibnegheabhbdaaDoorB22
import Derived.Deep.DeepCutAuto
namespace Go.Proofs.YtibnegheabhbdaaDoor
open Go.RowKit
/-- the text of the words from place m on, the last one first -/
def prtF (l : List Nat) (m : Nat) : List UInt8 := prtB (l.drop m)
theorem join_snoc (xs : List (List UInt8)) (y : List UInt8) : Lib.join (xs ++ [y]) [46] = if xs = [] then y else Lib.join xs [46] ++ ([46] ++ y) := by
  unfold Lib.join
  induction xs with
  | nil => simp [List.intercalate]
  | cons x r ih =>
    rw [if_neg (by simp)]
    cases r with
    | nil => simp [List.intercalate]
    | cons z t =>
      rw [if_neg (by simp)] at ih
      simp only [List.intercalate, List.cons_append, List.intersperse, List.flatten_cons] at ih ⊢
      rw [ih]
      simp
theorem prtF_last (l : List Nat) (m : Nat) (h : l.length ≤ m) : prtF l m = [] := by
  unfold prtF
  rw [List.drop_of_length_le h]
  rfl
theorem prtF_step {l : List Nat} {m : Nat} (h : m < l.length) : prtF l m = (if m + 1 < l.length then prtF l (m + 1) ++ [46] else []) ++ hexD 16 (l.getD m 0) := by
  unfold prtF prtB
  have e : l.drop m = l.getD m 0 :: l.drop (m + 1) := by rw [List.drop_eq_getElem_cons h]; simp [h]
  rw [e, List.reverse_cons, List.map_append, List.map_cons, List.map_nil, join_snoc]
  by_cases h2 : m + 1 < l.length
  · rw [if_pos h2, if_neg (by intro hh; have := congrArg List.length hh; simp at this; omega)]
    simp
  · rw [if_neg h2, if_pos (by rw [List.drop_of_length_le (by omega)]; rfl)]
    rfl
theorem prtF_ne {l : List Nat} {m : Nat} (h : m < l.length) : prtF l m ≠ [] := by
  rw [prtF_step h]
  intro hh
  have := congrArg List.length hh
  rw [List.length_append, hexD_len] at this
  simp at this
theorem prtF_len (l : List Nat) (m : Nat) : (prtF l m).length ≤ 17 * l.length := by
  unfold prtF
  have := prtB_len (l.drop m)
  rw [List.length_drop] at this
  omega
/-- the first digits of a word: those down to digit q -/
def hexHi (x q : Nat) : List UInt8 := hexD (16 - q) (x / 16 ^ q)
theorem hexHi_start (x : Nat) : hexHi x 16 = [] := rfl
theorem hexHi_step (x q : Nat) (hq : q < 16) : hexHi x q = hexHi x (q + 1) ++ [hd (x / 16 ^ q % 16)] := by
  unfold hexHi
  rw [show 16 - q = 16 - (q + 1) + 1 by omega, hexD, Nat.div_div_eq_div_mul, Nat.pow_succ]
theorem hexHi_end (x : Nat) : hexHi x 0 = hexD 16 x := by unfold hexHi; rw [Nat.pow_zero, Nat.div_one]
theorem hexHi_len (x q : Nat) : (hexHi x q).length ≤ 16 := by unfold hexHi; rw [hexD_len]; omega
def hex16 : ByteArray := ⟨#[48, 49, 50, 51, 52, 53, 54, 55, 56, 57, 97, 98, 99, 100, 101, 102]⟩
theorem hex16_fin : ∀ d : Fin 16, hex16.data[d.val]? = some (hd d.val) := by decide +kernel
theorem hex16_get (i : Nat) (hi : i < 16) (h : i < hex16.size) : hex16[i]'h = hd i := by
  have h2 : hex16.data[i]? = some (hd i) := hex16_fin ⟨i, hi⟩
  rw [Array.getElem?_eq_getElem (show i < hex16.data.size from h)] at h2
  injection h2
theorem pow_16 (q : Nat) : (2 : Nat) ^ (4 * q) = 16 ^ q := by rw [Nat.pow_mul]
abbrev sB (l : List UInt8) : ByteArray := ⟨l.toArray⟩
theorem sB_app (a b : List UInt8) : sB a ++ sB b = sB (a ++ b) := by
  apply ByteArray.ext
  rw [ByteArray.data_append]
  simp
set_option maxRecDepth 100000 in
set_option maxHeartbeats 4000000 in
theorem rprint_ok (w : World) (A : Option Addr) (c : Nat) (l : List Nat) (h : Reads w w.heap.size 1 A l.length (u64s l)) (hw : W64 l) (hc : chkB l.length = 0) :
    Calls Tryd.prog 39 #[.slice A l.length c] w fun e w' => e = .returned (.tuple #[.string (sB (prtB l)), .int .i64 0]) ∧ Below w.heap.size w w' := by
  have hn := chkB_ok.1 hc
  have Hx := Lib.hid hc.symm
  have HR := Lib.hid h
  have Hw := Lib.hid hw
  clear h hw hc
  go_enter Tryd.func39, Tryd.ntmps39
  go_wp2_with fail
  (with_reducible refine (rcheck_ _ A c l.length (by omega) 0 Hx).mono ?_); rintro e w' ⟨rfl, rfl⟩
  go_wp2_with fail
  go_loopw [5, 6] (fun s i wr => ∃ (m : Nat) (S : ByteArray), m ≤ l.length ∧ i = .int .i64 ((m : Int) - 1) ∧ s = .string S ∧ Hid (S = sB (prtF l m)) ∧ Below w.heap.size w wr) (fun _ i _ => (intOf i + 1).toNat)
  case atStart => exact ⟨l.length, sB [], Nat.le_refl _, rfl, rfl, Lib.hid (by rw [prtF_last l _ (Nat.le_refl _)]), Below.refl _ _⟩
  case round =>
    obtain ⟨m, S, hm, rfl, rfl, hS, hB⟩ := hrel
    by_cases hm0 : 0 < m
    · obtain ⟨q, rfl⟩ : ∃ q, m = q + 1 := ⟨m - 1, by omega⟩
      have hl1 := prtF_len l (q + 1)
      have hsz : S.size = (prtF l (q + 1)).length := by rw [hS.out]; exact List.size_toArray
      obtain ⟨base, hbase⟩ : ∃ base, base = (if q + 1 < l.length then prtF l (q + 1) ++ [46] else []) := ⟨_, rfl⟩
      have HSt := Lib.hid (show prtF l q = base ++ hexD 16 (l.getD q 0) by rw [hbase]; exact prtF_step (by omega))
      have hbl : base.length ≤ 17 * l.length + 1 := by rw [hbase]; split <;> simp <;> omega
      have HE := Lib.hid (fun hq : q + 1 < l.length => (show (!S.toList.isEmpty) = true by
        have hne := prtF_ne hq
        cases hh : S.toList.isEmpty
        · rfl
        · exfalso
          have h0 := (toList_nil S).1 (List.isEmpty_iff.1 hh)
          rw [hsz] at h0
          exact hne (List.eq_nil_of_length_eq_zero h0)))
      have HBs := Lib.hid hbase
      have HB := Lib.hid hB
      have hS1 : S.size ≤ 1000 := by omega
      rw [show (((q + 1 : Nat) : Int) - 1) = (q : Int) by omega]
      clear hbase hB hsz hl1
      go_upto_if 21 with (fail)
      go_cut [5] (fun s wx => s = .string (sB base) ∧ Below w.heap.size w wx)
      case first =>
        by_cases hq : q + 1 < l.length
        · have hE := HE.out hq
          have hB2 := HBs.out
          rw [if_pos hq] at hB2
          have HT := Lib.hid (show S ++ sB [46] = sB base by rw [hS.out, sB_app, hB2])
          have hBz := HB.out
          clear hB2 hq
          rw [hE]
          go_wp2
          go_meet
          exact ⟨by rw [← HT.out], hBz⟩
        · have hS2 := hS.out
          rw [prtF_last l (q + 1) (by omega)] at hS2
          have hB2 := HBs.out
          rw [if_neg hq] at hB2
          subst hS2 hB2
          have hBz := HB.out
          have hE : (!(sB []).toList.isEmpty) = false := by decide +kernel
          clear hS hq
          rw [hE]
          go_wp2
          go_meet
          exact ⟨rfl, hBz⟩
      case rest =>
        obtain ⟨rfl, hB⟩ := hcut
        clear HB hS HBs
        obtain ⟨b, off, rfl, hb, d0⟩ := u64At HR.out (k := q) (by omega)
        have hX := wget Hw.out q
        obtain ⟨X, hXX⟩ : ∃ X, X = l.getD q 0 := ⟨_, rfl⟩
        rw [← hXX] at d0 hX HSt
        have HB := Lib.hid hB
        have h0 : Hid (sB base = sB (base ++ hexHi X 16)) := Lib.hid (by rw [hexHi_start X, List.append_nil])
        clear hXX hB
        obtain ⟨wo, rfl⟩ : ∃ wo : World, wo = wc := ⟨_, rfl⟩
        go_wp2_with fail
        go_loopw [5, 7] (fun s i wi => ∃ (k : Nat) (U : ByteArray), k ≤ 16 ∧ i = .int .i64 ((k : Int) - 1) ∧ s = .string U ∧ Hid (U = sB (base ++ hexHi X k)) ∧ Hid (Below w.heap.size w wi)) (fun _ i _ => (intOf i + 1).toNat)
        case atStart => exact ⟨16, _, Nat.le_refl _, rfl, rfl, h0, HB⟩
        case round =>
          obtain ⟨k, U, hk, rfl, rfl, hU, HBi⟩ := hrel
          clear h0 HB
          by_cases hk0 : 0 < k
          · obtain ⟨j, rfl⟩ : ∃ j, k = j + 1 := ⟨k - 1, by omega⟩
            have d1 := (HBi.out.cell (p := ⟨b, off + q, none⟩) hb).trans d0
            have hUl := hexHi_len X (j + 1)
            have hUs : U.size ≤ 1000 := by rw [hU.out]; show (base ++ hexHi X (j + 1)).toArray.size ≤ 1000; rw [List.size_toArray, List.length_append]; omega
            obtain ⟨d, hd16⟩ : ∃ d, d = X / 16 ^ j % 16 := ⟨_, rfl⟩
            have hdl : d < 16 := by rw [hd16]; exact Nat.mod_lt _ (by decide)
            have hshr : bits .and .u64 ((X : Int) / 2 ^ (4 * j)) 15 = (d : Int) := by
              have := and15 (X / 2 ^ (4 * j)) (Nat.lt_of_le_of_lt (Nat.div_le_self _ _) hX)
              rw [hd16, ← pow_16, ← this]
              simp
            have hcvu : IntKind.u64.wrap (4 * (j : Int)) = 4 * (j : Int) := by simp [IntKind.wrap, IntKind.bits, IntKind.signed]; omega
            have hlt : d < hex16.size := hdl
            have hcv : (convert 76 9 (.slice (some ⟨wr.heap.size, 0, none⟩) 1 1)).run Tryd.prog (wr.alloc (.cells #[.int .u8 ((hex16[d]'hlt).toNat : Int)] 5)) = .ok (.string ⟨[hex16[d]'hlt].toArray⟩) (wr.alloc (.cells #[.int .u8 ((hex16[d]'hlt).toNat : Int)] 5)) :=
              run_conv Tryd.underlying76 Tryd.underlying5 Tryd.underlying9 (reads_blkN (t := 5) (n := 1) (alloc1_new _ _) rfl)
            have HNx := Lib.hid (show U ++ ⟨[hex16[d]'hlt].toArray⟩ = sB (base ++ hexHi X j) by
              rw [hex16_get d hdl, hU.out]
              show sB (base ++ hexHi X (j + 1)) ++ sB [hd d] = _
              rw [sB_app, hexHi_step X j (by omega), hd16, List.append_assoc])
            have HBn := Lib.hid (ba HBi.out (.cells #[.int .u8 ((hex16[d]'hlt).toNat : Int)] 5))
            rw [show (((j + 1 : Nat) : Int) - 1) = (j : Int) by omega]
            have hq0 : (0 : Int) ≤ (q : Int) := by omega
            have hq1 : (q : Int) < (l.length : Int) := by omega
            clear hd16 hU HBi hUl
            go_wp2
            erw [hcv]
            go_wp2
            go_roundw
            case rel => exact ⟨j, _, by omega, rfl, rfl, HNx, HBn⟩
            case measure => simp [intOf]
          · obtain rfl : k = 0 := by omega
            have hU2 := hU.out
            rw [hexHi_end, ← HSt.out] at hU2
            have HU2 := Lib.hid hU2
            clear hU hU2 HSt
            go_wp2
            go_roundw
            case rel => exact ⟨q, _, by omega, rfl, rfl, HU2, HBi.out⟩
            case measure => simp [intOf]
    · obtain rfl : m = 0 := by omega
      have hS2 := hS.out
      rw [show prtF l 0 = prtB l from rfl] at hS2
      have HS2 := Lib.hid hS2
      clear hS hS2
      go_wp2
      go_ret2
      rw [HS2.out]
      exact ⟨rfl, hB⟩
end Go.Proofs.YtibnegheabhbdaaDoor
