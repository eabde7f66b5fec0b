/- Rows of bits: Shift and Back of the program. -/
import Derived.Test.YtaogplmcabbikaaGreatDoorB4
namespace Go.Proofs.YtaogplmcabbikaaGreatDoor
open Go.RowKit
theorem bitN_lt (b : Bool) : bitN b ≤ 1 := by cases b <;> decide
theorem bitN_top (x : Nat) (hx : x < 18446744073709551616) : x / 2 ^ 63 = bitN (x.testBit 63) := by
  rw [Nat.testBit_eq_decide_div_mod_eq]
  have : x / 2 ^ 63 < 2 := by omega
  unfold bitN
  by_cases h : x / 2 ^ 63 = 1
  · simp [h]
  · have h0 : x / 2 ^ 63 = 0 := by omega
    rw [h0]; rfl
theorem bitN_low (x : Nat) : x % 2 = bitN (x.testBit 0) := by
  rw [Nat.testBit_zero]
  unfold bitN
  by_cases h : x % 2 = 1
  · simp [h]
  · have h0 : x % 2 = 0 := by omega
    rw [h0]; rfl
/-- a word moved up by one -/
def upW (x : Nat) (b : Bool) : Nat := nb 64 fun j => if j = 0 then b else x.testBit (j - 1)
def dnW (x : Nat) (b : Bool) : Nat := nb 64 fun j => if j = 63 then b else x.testBit (j + 1)
theorem bitN_bit (b : Bool) (j : Nat) : (bitN b).testBit j = (decide (j = 0) && b) := by
  cases b
  · simp [bitN]
  · by_cases h : j = 0
    · subst h; rfl
    · obtain ⟨k, rfl⟩ : ∃ k, j = k + 1 := ⟨j - 1, by omega⟩
      simp [bitN, Nat.testBit_succ]
theorem up_nat (x : Nat) (b : Bool) : (2 * x % 18446744073709551616) ||| bitN b = upW x b := by
  refine word_ext (Nat.or_lt_two_pow (n := 64) (Nat.mod_lt _ (by decide)) (Nat.lt_of_le_of_lt (bitN_lt b) (by decide))) (nb_lt 64 _) fun j hj => ?_
  rw [Nat.testBit_or, show (18446744073709551616 : Nat) = 2 ^ 64 from rfl, Nat.testBit_mod_two_pow, bitN_bit, upW, nb_bit, decide_eq_true hj]
  cases j with
  | zero => simp
  | succ k =>
    rw [Nat.testBit_succ]
    simp
theorem dn_nat (x : Nat) (hx : x < 18446744073709551616) (b : Bool) : (x / 2) ||| (bitN b * 9223372036854775808) = dnW x b := by
  have hb : bitN b * 9223372036854775808 < 2 ^ 64 := by have := bitN_lt b; omega
  refine word_ext (Nat.or_lt_two_pow (n := 64) (by omega) hb) (nb_lt 64 _) fun j hj => ?_
  rw [Nat.testBit_or, dnW, nb_bit, decide_eq_true hj, ← Nat.testBit_succ]
  rw [show bitN b * 9223372036854775808 = bitN b <<< 63 by rw [Nat.shiftLeft_eq]]
  rw [Nat.testBit_shiftLeft, bitN_bit]
  by_cases h : j = 63
  · subst h
    have : x.testBit 64 = false := Nat.testBit_lt_two_pow hx
    simp [this]
  · simp [h, show ¬ (63 ≤ j) by omega]
/-- the row in words -/
theorem rowOf_take_succ {n : Nat} {f : Nat → Bool} {k : Nat} (hk : k < n) : (rowOf n f).take (k + 1) = (rowOf n f).take k ++ [nb 64 fun j => f (64 * k + j)] := by
  have hl : k < (rowOf n f).length := by rw [rowOf_len]; exact hk
  have e : (rowOf n f)[k]'hl = nb 64 fun j => f (64 * k + j) := by
    have h1 : (rowOf n f)[k]? = some (nb 64 fun j => f (64 * k + j)) := by
      unfold rowOf
      rw [List.getElem?_map, List.getElem?_range hk]
      rfl
    rw [List.getElem?_eq_getElem hl] at h1
    injection h1
  rw [List.take_succ_eq_append_getElem hl, e]
theorem nb_congr {n : Nat} {f g : Nat → Bool} (h : ∀ j, j < n → f j = g j) : nb n f = nb n g := by
  induction n with
  | zero => rfl
  | succ n ih => rw [nb, nb, h n (by omega), ih fun j hj => h j (by omega)]
theorem rbit_at (l : List Nat) (k j : Nat) (hj : j < 64) : rbit l (64 * k + j) = (l.getD k 0).testBit j := by
  unfold rbit
  rw [show (64 * k + j) / 64 = k by omega, show (64 * k + j) % 64 = j by omega]
/-- the carry ahead of word k -/
def carU (l : List Nat) (v : Bool) (k : Nat) : Bool := if k = 0 then v else (l.getD (k - 1) 0).testBit 63
theorem up_word (l : List Nat) (v : Bool) (k : Nat) : (nb 64 fun j => (fun i => if i = 0 then v else rbit l (i - 1)) (64 * k + j)) = upW (l.getD k 0) (carU l v k) := by
  unfold upW
  refine nb_congr fun j hj => ?_
  simp only
  by_cases h : j = 0
  · subst h
    unfold carU
    by_cases hk : k = 0
    · subst hk; simp
    · rw [if_neg (by omega), if_pos rfl, if_neg hk]
      have := rbit_at l (k - 1) 63 (by omega)
      rw [← this]
      congr 1
      omega
  · rw [if_neg (by omega), if_neg h]
    have := rbit_at l k (j - 1) (by omega)
    rw [← this]
    congr 1
    omega
set_option maxRecDepth 100000 in
set_option maxHeartbeats 2000000 in
theorem shift_ (w : World) (A : Option Addr) (c : Nat) (l : List Nat) (h : Reads w w.heap.size 1 A l.length (u64s l)) (hw : W64 l) (hl : l.length ≤ 9223372036854775807) (v : Bool) :
    Calls Tryz.prog 30 #[.slice A l.length c, .bool v] w (RetSh w (shL l v) (shO l) (chkB l.length)) := by
  obtain ⟨x, hx⟩ : ∃ x, x = chkB l.length := ⟨_, rfl⟩
  have Hx := Lib.hid hx
  rw [← hx]
  by_cases h0 : x = 0
  · subst h0
    obtain ⟨h1, h8⟩ := chkB_ok.1 hx.symm
    have HL := Lib.hid (show shL l v = rowOf l.length (fun i => if i = 0 then v else rbit l (i - 1)) from if_pos hx.symm)
    have HO := Lib.hid (show shO l = carU l v l.length by
      unfold shO carU
      rw [if_pos hx.symm, if_neg (by omega), ← rbit_at l (l.length - 1) 63 (by omega)]
      congr 1
      omega)
    have HR := Lib.hid h
    obtain ⟨f, hf⟩ : ∃ f : Nat → Bool, f = (fun i => if i = 0 then v else rbit l (i - 1)) := ⟨_, rfl⟩
    have Hf := Lib.hid hf
    have Hw := Lib.hid hw
    clear hx h hf hw
    go_enter Tryz.func30, Tryz.ntmps30
    go_wp2_with fail
    (with_reducible refine (check_ _ A c l.length hl 0 Hx).mono ?_); rintro e w' ⟨rfl, rfl⟩
    go_wp2_with fail
    (with_reducible refine (bit_ v _).mono ?_); rintro e w' ⟨rfl, rfl⟩
    go_wp2_with fail
    go_loopw [4, 8, 19] (fun vv cv i wr => ∃ (k : Nat) (cb : Bool), k ≤ l.length ∧ i = .int .i64 k ∧ cv = .int .u64 (bitN cb : Nat) ∧ Hid (cb = carU l v k) ∧ wr.ownsRow w.heap.size 37 1 vv k (u64s ((rowOf l.length f).take k)) ∧ Below w.heap.size w wr) (fun _ _ i _ => l.length - (intOf i).toNat)
    case atStart => exact ⟨0, v, Nat.zero_le _, rfl, rfl, Lib.hid (show v = carU l v 0 from rfl), World.ownsRow_nil _ _ _ _, Below.refl _ _⟩
    case round =>
      obtain ⟨k, cb, hk, rfl, rfl, hcb, hO, hB⟩ := hrel
      by_cases hkl : k < l.length
      · obtain ⟨b, off, rfl, hb, d0⟩ := u64At HR.out hkl
        have d1 := (hB.cell (p := ⟨b, off + k, none⟩) hb).trans d0
        have hX := wget Hw.out k
        have hword := rowOf_take_succ (f := f) hkl
        rw [Hf.out, up_word, ← Hf.out, ← hcb.out] at hword
        have hcb2 : carU l v (k + 1) = (l.getD k 0).testBit 63 := by unfold carU; rw [if_neg (by omega)]; rfl
        generalize l.getD k 0 = X at *
        have hbw : b < wr.heap.size := Nat.lt_of_lt_of_le hb hB.size
        have hval : bits .or .u64 (IntKind.u64.wrap ((X : Int) * 2)) ((bitN cb : Nat) : Int) = ((upW X cb : Nat) : Int) := by
          have e1 : IntKind.u64.wrap ((X : Int) * 2) = ((2 * X % 18446744073709551616 : Nat) : Int) := by
            simp only [IntKind.wrap, IntKind.bits, IntKind.signed]
            simp
            omega
          rw [e1, u64_or_nat _ _ (Nat.mod_lt _ (by decide)) (Nat.lt_of_le_of_lt (bitN_lt cb) (by decide)), up_nat]
        have htop : (X : Int) / 9223372036854775808 = ((bitN (X.testBit 63) : Nat) : Int) := by
          rw [← bitN_top X hX]; simp
        have Hval := Lib.hid hval
        have Htop := Lib.hid htop
        have HW := Lib.hid hword
        have HC := Lib.hid hcb2.symm
        clear hval htop hword hcb2 hcb
        go_wp2_with (at_builtin; refine wpList_ap u64El (w0 := w) (hO.alloc _) (ba hB _) [.int .u64 _] (by exact alloc1_new _ _) ?_)
        intro g4 cap4 w4 hO4 hb4 hg4
        have d4 := (hb4.cell (p := ⟨b, off + k, none⟩) hb).trans d0
        rw [Hval.out] at hO4
        have hO5 : w4.ownsRow w.heap.size 37 1 (.slice (some ⟨g4, 0, none⟩) (k + 1) cap4) (k + 1) (u64s ((rowOf l.length f).take (k + 1))) := by
          rw [HW.out, u64s, List.map_append, List.map_take]
          exact hO4
        have HO5 := Lib.hid hO5
        clear hO4 hO5 hg4 d1 d0 Hval HW hO hB
        go_wp2
        go_roundw
        case rel => exact ⟨k + 1, X.testBit 63, by omega, by go_num, by rw [Htop.out], HC, HO5.out, hb4⟩
        case measure => simp [intOf]; omega
      · obtain rfl : k = l.length := by omega
        obtain ⟨A9, c9, rfl, hrd, hc1, hc2⟩ := own_sl hO
        rw [List.take_of_length_le (by rw [rowOf_len]; exact Nat.le_refl _)] at hrd
        have Hrd := Lib.hid hrd
        have Hcap := Lib.hid (And.intro hc1 hc2)
        have hb1 : (((bitN cb : Nat) : Int) == 1) = cb := by cases cb <;> rfl
        clear hO hrd hc1 hc2
        go_wp2
        go_ret3
        rw [HL.out, HO.out, ← Hf.out, ← hcb.out]
        exact ⟨A9, c9, by rw [rowOf_len]; rfl, hB, by rw [rowOf_len]; exact Hrd.out, by rw [rowOf_len]; exact Hcap.out.1, Hcap.out.2⟩
  · have HL := Lib.hid (show shL l v = [] from if_neg (by rw [← hx]; exact h0))
    have HO := Lib.hid (show shO l = false from if_neg (by rw [← hx]; exact h0))
    have e1 : (x != 0) = true := by simpa using h0
    clear hx h0 h
    go_enter Tryz.func30, Tryz.ntmps30
    go_wp2_with fail
    (with_reducible refine (check_ _ A c l.length hl x Hx).mono ?_); rintro e w' ⟨rfl, rfl⟩
    go_wp2
    go_ret3
    exact RetSh.no (Below.refl _ _) HL.out HO.out
/-- the carry of Back ahead of word k -/
def carD (l : List Nat) (v : Bool) (k : Nat) : Bool := if k = l.length then v else (l.getD k 0).testBit 0
theorem dn_word (l : List Nat) (v : Bool) (k : Nat) (hk : k < l.length) : (nb 64 fun j => (fun i => if i = 64 * l.length - 1 then v else rbit l (i + 1)) (64 * k + j)) = dnW (l.getD k 0) (carD l v (k + 1)) := by
  unfold dnW
  refine nb_congr fun j hj => ?_
  simp only
  by_cases h : j = 63
  · subst h
    unfold carD
    by_cases hk2 : k + 1 = l.length
    · rw [if_pos (by omega), if_pos rfl, if_pos hk2]
    · rw [if_neg (by omega), if_pos rfl, if_neg hk2]
      have := rbit_at l (k + 1) 0 (by omega)
      rw [← this]
      congr 1
  · rw [if_neg (by omega), if_neg h]
    have := rbit_at l k (j + 1) (by omega)
    rw [← this]
    congr 1
theorem rowOf_drop {n : Nat} {f : Nat → Bool} {k : Nat} (hk : k < n) : (rowOf n f).drop k = (nb 64 fun j => f (64 * k + j)) :: (rowOf n f).drop (k + 1) := by
  have hl : k < (rowOf n f).length := by rw [rowOf_len]; exact hk
  have e : (rowOf n f)[k]'hl = nb 64 fun j => f (64 * k + j) := by
    have h1 : (rowOf n f)[k]? = some (nb 64 fun j => f (64 * k + j)) := by
      unfold rowOf
      rw [List.getElem?_map, List.getElem?_range hk]
      rfl
    rw [List.getElem?_eq_getElem hl] at h1
    injection h1
  rw [List.drop_eq_getElem_cons hl, e]
/-- the row from word k on -/
def backU (n k : Nat) (f : Nat → Bool) : List Nat := List.replicate k 0 ++ (rowOf n f).drop k
theorem backU_len {n k : Nat} {f : Nat → Bool} (h : k ≤ n) : (backU n k f).length = n := by simp [backU, rowOf_len]; omega
theorem backU_set {n k : Nat} {f : Nat → Bool} (h : k < n) : (backU n (k + 1) f).set k (nb 64 fun j => f (64 * k + j)) = backU n k f := by
  unfold backU
  rw [rowOf_drop h, List.replicate_succ', List.append_assoc, List.set_append_right _ _ (by simp)]
  simp
set_option maxRecDepth 100000 in
set_option maxHeartbeats 2000000 in
theorem back_ (w : World) (A : Option Addr) (c : Nat) (l : List Nat) (h : Reads w w.heap.size 1 A l.length (u64s l)) (hw : W64 l) (hl : l.length ≤ 9223372036854775807) (v : Bool) :
    Calls Tryz.prog 5 #[.slice A l.length c, .bool v] w (RetSh w (bkL l v) (bkO l) (chkB l.length)) := by
  obtain ⟨x, hx⟩ : ∃ x, x = chkB l.length := ⟨_, rfl⟩
  have Hx := Lib.hid hx
  rw [← hx]
  by_cases h0 : x = 0
  · subst h0
    obtain ⟨h1, h8⟩ := chkB_ok.1 hx.symm
    have HL := Lib.hid (show bkL l v = rowOf l.length (fun i => if i = 64 * l.length - 1 then v else rbit l (i + 1)) from if_pos hx.symm)
    have HO := Lib.hid (show bkO l = carD l v 0 by
      unfold bkO carD
      rw [if_pos hx.symm, if_neg (by omega)]
      exact rbit_at l 0 0 (by omega))
    have HR := Lib.hid h
    obtain ⟨f, hf⟩ : ∃ f : Nat → Bool, f = (fun i => if i = 64 * l.length - 1 then v else rbit l (i + 1)) := ⟨_, rfl⟩
    have Hf := Lib.hid hf
    have Hw := Lib.hid hw
    have hmk := mk64 l.length (by omega)
    have hown0 : (w.alloc (.cells (madeCells #[.int .u64 0] l.length) 37)).ownsRow w.heap.size 37 1 (.slice (some ⟨w.heap.size, 0, none⟩) l.length l.length) l.length (u64s (backU l.length l.length f)) := by
      have := World.ownsRow_lit (base := w.heap.size) (size := 1) (e := 37) w (madeCells #[.int .u64 0] l.length) l.length (Nat.le_refl _) (by unfold maxLen; omega) (by rw [zeros_made]; simp)
      rw [zeros_made] at this ⊢
      have e : u64s (backU l.length l.length f) = List.replicate l.length (.int .u64 0) := by
        unfold backU
        rw [List.drop_of_length_le (by rw [rowOf_len]; exact Nat.le_refl _)]
        simp [u64s, u64V]
      rw [e]
      exact this
    have Hown0 := Lib.hid hown0
    clear hx h hf hw hown0
    go_enter Tryz.func5, Tryz.ntmps5
    go_wp2_with fail
    (with_reducible refine (check_ _ A c l.length hl 0 Hx).mono ?_); rintro e w' ⟨rfl, rfl⟩
    go_wp2_with fail
    (with_reducible refine (bit_ v _).mono ?_); rintro e w' ⟨rfl, rfl⟩
    have hB0 : Below w.heap.size w (w.alloc (.cells (madeCells #[.int .u64 0] l.length) 37)) := ba (Below.refl _ _) _
    have hlt0 : w.heap.size < (w.alloc (.cells (madeCells #[.int .u64 0] l.length) 37)).heap.size := by simp
    go_wp2_with fail
    go_loopw [8, 23] (fun cv i wr => ∃ (k : Nat) (cb : Bool), k ≤ l.length ∧ i = .int .i64 ((l.length : Int) - k) ∧ cv = .int .u64 (bitN cb : Nat) ∧ Hid (cb = carD l v k) ∧ wr.ownsRow w.heap.size 37 1 (.slice (some ⟨w.heap.size, 0, none⟩) l.length l.length) l.length (u64s (backU l.length k f)) ∧ Below w.heap.size w wr) (fun _ i _ => l.length - (intOf i).toNat)
    case atStart => exact ⟨l.length, v, Nat.le_refl _, by simp, rfl, Lib.hid (show v = carD l v l.length by unfold carD; rw [if_pos rfl]), Hown0.out, hB0⟩
    case round =>
      obtain ⟨k, cb, hk, rfl, rfl, hcb, hO, hB⟩ := hrel
      clear hB0 hlt0 hmk
      by_cases hk0 : 0 < k
      · obtain ⟨q, rfl⟩ : ∃ q, k = q + 1 := ⟨k - 1, by omega⟩
        obtain ⟨b, off, rfl, hb, d0⟩ := u64At HR.out (k := q) (by omega)
        have d1 := (hB.cell (p := ⟨b, off + q, none⟩) hb).trans d0
        have hX := wget Hw.out q
        have hword : (nb 64 fun j => f (64 * q + j)) = dnW (l.getD q 0) cb := by rw [hcb.out, Hf.out]; exact dn_word l v q (by omega)
        have hset := backU_set (n := l.length) (k := q) (f := f) (by omega)
        rw [hword] at hset
        have hcb2 : carD l v q = (l.getD q 0).testBit 0 := by unfold carD; rw [if_neg (by omega)]
        generalize l.getD q 0 = X at *
        have hbw : b < wr.heap.size := Nat.lt_of_lt_of_le hb hB.size
        have hgw : w.heap.size < wr.heap.size := (hO.lt w.heap.size rfl).2
        have hfr := hO.frozenAt q
        have hcl : wr.cell? ⟨w.heap.size, q, none⟩ = some (.int .u64 0) := by
          rw [hO.cellAt q (by omega), List.getElem?_map]
          unfold backU
          rw [List.getElem?_append_left (by simp), List.getElem?_replicate, if_pos (by omega)]
          rfl
        obtain ⟨hst, _⟩ := hO.stored q (.int .u64 ((dnW X cb : Nat) : Int))
        have hst2 : (wr.setCell ⟨w.heap.size, q, none⟩ (.int .u64 ((dnW X cb : Nat) : Int))).ownsRow w.heap.size 37 1 (.slice (some ⟨w.heap.size, 0, none⟩) l.length l.length) l.length (u64s (backU l.length q f)) := by
          rw [← hset, u64s, List.map_set]; exact hst
        have hval : bits .or .u64 ((X : Int) / 2) (IntKind.u64.wrap (((bitN cb : Nat) : Int) * 9223372036854775808)) = ((dnW X cb : Nat) : Int) := by
          have e1 : (X : Int) / 2 = ((X / 2 : Nat) : Int) := by simp
          have e2 : IntKind.u64.wrap (((bitN cb : Nat) : Int) * 9223372036854775808) = ((bitN cb * 9223372036854775808 : Nat) : Int) := by
            cases cb <;> decide
          rw [e1, e2, u64_or_nat _ _ (by omega) (by cases cb <;> decide), dn_nat X hX]
        have hlow : bits .and .u64 (X : Int) 1 = ((bitN (X.testBit 0) : Nat) : Int) := by
          have := u64_and_nat X 1 hX (by omega)
          rw [show ((1 : Nat) : Int) = 1 from rfl] at this
          rw [this, Nat.and_one_is_mod, bitN_low]
        have hBs := bs hB (p := ⟨w.heap.size, q, none⟩) (u := .int .u64 ((dnW X cb : Nat) : Int)) (Nat.le_refl _)
        have hne : b ≠ w.heap.size := by omega
        have hi1 : (l.length : Int) - ((q : Int) + 1) < (l.length : Int) := by omega
        have hi2 : (l.length : Int) - 1 - ((l.length : Int) - ((q : Int) + 1)) = q := by omega
        have hi3 : (q : Int) < (l.length : Int) := by omega
        have Hval := Lib.hid hval
        have Hlow := Lib.hid hlow
        have HC := Lib.hid hcb2.symm
        have Hst := Lib.hid hst2
        have HBs := Lib.hid hBs
        rw [show ((q + 1 : Nat) : Int) = (q : Int) + 1 from rfl]
        clear hval hlow hcb2 hcb hst hst2 hset hword hBs hO hB d0
        go_wp2
        rw [Hval.out]
        go_roundw
        case rel => exact ⟨q, X.testBit 0, by omega, by congr 1; omega, by rw [Hlow.out], HC, Hst.out, HBs.out⟩
        case measure => simp [intOf]; omega
      · obtain rfl : k = 0 := by omega
        obtain ⟨A9, c9, he, hrd, hc1, hc2⟩ := own_sl hO
        injection he with e1 e2 e3
        clear e2
        subst e1 e3
        have hrd2 : Reads wr wr.heap.size 1 (some ⟨w.heap.size, 0, none⟩) l.length (u64s (rowOf l.length f)) := by
          have e : backU l.length 0 f = rowOf l.length f := by simp [backU]
          rw [e] at hrd
          exact hrd
        have Hrd := Lib.hid hrd2
        have hb1 : (((bitN cb : Nat) : Int) == 1) = cb := by cases cb <;> rfl
        clear hO hrd hrd2 hc1 hc2
        rw [show (l.length : Int) - ((0 : Nat) : Int) = (l.length : Int) by omega]
        go_wp2
        go_ret3
        rw [HL.out, HO.out, ← Hf.out, ← hcb.out]
        exact ⟨some ⟨w.heap.size, 0, none⟩, l.length, by rw [rowOf_len]; rfl, hB, by rw [rowOf_len]; exact Hrd.out, by rw [rowOf_len]; exact Nat.le_refl _, by omega⟩
  · have HL := Lib.hid (show bkL l v = [] from if_neg (by rw [← hx]; exact h0))
    have HO := Lib.hid (show bkO l = false from if_neg (by rw [← hx]; exact h0))
    have e1 : (x != 0) = true := by simpa using h0
    clear hx h0 h
    go_enter Tryz.func5, Tryz.ntmps5
    go_wp2_with fail
    (with_reducible refine (check_ _ A c l.length hl x Hx).mono ?_); rintro e w' ⟨rfl, rfl⟩
    go_wp2
    go_ret3
    exact RetSh.no (Below.refl _ _) HL.out HO.out
end Go.Proofs.YtaogplmcabbikaaGreatDoor
