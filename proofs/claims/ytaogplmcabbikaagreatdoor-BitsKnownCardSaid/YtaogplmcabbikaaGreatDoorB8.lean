/- Rows of bits: And, Or and Not of the program. -/
import Derived.Test.YtaogplmcabbikaaGreatDoorB7
namespace Go.Proofs.YtaogplmcabbikaaGreatDoor
open Go.RowKit
theorem zip_len (f : Nat → Nat → Nat) {l m : List Nat} (h : l.length = m.length) : (List.zipWith f l m).length = l.length := by simp [h]
theorem zip_get (f : Nat → Nat → Nat) {l m : List Nat} (h : l.length = m.length) {k : Nat} (hk : k < l.length) : (List.zipWith f l m)[k]? = some (f (l.getD k 0) (m.getD k 0)) := by
  rw [List.getElem?_zipWith, List.getElem?_eq_getElem hk, List.getElem?_eq_getElem (show k < m.length by omega)]
  simp [hk, show k < m.length by omega]
theorem zip_row {f : Nat → Nat → Nat} {g : Bool → Bool → Bool} {l m : List Nat} (h : l.length = m.length) (hw : W64 l) (hw' : W64 m) (hlt : ∀ x y, x < 18446744073709551616 → y < 18446744073709551616 → f x y < 18446744073709551616)
    (hb : ∀ x y j, x < 18446744073709551616 → y < 18446744073709551616 → j < 64 → (f x y).testBit j = g (x.testBit j) (y.testBit j)) : List.zipWith f l m = rowOf l.length fun i => g (rbit l i) (rbit m i) := by
  refine row_eq ?_ (zip_len f h) fun i hi => ?_
  · intro x hx
    obtain ⟨k, hk, rfl⟩ := List.getElem_of_mem hx
    have hk2 : k < l.length := by rwa [zip_len f h] at hk
    have := zip_get f h hk2
    rw [List.getElem?_eq_getElem hk] at this
    injection this with this
    rw [this]
    exact hlt _ _ (wget hw _) (wget hw' _)
  · have hk : i / 64 < l.length := by omega
    have := zip_get f h hk
    unfold rbit
    rw [List.getD_eq_getElem?_getD, this, Option.getD_some]
    exact hb _ _ _ (wget hw _) (wget hw' _) (by omega)
/-- the first k words are done -/
def fillU (r : List Nat) (k : Nat) : List Nat := r.take k ++ List.replicate (r.length - k) 0
theorem fillU_len {r : List Nat} {k : Nat} (h : k ≤ r.length) : (fillU r k).length = r.length := by simp [fillU]; omega
theorem fillU_set {r : List Nat} {k x : Nat} (h : r[k]? = some x) : (fillU r k).set k x = fillU r (k + 1) := by
  have hk : k < r.length := by
    rcases Nat.lt_or_ge k r.length with hh | hh
    · exact hh
    · rw [List.getElem?_eq_none hh] at h; cases h
  unfold fillU
  have e : r.length - k = (r.length - (k + 1)) + 1 := by omega
  rw [e, List.replicate_succ, List.set_append_right _ _ (by rw [List.length_take]; omega), List.length_take, Nat.min_eq_left (by omega), Nat.sub_self, List.set_cons_zero]
  rw [List.take_succ_eq_append_getElem hk, List.append_assoc]
  rw [List.getElem?_eq_getElem hk] at h
  injection h with h
  rw [h]
  rfl
def fAnd (x y : Nat) : Nat := x &&& y
def fOr (x y : Nat) : Nat := x ||| y
def fNot (x _ : Nat) : Nat := 18446744073709551615 ^^^ x
theorem fAnd_lt {x y : Nat} (hx : x < 18446744073709551616) (_ : y < 18446744073709551616) : fAnd x y < 18446744073709551616 := Nat.lt_of_le_of_lt Nat.and_le_left hx
theorem fOr_lt {x y : Nat} (hx : x < 18446744073709551616) (hy : y < 18446744073709551616) : fOr x y < 18446744073709551616 := Nat.or_lt_two_pow (n := 64) hx hy
theorem fNot_lt {x y : Nat} (hx : x < 18446744073709551616) (_ : y < 18446744073709551616) : fNot x y < 18446744073709551616 := Nat.xor_lt_two_pow (n := 64) (by decide) hx
def bothL (f : Nat → Nat → Nat) (l m : List Nat) : List Nat := if twoE l.length m.length = 0 then List.zipWith f l m else []
abbrev pairO (A A' : Option Addr) (n m c c' : Nat) : Obj := .cells #[.slice A n c, .slice A' m c'] 22 (0, 0)
theorem xor_max (x : Nat) (hx : x < 18446744073709551616) : bits .xor .u64 IntKind.u64.max (x : Int) = ((18446744073709551615 ^^^ x : Nat) : Int) := by
  rw [show IntKind.u64.max = ((18446744073709551615 : Nat) : Int) by rfl]
  exact u64_xor_nat _ _ (by decide) hx
abbrev TwoC (b off k X b' off' Y : Nat) (w : World) : Prop := w.cell? ⟨b, off + k, none⟩ = some (.int .u64 (X : Int)) ∧ w.cell? ⟨b', off' + k, none⟩ = some (.int .u64 (Y : Int))
theorem TwoC.drew {b off k X b' off' Y : Nat} {w : World} (h : TwoC b off k X b' off' Y w) : TwoC b off k X b' off' Y w.drew := h
theorem TwoC.set {b off k X b' off' Y g i : Nat} {u : Value} {w : World} (h : TwoC b off k X b' off' Y w) (h1 : b ≠ g) (h2 : b' ≠ g) : TwoC b off k X b' off' Y (w.setCell ⟨g, i, none⟩ u) :=
  ⟨(World.cell?_setCell_other w _ _ u (fun e => h1 (by injection e with e; exact e.symm))).trans h.1, (World.cell?_setCell_other w _ _ u (fun e => h2 (by injection e with e; exact e.symm))).trans h.2⟩
theorem ret_int_ {k : IntKind} {a b : Int} (h : a = b) : Ending.returned (.int k a) = .returned (.int k b) := by rw [h]
theorem andF_ (x y : Nat) (hx : x < 18446744073709551616) (hy : y < 18446744073709551616) (w : World) : Calls Tryz.prog 25 #[.int .u64 (x : Int), .int .u64 (y : Int)] w fun e w' => e = .returned (.int .u64 ((fAnd x y : Nat) : Int)) ∧ w = w' := by
  have hv := u64_and_nat x y hx hy
  have hsg : IntKind.u64.signed = false := rfl
  go_enter Tryz.func25, Tryz.ntmps25
  go_wp2
  go_ret
  exact ⟨by first | rfl | (rw [hv]; rfl), rfl⟩
set_option maxRecDepth 100000 in
set_option maxHeartbeats 4000000 in
theorem bothAnd_ (w : World) (A A' : Option Addr) (c c' : Nat) (l m : List Nat) (h : Reads w w.heap.size 1 A l.length (u64s l)) (h' : Reads w w.heap.size 1 A' m.length (u64s m)) (hw : W64 l) (hw' : W64 m) (hl : l.length ≤ 9223372036854775807) (hl' : m.length ≤ 9223372036854775807) :
    Calls Tryz.prog 24 #[.slice A l.length c, .slice A' m.length c', .func (.func 25) #[] #[]] w (RetSl w 1 (u64s (bothL fAnd l m)) (bothL fAnd l m).length (twoE l.length m.length)) := by
  obtain ⟨x, hx⟩ : ∃ x, x = chkB l.length := ⟨_, rfl⟩
  obtain ⟨y, hy⟩ : ∃ y, y = chkB m.length := ⟨_, rfl⟩
  obtain ⟨t, ht⟩ : ∃ t, t = twoE l.length m.length := ⟨_, rfl⟩
  have Hx := Lib.hid hx
  have Hy := Lib.hid hy
  have ht2 := ht
  unfold twoE at ht2
  rw [← hx, ← hy] at ht2
  rw [← ht]
  have hno : t ≠ 0 → bothL fAnd l m = [] := fun hh => if_neg (by rw [← ht]; exact hh)
  have hyes : t = 0 → bothL fAnd l m = List.zipWith fAnd l m := fun hh => if_pos (by rw [← ht]; exact hh)
  have hF := (Fr.start w).newN rfl (pairO A A' l.length m.length c c')
  have p0 := Lib.cell_of_heap (hF.at List.mem_cons_self) 0
  have p1 := Lib.cell_of_heap (hF.at List.mem_cons_self) 1
  have HF := Lib.hid hF
  have HR := Lib.hid h
  have HR' := Lib.hid h'
  have Ht := Lib.hid ht2
  have Hno := Lib.hid hno
  have Hyes := Lib.hid hyes
  have Hw := Lib.hid hw
  have Hw' := Lib.hid hw'
  generalize bothL fAnd l m = Z at *
  clear hF h h' hx hy ht2 ht hno hyes hw hw'
  go_enter Tryz.func24, Tryz.ntmps24
  go_wp2_with fail
  go_loop [17] (fun i => ∃ k : Nat, k ≤ 2 ∧ i = .int .i64 k ∧ Hid ((0 < k → x = 0) ∧ (1 < k → y = 0))) (fun i => 2 - (intOf i).toNat)
  case atStart => exact ⟨0, by omega, rfl, Lib.hid ⟨fun h => absurd h (by omega), fun h => absurd h (by omega)⟩⟩
  case round =>
    obtain ⟨k, hk, rfl, hh⟩ := hrel
    rcases (show k = 0 ∨ k = 1 ∨ k = 2 by omega) with rfl | rfl | rfl
    · by_cases h0 : x = 0
      · subst h0
        go_wp2_with fail
        (with_reducible refine (check_ _ A c l.length hl 0 Hx).mono ?_); rintro e w' ⟨rfl, rfl⟩
        go_wp2
        go_round
        case rel => exact ⟨1, by omega, rfl, Lib.hid ⟨fun _ => by trivial, fun h => absurd h (by omega)⟩⟩
        case measure => simp [intOf]
      · have e1 : (x != 0) = true := by simpa using h0
        have HT := Lib.hid (show t = x by rw [Ht.out]; simp [h0])
        have HZ := Lib.hid (Hno.out (by rw [HT.out]; exact h0))
        clear h0
        go_wp2_with fail
        (with_reducible refine (check_ _ A c l.length hl x Hx).mono ?_); rintro e w' ⟨rfl, rfl⟩
        go_wp2
        go_ret2
        rw [HT.out, HZ.out]
        exact RetSl.nil HF.out.bel rfl rfl
    · by_cases h0 : y = 0
      · subst h0
        have hx0 := hh.out.1 (by omega)
        have HX0 := Lib.hid hx0
        clear hx0
        go_wp2_with fail
        (with_reducible refine (check_ _ A' c' m.length hl' 0 Hy).mono ?_); rintro e w' ⟨rfl, rfl⟩
        go_wp2
        go_round
        case rel => exact ⟨2, by omega, rfl, Lib.hid ⟨fun _ => HX0.out, fun _ => by trivial⟩⟩
        case measure => simp [intOf]
      · have e1 : (y != 0) = true := by simpa using h0
        have HT := Lib.hid (show t = y by rw [Ht.out, hh.out.1 (by omega)]; simp [h0])
        have HZ := Lib.hid (Hno.out (by rw [HT.out]; exact h0))
        clear h0
        go_wp2_with fail
        (with_reducible refine (check_ _ A' c' m.length hl' y Hy).mono ?_); rintro e w' ⟨rfl, rfl⟩
        go_wp2
        go_ret2
        rw [HT.out, HZ.out]
        exact RetSl.nil HF.out.bel rfl rfl
    · have HX0 := Lib.hid (hh.out.1 (by omega))
      have HY0 := Lib.hid (hh.out.2 (by omega))
      clear hh
      by_cases hlm : l.length = m.length
      · have e1 : ((l.length : Int) != (m.length : Int)) = false := by simp [hlm]
        have HT := Lib.hid (show t = 0 by rw [Ht.out, HX0.out, HY0.out]; simp [hlm])
        have hZ := Hyes.out HT.out
        have h18 := chkB_ok.1 (show chkB l.length = 0 by rw [← Hx.out]; exact HX0.out)
        have hmk := mk64 l.length (by omega)
        have HZl := Lib.hid (show Z.length = l.length by rw [hZ, zip_len _ hlm])
        have hown : ((w.alloc (pairO A A' l.length m.length c c')).alloc (.cells (madeCells #[.int .u64 0] l.length) 37)).ownsRow w.heap.size 37 1 (.slice (some ⟨w.heap.size + 1, 0, none⟩) l.length l.length) l.length (u64s (fillU Z 0)) := by
          have := World.ownsRow_lit (base := w.heap.size) (size := 1) (e := 37) (w.alloc (pairO A A' l.length m.length c c')) (madeCells #[.int .u64 0] l.length) l.length (by simp) (by unfold maxLen; omega) (by rw [zeros_made]; simp)
          rw [zeros_made] at this ⊢
          have e : u64s (fillU Z 0) = List.replicate l.length (.int .u64 0) := by
            unfold fillU
            simp [u64s, u64V, HZl.out]
          rw [e]
          simpa using this
        have HZ := Lib.hid hZ
        have Hlm := Lib.hid hlm
        have HB0 := Lib.hid (ba HF.out.bel (.cells (madeCells #[.int .u64 0] l.length) 37))
        have Hown := Lib.hid hown
        clear hZ hlm hown p0 p1
        go_wp2_with fail
        go_loopw [37] (fun i wr => ∃ k : Nat, k ≤ l.length ∧ i = .int .i64 k ∧ wr.ownsRow w.heap.size 37 1 (.slice (some ⟨w.heap.size + 1, 0, none⟩) l.length l.length) l.length (u64s (fillU Z k)) ∧ Below w.heap.size w wr) (fun i _ => l.length - (intOf i).toNat)
        case atStart => exact ⟨0, Nat.zero_le _, rfl, Hown.out, HB0.out⟩
        case round =>
          obtain ⟨k, hk, rfl, hO, hB⟩ := hrel
          clear Hown hmk HB0
          by_cases hkl : k < l.length
          · have hkm : k < m.length := by rw [← Hlm.out]; exact hkl
            obtain ⟨b, off, rfl, hb, d0⟩ := u64At HR.out hkl
            obtain ⟨b', off', rfl, hb', d0'⟩ := u64At HR'.out hkm
            have d1 := (hB.cell (p := ⟨b, off + k, none⟩) hb).trans d0
            have d1' := (hB.cell (p := ⟨b', off' + k, none⟩) hb').trans d0'
            have hX := wget Hw.out k
            have hY := wget Hw'.out k
            have hset := fillU_set (r := Z) (k := k) (x := fAnd (l.getD k 0) (m.getD k 0)) (by rw [HZ.out]; exact zip_get _ Hlm.out hkl)
            generalize l.getD k 0 = X at *
            generalize m.getD k 0 = Y at *
            have hfr := hO.frozenAt k
            have hcl : wr.cell? ⟨w.heap.size + 1, k, none⟩ = some (.int .u64 0) := by
              rw [hO.cellAt k (by omega), List.getElem?_map]
              unfold fillU
              rw [List.getElem?_append_right (by rw [List.length_take]; omega), List.getElem?_replicate, if_pos (by rw [List.length_take, HZl.out]; omega)]
              rfl
            obtain ⟨hst, _⟩ := hO.stored k (.int .u64 ((fAnd X Y : Nat) : Int))
            have hst2 : (wr.setCell ⟨w.heap.size + 1, k, none⟩ (.int .u64 ((fAnd X Y : Nat) : Int))).ownsRow w.heap.size 37 1 (.slice (some ⟨w.heap.size + 1, 0, none⟩) l.length l.length) l.length (u64s (fillU Z (k + 1))) := by
              rw [← hset, u64s, List.map_set]; exact hst
            have hBs := bs hB (p := ⟨w.heap.size + 1, k, none⟩) (u := .int .u64 ((fAnd X Y : Nat) : Int)) (by simp only; omega)
            have hT : TwoC b off k X b' off' Y wr := ⟨d1, d1'⟩
            have hT2 : TwoC b off k X b' off' Y (wr.setCell ⟨w.heap.size + 1, k, none⟩ (.int .u64 ((fAnd X Y : Nat) : Int))).drew := (hT.set (by omega) (by omega)).drew
            have hi0 : (0 : Int) ≤ (k : Int) := by omega
            have hi1 : (k : Int) < (l.length : Int) := by omega
            have hi2 : (k : Int) < (m.length : Int) := by omega
            have hbw : b < wr.heap.size := Nat.lt_of_lt_of_le hb hB.size
            have hbw' : b' < wr.heap.size := Nat.lt_of_lt_of_le hb' hB.size
            have hgw := (hO.lt (w.heap.size + 1) rfl).2
            have Hst : Hid ((wr.setCell ⟨w.heap.size + 1, k, none⟩ (.int .u64 ((fAnd X Y : Nat) : Int))).drew.ownsRow w.heap.size 37 1 (.slice (some ⟨w.heap.size + 1, 0, none⟩) l.length l.length) l.length (u64s (fillU Z (k + 1)))) := Lib.hid hst2
            have HBs : Hid (Below w.heap.size w (wr.setCell ⟨w.heap.size + 1, k, none⟩ (.int .u64 ((fAnd X Y : Nat) : Int))).drew) := Lib.hid ⟨hBs.os, hBs.tape, hBs.output, hBs.size, hBs.block⟩
            clear hst hst2 hset hBs hO hB d0 d0' d1 d1'
            go_wp2_with fail
            go_region_held3 (fun w' => TwoC b off k X b' off' Y w')
              (with_reducible (first | exact TwoC.drew hT | exact hT2 | assumption))
              ((go_at_call 25; (with_reducible refine (andF_ X Y hX hY _).mono ?_); rintro e w' ⟨rfl, rfl⟩))
            all_goals
              go_wp2
              go_roundw
              case rel => exact ⟨k + 1, by omega, by go_num, Hst.out, HBs.out⟩
              case measure => simp [intOf]; omega
          · obtain rfl : k = l.length := by omega
            obtain ⟨A9, c9, he, hrd, hc1, hc2⟩ := own_sl hO
            injection he with e1 e2 e3
            clear e2
            subst e1 e3
            have hrd2 : Reads wr wr.heap.size 1 (some ⟨w.heap.size + 1, 0, none⟩) l.length (u64s Z) := by
              have e : fillU Z l.length = Z := by unfold fillU; rw [HZl.out, Nat.sub_self, List.take_of_length_le (by rw [HZl.out]; exact Nat.le_refl _)]; simp
              rw [e] at hrd
              exact hrd
            have Hrd := Lib.hid hrd2
            clear hO hrd hrd2 hc1 hc2
            go_wp2
            go_ret2
            rw [HT.out]
            exact ⟨some ⟨w.heap.size + 1, 0, none⟩, l.length, by rw [HZl.out]; rfl, hB, by rw [HZl.out]; exact Hrd.out, by rw [HZl.out]; exact Nat.le_refl _, by omega⟩
      · have e1 : ((l.length : Int) != (m.length : Int)) = true := by simp; omega
        have HT := Lib.hid (show t = 6 by rw [Ht.out, HX0.out, HY0.out]; simp [hlm])
        have HZ := Lib.hid (Hno.out (by rw [HT.out]; decide))
        clear hlm
        go_wp2
        go_ret2
        rw [HT.out, HZ.out]
        exact RetSl.nil HF.out.bel rfl rfl
end Go.Proofs.YtaogplmcabbikaaGreatDoor
