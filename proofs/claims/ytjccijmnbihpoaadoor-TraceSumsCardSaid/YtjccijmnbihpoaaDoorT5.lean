/- Traces: Count and Cut of the program and of its reference. -/
import Derived.Test.YtjccijmnbihpoaaDoorT3
namespace Go.Proofs.YtjccijmnbihpoaaDoor
open Go.RowKit
theorem evEl : Elem Tryd.prog 22 37 (.agg #[.int .i32 0, .int .i32 0]) 2 8 := ⟨Tryd.underlying22, by kernel_rfl, rfl, by decide⟩
theorem own_empty (w : World) (t : TypeId) (size : Nat) : (w.alloc (.cells #[] t)).ownsRow w.heap.size t size (.slice (some ⟨w.heap.size, 0, none⟩) 0 0) 0 [] :=
  ⟨by simp, .inr ⟨w.heap.size, 0, #[], rfl, Nat.le_refl _, alloc1_new _ _, Nat.le_refl _, by unfold maxLen; omega, by simp, by simp⟩⟩
/-- x[i:j] -/
theorem sl_mid {P : Program} {t e : TypeId} {z : Value} {size bytes : Nat} (E : Elem P t e z size bytes) (he : P.elem t = e) {w : World} {B : Nat} {A : Option Addr} {len cap : Nat} {xs : List Value} (h : Reads w B size A len xs) (p q : Int) (i j : Nat) (hp : p = i) (hq : q = j) (hij : i ≤ j) (hj : j ≤ len) (hc : len ≤ cap) :
    ∃ A', (∀ W : World, (Instr.sliceAt t (.slice A len cap) (some (.int .i64 p)) (some (.int .i64 q)) none).run P W = .ok (.slice A' (j - i) (cap - i)) W) ∧ Reads w B size A' (j - i) ((xs.drop (i * size)).take ((j - i) * size)) := by
  subst hp hq
  refine ⟨_, fun W => ?_, (h.cut (k := i) (by omega) hc).firsts (k := j - i) (by omega)⟩
  have ht : P.underlying t = some (.slice (P.elem t)) := by rw [he]; exact E.ht
  obtain ⟨n, hi, _, hs, _⟩ := info_parts E.hi
  rw [run_sliceAt_slice W t _ _ _ _ ht, run_slice_lh W t A len cap ht .i64 .i64 (i : Int) (j : Int) (by omega) (by omega) (by omega), he]
  simp [sizeOf, typeInfo, hi, sliced, Result.andThen, hs]
theorem far_ (w : World) (A : Option Addr) (c n : Nat) (v : Bool) (hv : Hid (v = decide (400 < n ∧ n ≤ 5000 ∨ 5100 < n))) :
    Calls Tryd.prog 8 #[.slice A n c] w fun e w' => e = .returned (.bool v) ∧ w' = w := by
  go_enter Tryd.func8, Tryd.ntmps8
  go_wp2
  all_goals
    go_ret
    go_light
    exact ⟨ret_bool (by rw [hv.out, Bool.eq_iff_iff]; simp; try omega), rfl⟩
set_option maxRecDepth 100000 in
set_option maxHeartbeats 1000000 in
theorem count_ (w : World) (A : Option Addr) (c : Nat) (l : List Ev) (h : Reads w w.heap.size 2 A l.length (evs l)) (ho : Ok32 l) (hl : l.length ≤ 140737488355328) (kind : Int) :
    Calls Tryd.prog 20 #[.slice A l.length c, .int .i64 kind] w fun e w' => e = .returned (.tuple #[.int .i64 (cntT l kind).1, .int .i64 (cntT l kind).2]) ∧ Below w.heap.size w w' := by
  by_cases hk : badK kind
  · have HS := Lib.hid (show cntT l kind = (0, 2) from if_pos hk)
    obtain ⟨k1, k2⟩ := hk
    have e1 : (kind != 1) = true := by simp [k1]
    have e2 : (kind != 2) = true := by simp [k2]
    clear k1 k2 h
    go_enter Tryd.func20, Tryd.ntmps20
    go_wp2
    go_ret2
    exact ⟨by rw [HS.out]; rfl, Below.refl _ _⟩
  · have HS := Lib.hid (show cntT l kind = (((cntN kind l : Nat) : Int), 0) from if_neg hk)
    have hk2 : kind = 1 ∨ kind = 2 := by unfold badK at hk; omega
    clear hk
    rcases hk2 with rfl | rfl
    all_goals
      go_enter Tryd.func20, Tryd.ntmps20
      go_wp2
    · go_loopw [17, 6] (fun i n wr => ∃ k : Nat, k ≤ l.length ∧ i = .int .i64 k ∧ n = .int .i64 (cntN 1 (l.take k) : Nat) ∧ Below w.heap.size w wr) (fun i _ _ => l.length - (intOf i).toNat)
      case atStart => exact ⟨0, Nat.zero_le _, rfl, rfl, Below.refl _ _⟩
      case round =>
        obtain ⟨k, hk, rfl, rfl, hbl⟩ := hrel
        by_cases hlt : k < l.length
        · have hR := h.go hbl
          obtain ⟨b, off, K, a, rfl, hb, d1, d2, hd⟩ := evAt hR hlt
          have hw := wrap_i32 (ho _ (mem_dropE hd)).1
          simp only at hw
          have hB := ba hbl (evO (K, a))
          have hN := cntN_le 1 l k
          have hst := Lib.hid (cntN_step (kind := 1) hd)
          generalize cntN 1 (l.take k) = N at *
          by_cases hK : K = 1
          · subst hK
            have e1 : ((1 : Int) == 1) = true := by simp
            clear hd
            go_wp2
            go_roundw
            case rel => exact ⟨k + 1, by omega, by go_num, by rw [hst.out]; simp, hB⟩
            case measure => simp [intOf]; omega
          · have e1 : (K == 1) = false := by simp [hK]
            have hst2 := Lib.hid (show cntN 1 (l.take (k + 1)) = N by rw [hst.out]; simp [hK])
            clear hd hst hK
            go_wp2
            go_roundw
            case rel => exact ⟨k + 1, by omega, by go_num, by rw [hst2.out], hB⟩
            case measure => simp [intOf]; omega
        · obtain rfl : k = l.length := by omega
          rw [List.take_of_length_le (Nat.le_refl _)] at *
          go_wp2
          go_ret2
          exact ⟨by rw [HS.out]; rfl, hbl⟩
    · go_loopw [17, 6] (fun i n wr => ∃ k : Nat, k ≤ l.length ∧ i = .int .i64 k ∧ n = .int .i64 (cntN 2 (l.take k) : Nat) ∧ Below w.heap.size w wr) (fun i _ _ => l.length - (intOf i).toNat)
      case atStart => exact ⟨0, Nat.zero_le _, rfl, rfl, Below.refl _ _⟩
      case round =>
        obtain ⟨k, hk, rfl, rfl, hbl⟩ := hrel
        by_cases hlt : k < l.length
        · have hR := h.go hbl
          obtain ⟨b, off, K, a, rfl, hb, d1, d2, hd⟩ := evAt hR hlt
          have hw := wrap_i32 (ho _ (mem_dropE hd)).1
          simp only at hw
          have hB := ba hbl (evO (K, a))
          have hN := cntN_le 2 l k
          have hst := Lib.hid (cntN_step (kind := 2) hd)
          generalize cntN 2 (l.take k) = N at *
          by_cases hK : K = 2
          · subst hK
            have e1 : ((2 : Int) == 2) = true := by simp
            clear hd
            go_wp2
            go_roundw
            case rel => exact ⟨k + 1, by omega, by go_num, by rw [hst.out]; simp, hB⟩
            case measure => simp [intOf]; omega
          · have e1 : (K == 2) = false := by simp [hK]
            have hst2 := Lib.hid (show cntN 2 (l.take (k + 1)) = N by rw [hst.out]; simp [hK])
            clear hd hst hK
            go_wp2
            go_roundw
            case rel => exact ⟨k + 1, by omega, by go_num, by rw [hst2.out], hB⟩
            case measure => simp [intOf]; omega
        · obtain rfl : k = l.length := by omega
          rw [List.take_of_length_le (Nat.le_refl _)] at *
          go_wp2
          go_ret2
          exact ⟨by rw [HS.out]; rfl, hbl⟩
set_option maxRecDepth 100000 in
set_option maxHeartbeats 1000000 in
theorem rcount_ (w : World) (A : Option Addr) (c : Nat) (l : List Ev) (h : Reads w w.heap.size 2 A l.length (evs l)) (ho : Ok32 l) (hl : l.length ≤ 140737488355328) (kind : Int) :
    Calls Tryd.prog 21 #[.slice A l.length c, .int .i64 kind] w fun e w' => e = .returned (.tuple #[.int .i64 (cntT l kind).1, .int .i64 (cntT l kind).2]) ∧ Below w.heap.size w w' := by
  by_cases hk : badK kind
  · have HS := Lib.hid (show cntT l kind = (0, 2) from if_pos hk)
    obtain ⟨k1, k2⟩ := hk
    have e1 : (kind != 1) = true := by simp [k1]
    have e2 : (kind != 2) = true := by simp [k2]
    clear k1 k2 h
    go_enter Tryd.func21, Tryd.ntmps21
    go_wp2
    go_ret2
    exact ⟨by rw [HS.out]; rfl, Below.refl _ _⟩
  · have HS := Lib.hid (show cntT l kind = (((cntN kind l : Nat) : Int), 0) from if_neg hk)
    have hk2 : kind = 1 ∨ kind = 2 := by unfold badK at hk; omega
    clear hk
    rcases hk2 with rfl | rfl
    all_goals
      go_enter Tryd.func21, Tryd.ntmps21
      go_wp2
    · go_loopw [7, 6] (fun i n wr => ∃ k : Nat, k ≤ l.length ∧ i = .int .i64 k ∧ n = .int .i64 (cntN 1 (l.take k) : Nat) ∧ Below w.heap.size w wr) (fun i _ _ => l.length - (intOf i).toNat)
      case atStart => exact ⟨0, Nat.zero_le _, rfl, rfl, Below.refl _ _⟩
      case round =>
        obtain ⟨k, hk, rfl, rfl, hbl⟩ := hrel
        by_cases hlt : k < l.length
        · have hR := h.go hbl
          obtain ⟨b, off, K, a, rfl, hb, d1, d2, hd⟩ := evAt hR hlt
          have hw := wrap_i32 (ho _ (mem_dropE hd)).1
          simp only at hw
          have hB := hbl
          have hN := cntN_le 1 l k
          have hst := Lib.hid (cntN_step (kind := 1) hd)
          generalize cntN 1 (l.take k) = N at *
          by_cases hK : K = 1
          · subst hK
            have e1 : ((1 : Int) == 1) = true := by simp
            clear hd
            go_wp2
            go_roundw
            case rel => exact ⟨k + 1, by omega, by go_num, by rw [hst.out]; simp, hB⟩
            case measure => simp [intOf]; omega
          · have e1 : (K == 1) = false := by simp [hK]
            have hst2 := Lib.hid (show cntN 1 (l.take (k + 1)) = N by rw [hst.out]; simp [hK])
            clear hd hst hK
            go_wp2
            go_roundw
            case rel => exact ⟨k + 1, by omega, by go_num, by rw [hst2.out], hB⟩
            case measure => simp [intOf]; omega
        · obtain rfl : k = l.length := by omega
          rw [List.take_of_length_le (Nat.le_refl _)] at *
          go_wp2
          go_ret2
          exact ⟨by rw [HS.out]; rfl, hbl⟩
    · go_loopw [7, 6] (fun i n wr => ∃ k : Nat, k ≤ l.length ∧ i = .int .i64 k ∧ n = .int .i64 (cntN 2 (l.take k) : Nat) ∧ Below w.heap.size w wr) (fun i _ _ => l.length - (intOf i).toNat)
      case atStart => exact ⟨0, Nat.zero_le _, rfl, rfl, Below.refl _ _⟩
      case round =>
        obtain ⟨k, hk, rfl, rfl, hbl⟩ := hrel
        by_cases hlt : k < l.length
        · have hR := h.go hbl
          obtain ⟨b, off, K, a, rfl, hb, d1, d2, hd⟩ := evAt hR hlt
          have hw := wrap_i32 (ho _ (mem_dropE hd)).1
          simp only at hw
          have hB := hbl
          have hN := cntN_le 2 l k
          have hst := Lib.hid (cntN_step (kind := 2) hd)
          generalize cntN 2 (l.take k) = N at *
          by_cases hK : K = 2
          · subst hK
            have e1 : ((2 : Int) == 2) = true := by simp
            clear hd
            go_wp2
            go_roundw
            case rel => exact ⟨k + 1, by omega, by go_num, by rw [hst.out]; simp, hB⟩
            case measure => simp [intOf]; omega
          · have e1 : (K == 2) = false := by simp [hK]
            have hst2 := Lib.hid (show cntN 2 (l.take (k + 1)) = N by rw [hst.out]; simp [hK])
            clear hd hst hK
            go_wp2
            go_roundw
            case rel => exact ⟨k + 1, by omega, by go_num, by rw [hst2.out], hB⟩
            case measure => simp [intOf]; omega
        · obtain rfl : k = l.length := by omega
          rw [List.take_of_length_le (Nat.le_refl _)] at *
          go_wp2
          go_ret2
          exact ⟨by rw [HS.out]; rfl, hbl⟩
/-- what comes back: a slice that reads as xs -/
def RetS (w : World) (size : Nat) (xs : List Value) (n : Nat) (e : Ending) (w' : World) : Prop :=
  ∃ A c, e = .returned (.slice A n c) ∧ Below w.heap.size w w' ∧ Reads w' w'.heap.size size A n xs ∧ n ≤ c ∧ c ≤ 9223372036854775807
set_option maxRecDepth 100000 in
set_option maxHeartbeats 1000000 in
theorem clone_ (w : World) (A : Option Addr) (c : Nat) (l : List Ev) (h : Reads w w.heap.size 2 A l.length (evs l)) (hl : l.length ≤ 8796093022208) :
    Calls Tryd.prog 32 #[.slice A l.length c] w (RetS w 2 (evs l) l.length) := by
  rcases A with _ | a
  · obtain rfl : l = [] := by
      rcases l with _ | ⟨x, r⟩
      · rfl
      · obtain ⟨_, _, hh, _⟩ := h.2 (by simp); cases hh
    have hnil : ∀ W : World, (binOp .eql 22 (.slice none 0 c) (.slice none 0 0)).run Tryd.prog W = .ok (.bool true) W := fun W => Lib.run_eql_slice_nil W _ _ _ _ _ _ _ Tryd.underlying22
    simp only [List.length_nil] at *
    clear h
    go_enter Tryd.func32, Tryd.ntmps32
    go_wp2
    go_ret
    exact ⟨none, 0, rfl, Below.refl _ _, Reads.none_, Nat.le_refl _, by omega⟩
  · have hrd := h.al (.cells #[] 37)
    have Hrd := Lib.hid hrd
    have hown := own_empty w 37 2
    have hnil : ∀ W : World, (binOp .eql 22 (.slice (some a) l.length c) (.slice none 0 0)).run Tryd.prog W = .ok (.bool false) W := fun W => Lib.run_eql_slice_nil W _ _ _ _ _ _ _ Tryd.underlying22
    clear h hrd
    go_enter Tryd.func32, Tryd.ntmps32
    go_wp2_with (at_builtin; refine wpList_apr evEl (w0 := w) hown (ba (Below.refl _ _) _) (by exact Hrd.out) (evs_one l) ?_)
    intro v1 w1 hO1 hb1 hg1
    try simp only [Nat.zero_add, List.nil_append] at hO1
    obtain ⟨A1, c1, rfl, hr1, hc1, hc2⟩ := own_sl hO1
    clear hown hg1 hO1 Hrd
    go_wp2
    go_ret
    exact ⟨A1, c1, rfl, hb1, hr1, hc1, hc2⟩
theorem evs_mid (l : List Ev) (i j : Nat) : ((evs l).drop (i * 2)).take (j * 2) = evs ((l.drop i).take j) := by rw [flat2_drop, flat2_take]
set_option maxRecDepth 100000 in
set_option maxHeartbeats 1000000 in
theorem cut_ (w : World) (A : Option Addr) (c : Nat) (l : List Ev) (h : Reads w w.heap.size 2 A l.length (evs l)) (hc : l.length ≤ c) (hl : l.length ≤ 8796093022208) (p q : Int) :
    Calls Tryd.prog 22 #[.slice A l.length c, .int .i64 p, .int .i64 q] w (RetSl w 2 (evs (cutL l p q)) (cutL l p q).length (cutE l p q)) := by
  by_cases hb : cutB l p q
  · have H1 : cutL l p q = [] := if_pos hb
    have H2 : cutE l p q = 7 := if_pos hb
    rw [H1, H2]
    unfold cutB at hb
    clear H1 H2 h
    go_enter Tryd.func22, Tryd.ntmps22
    go_wp2
    all_goals first | (exfalso; omega) | skip
    all_goals
      go_ret2
      exact RetSl.nil (Below.refl _ _) rfl rfl
  · have H1 : cutL l p q = (l.drop p.toNat).take (q.toNat - p.toNat) := if_neg hb
    have H2 : cutE l p q = 0 := if_neg hb
    rw [H1, H2]
    unfold cutB at hb
    obtain ⟨i, rfl⟩ : ∃ i : Nat, p = i := ⟨p.toNat, by omega⟩
    obtain ⟨j, rfl⟩ : ∃ j : Nat, q = j := ⟨q.toNat, by omega⟩
    simp only [Int.toNat_natCast] at *
    obtain ⟨A', hs, hR⟩ := sl_mid evEl (by kernel_rfl) h (i : Int) (j : Int) i j rfl rfl (by omega) (by omega) hc
    rw [evs_mid] at hR
    have hlen : ((l.drop i).take (j - i)).length = j - i := by rw [List.length_take, List.length_drop]; omega
    generalize (l.drop i).take (j - i) = m at *
    rw [← hlen] at hs hR
    have hcl := clone_ w A' (c - i) m hR (by omega)
    have i1 : ¬ ((i : Int) < 0) := by omega
    have i2 : ¬ (j < i) := by omega
    have i3 : ¬ (l.length < j) := by omega
    clear hR h hb H1 H2 hlen
    go_enter Tryd.func22, Tryd.ntmps22
    go_wp2_with fail
    (with_reducible refine hcl.mono ?_); rintro e w' ⟨A1, c1, rfl, hb1, hr1, hc1, hc2⟩
    clear hcl hs
    go_wp2
    go_ret2
    exact ⟨A1, c1, rfl, hb1, hr1, hc1, hc2⟩
set_option maxRecDepth 100000 in
set_option maxHeartbeats 1000000 in
theorem rcut_ (w : World) (A : Option Addr) (c : Nat) (l : List Ev) (h : Reads w w.heap.size 2 A l.length (evs l)) (hc : l.length ≤ c) (hl : l.length ≤ 8796093022208) (p q : Int) :
    Calls Tryd.prog 23 #[.slice A l.length c, .int .i64 p, .int .i64 q] w (RetSl w 2 (evs (cutL l p q)) (cutL l p q).length (cutE l p q)) := by
  by_cases hb : cutB l p q
  · have H1 : cutL l p q = [] := if_pos hb
    have H2 : cutE l p q = 7 := if_pos hb
    rw [H1, H2]
    unfold cutB at hb
    clear H1 H2 h
    go_enter Tryd.func23, Tryd.ntmps23
    go_wp2
    all_goals first | (exfalso; omega) | skip
    all_goals
      go_ret2
      exact RetSl.nil (Below.refl _ _) rfl rfl
  · have H1 : cutL l p q = (l.drop p.toNat).take (q.toNat - p.toNat) := if_neg hb
    have H2 : cutE l p q = 0 := if_neg hb
    rw [H1, H2]
    unfold cutB at hb
    obtain ⟨i, rfl⟩ : ∃ i : Nat, p = i := ⟨p.toNat, by omega⟩
    obtain ⟨j, rfl⟩ : ∃ j : Nat, q = j := ⟨q.toNat, by omega⟩
    simp only [Int.toNat_natCast] at *
    obtain ⟨A', hs, hR⟩ := sl_mid evEl (by kernel_rfl) h (i : Int) (j : Int) i j rfl rfl (by omega) (by omega) hc
    rw [evs_mid] at hR
    have hlen : ((l.drop i).take (j - i)).length = j - i := by rw [List.length_take, List.length_drop]; omega
    generalize (l.drop i).take (j - i) = m at *
    rw [← hlen] at hs hR
    have Hrd := Lib.hid (hR.al (.cells #[] 37))
    have hown := own_empty w 37 2
    have i1 : ¬ ((i : Int) < 0) := by omega
    have i2 : ¬ (j < i) := by omega
    have i3 : ¬ (l.length < j) := by omega
    have hm : m.length ≤ 8796093022208 := by omega
    clear hR h hb H1 H2 hlen
    go_enter Tryd.func23, Tryd.ntmps23
    go_wp2_with (at_builtin; refine wpList_apr evEl (w0 := w) hown (ba (Below.refl _ _) _) (by exact Hrd.out) (evs_one m) ?_)
    intro v1 w1 hO1 hb1 hg1
    try simp only [Nat.zero_add, List.nil_append] at hO1
    obtain ⟨A1, c1, rfl, hr1, hc1, hc2⟩ := own_sl hO1
    clear hown hg1 hO1 Hrd hs
    go_wp2
    go_ret2
    exact ⟨A1, c1, rfl, hb1, hr1, hc1, hc2⟩
end Go.Proofs.YtjccijmnbihpoaaDoor
