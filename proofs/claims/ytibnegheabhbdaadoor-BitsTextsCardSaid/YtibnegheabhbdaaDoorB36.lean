/- Rows of bits: Parse of the program. -/
import Derived.Test.YtibnegheabhbdaaDoorB35
import Derived.Deep.DeepCutAuto
import Derived.Sort.OwnSortedInts
namespace Go.Proofs.YtibnegheabhbdaaDoor
open Go.RowKit
/-- the variable that strings.Index reads holds a number -/
def ML (w : World) : Prop := ∃ m, w.cell? ⟨5, 0, none⟩ = some (.int .i64 m)
theorem ML.below {w w' : World} (h : ML w) (hb : Below w.heap.size w w') : ML w' := by
  obtain ⟨m, hm⟩ := h
  exact ⟨m, (hb.cell (p := ⟨5, 0, none⟩) (World.block_lt_of_cell? _ _ hm)).trans hm⟩
theorem ml_of {w : World} (h : w.ShapedOpen Tryd.prog) : ML w := Tryd.laysM146.s1_3 w h
theorem rev_ (w0 w : World) (v : Value) (n : Nat) (l : List Nat) (hn : l.length = n) (hn2 : n ≤ 1000) (hO : w.ownsRow w0.heap.size 55 1 v n (u64s l)) (hB : Below w0.heap.size w0 w) :
    Calls Tryd.prog 61 #[v] w fun e w' => e = .returned (.tuple #[]) ∧ Below w0.heap.size w0 w' ∧ w'.ownsRow w0.heap.size 55 1 v n (u64s l.reverse) := by
  subst hn
  have hO' := hO
  rcases hO.2 with ⟨rfl, h0⟩ | ⟨g, cap, cur, rfl, hbg, hg, h1, h2, h3, h4⟩
  · obtain rfl : l = [] := List.eq_nil_of_length_eq_zero h0
    refine (Tryd.slices_Reverse_empty (α := Nat) none 0 w).mono ?_
    rintro e w' ⟨rfl, rfl⟩
    exact ⟨rfl, hB, hO⟩
  · have hH : Go.Sort.Holds u64V w g 0 l.toArray := fun j hj => by
      have hj' : j < l.length := by simpa using hj
      rw [Nat.zero_add]
      refine ⟨?_, hO.frozenAt j⟩
      rw [hO.cellAt j (by omega), List.getElem?_map, List.getElem?_eq_getElem hj']
      simp [hj']
    refine (Tryd.slices_Reverse u64V (fun _ => rfl) g 0 cap l w hH (by omega)).mono ?_
    rintro e w' ⟨rfl, m, rfl⟩
    have hgw : g < w.heap.size := (Array.getElem?_eq_some_iff.1 hg).1
    refine ⟨rfl, ?_, ?_⟩
    · refine hB.trans ⟨rfl, rfl, rfl, by simp, fun k hk => ?_⟩
      have : g ≠ k := by omega
      simp [Go.Sort.putRow, Go.Sort.mapBlock, Sort.ahead, Array.getElem?_modify, this]
    · refine ⟨by simp [u64s], .inr ⟨g, cap, Go.Sort.putCells u64V 0 l.reverse.toArray cur, rfl, hbg, ?_, h1, h2, by simp [Go.Sort.putCells, h3], ?_⟩⟩
      · simp [Go.Sort.putRow, Go.Sort.mapBlock, Sort.ahead, Array.getElem?_modify, hg, Go.Sort.onCells]
      · have hc : l.length ≤ cur.size := by omega
        rw [Nat.mul_one]
        apply List.ext_getElem?
        intro j
        by_cases hj : j < l.length
        · rw [List.getElem?_take_of_lt hj, Array.getElem?_toList]
          simp [Go.Sort.putCells, u64s, hj, show j < cur.size by omega]
        · rw [List.getElem?_take_eq_none (by omega), List.getElem?_eq_none (by simp [u64s]; omega)]
def Strs (P : List (List UInt8)) : List Value := P.map fun p => Value.string (mkB p)
theorem splitW (s : ByteArray) (w : World) (hsz : s.size ≤ 1000) {m : Int} (hm : w.cell? ⟨5, 0, none⟩ = some (.int .i64 m)) {P : List (List UInt8)} (hP : Hid (flds s.data.toList = P)) :
    Calls Tryd.prog 58 #[.string s, .string ⟨#[46]⟩] w fun e w' => e = .returned (.slice (some ⟨w.heap.size, 0, none⟩) P.length P.length) ∧ w' = w.alloc (.cells (Strs P).toArray 9) := by
  have h := Tryd.strings_Split s ⟨#[46]⟩ m w (by omega) hm (by decide)
  obtain ⟨h1, h2⟩ := splitB_fld s
  rw [h1, h2, hP.out, List.map_map] at h
  exact h
theorem fldAt {w : World} {B k : Nat} {A : Option Addr} {P : List (List UInt8)} (h : Reads w B 1 A P.length (Strs P)) (hk : k < P.length) :
    ∃ b off p, A = some ⟨b, off, none⟩ ∧ b < B ∧ w.cell? ⟨b, off + k, none⟩ = some (.string (mkB p)) ∧ p ∈ P ∧ P.take (k + 1) = P.take k ++ [p] := by
  obtain ⟨b, off, e, hb, hc⟩ := h.2 (by omega)
  refine ⟨b, off, P[k], e, hb, hc k _ ?_, List.getElem_mem hk, List.take_succ_eq_append_getElem hk⟩
  simp [Strs, hk]
theorem flds_mem {l p : List UInt8} (h : p ∈ flds l) : p.length ≤ l.length := by
  induction hn : l.length using Nat.strongRecOn generalizing l with
  | _ n ih =>
    rcases flds_cases l with ⟨_, e⟩ | ⟨q, r, e1, _, e2⟩
    · rw [e, List.mem_singleton] at h
      rw [h]; omega
    · have hr : l.length = q.length + (r.length + 1) := by rw [e1]; simp
      rw [e2, List.mem_cons] at h
      rcases h with rfl | h
      · omega
      · have := ih r.length (by omega) h rfl
        omega
theorem mkB_size (p : List UInt8) : (mkB p).size = p.length := List.size_toArray
theorem puS_mk (p : List UInt8) : puS (mkB p) = if p.length = 0 then Lib.NumEnd.syntax else puH 0 p := by
  unfold puS
  rw [mkB_size, mkB_data]
theorem lowW (p : List UInt8) (hp : p.length ≤ 1000) (ha : ∀ c ∈ p, c.toNat < 128) (w : World) :
    Calls Tryd.prog 60 #[.string (mkB p)] w fun e w' => e = .returned (.string (mkB (Lib.toLowerA p))) ∧ Below w.heap.size w w' := by
  have h := Tryd.strings_ToLower_ascii (mkB p) w (by rw [mkB_size]; omega) (by
    intro j b hb
    rw [mkB_data] at hb
    exact ha b (List.mem_of_getElem? hb))
  rw [mkB_data] at h
  exact h
theorem mkB_inj {p q : List UInt8} (h : mkB p = mkB q) : p = q := by rw [← mkB_data p, h, mkB_data]
set_option maxRecDepth 100000 in
set_option maxHeartbeats 4000000 in
theorem parse_ (s : ByteArray) (l : List UInt8) (hl : s.data.toList = l) (w : World) (hsz : s.size ≤ 1000) (hM : ML w) (hE : Errs w) :
    Calls Tryd.prog 40 #[.string s] w (RetSl w 1 (u64s (psV l)) (psV l).length (psE l)) := by
  have hls : l.length = s.size := by rw [← hl]; simp
  by_cases h135 : 135 < s.size
  · have HE := Lib.hid (show psE l = 3 from if_pos (by omega))
    have HL := Lib.hid (show psV l = [] from if_neg (by rw [HE.out]; decide))
    clear hl hls
    go_enter Tryd.func40, Tryd.ntmps40
    go_wp2
    go_ret2
    rw [HE.out, HL.out]
    exact RetSl.nil (Below.refl _ _) rfl rfl
  obtain ⟨m, hm⟩ := hM
  obtain ⟨P, hP⟩ : ∃ P, flds l = P := ⟨_, rfl⟩
  have HPs := Lib.hid (show ∀ p ∈ P, p.length ≤ 135 from fun p hp => by rw [← hP] at hp; have := flds_mem hp; omega)
  have HY := Lib.hid (fun ha : P.all wordB = true => (show psE l = 0 ∧ psV l = (P.map valB).reverse by
    have h0 : psE l = 0 := by unfold psE; rw [if_neg (by omega), hP, if_pos ha]
    exact ⟨h0, by unfold psV; rw [if_pos h0, hP]⟩))
  have HBad := Lib.hid (fun (p : List UInt8) (hp : p ∈ P) (hw : wordB p = false) => (show psE l = 6 ∧ psV l = [] by
    have h0 : psE l = 6 := by
      unfold psE
      rw [if_neg (by omega), hP, if_neg]
      intro ha
      rw [List.all_eq_true] at ha
      rw [ha p hp] at hw
      cases hw
    exact ⟨h0, by unfold psV; rw [if_neg (by rw [h0]; decide)]⟩))
  have HPn := Lib.hid (show P.length ≤ 136 by
    rw [← hP]
    unfold flds
    rw [fld_len]
    have := List.count_le_length (a := (46 : UInt8)) (l := l)
    omega)
  have hP2 := Lib.hid (show flds s.data.toList = P by rw [hl]; exact hP)
  have HE0 := Lib.hid hE
  clear hE hl hls hP
  go_enter Tryd.func40, Tryd.ntmps40
  go_wp2_with fail
  (with_reducible refine (splitW s w hsz hm hP2).mono ?_); rintro e w1 ⟨rfl, hw1⟩
  have hr1 : Reads w1 w1.heap.size 1 (some ⟨w.heap.size, 0, none⟩) P.length (Strs P) := reads_blkN (g := w.heap.size) (t := 9) (by rw [hw1]; exact heap_alloc_new w _) (by simp [Strs])
  have hb1 : Below w.heap.size w w1 := by rw [hw1]; exact ba (Below.refl _ _) _
  have HE1 := Lib.hid (HE0.out.below hb1)
  have HR1 := Lib.hid hr1
  have HB1 := Lib.hid hb1
  have hPn := HPn.out
  clear hw1 HE0 hm hr1 hb1 hP2
  go_wp2_with fail
  go_loopw [4, 15] (fun v i wr => ∃ k : Nat, k ≤ P.length ∧ i = .int .i64 k ∧ Below w1.heap.size w1 wr ∧ wr.ownsRow w1.heap.size 55 1 v k (u64s ((P.take k).map valB)) ∧ Hid ((P.take k).all wordB = true)) (fun _ i _ => P.length - (intOf i).toNat)
  case atStart => exact ⟨0, Nat.zero_le _, rfl, Below.refl _ _, World.ownsRow_nil _ _ _ _, Lib.hid rfl⟩
  case round =>
    obtain ⟨k, hk, rfl, hbl, hown, hall⟩ := hrel
    by_cases hlt : k < P.length
    · obtain ⟨b, off, p, hA, hb, d1, hpm, htk⟩ := fldAt (HR1.out.below hbl) hlt
      injection hA with hA; injection hA with hA1 hA2; subst hA1 hA2
      rw [Nat.zero_add] at d1
      have hp135 := HPs.out p hpm
      have hEw := Lib.hid (HE1.out.below hbl)
      have HU := Lib.hid (parseU_ (mkB p) (by rw [mkB_size]; omega) wr hEw.out)
      have hpz := mkB_size p
      by_cases hwp : wordB p = true
      · obtain ⟨h16, hpu, hasc, hlow⟩ := wordB_ok hwp
        have hS : puS (mkB p) = .ok (valB p) := by rw [puS_mk, if_neg (by omega)]; exact hpu
        rw [hS] at HU
        have HL := Lib.hid (fun W => lowW p (by omega) hasc W)
        rw [hlow] at HL
        have hX := valB_lt hwp
        have HA2 := Lib.hid (show (P.take (k + 1)).all wordB = true by rw [htk, List.all_append, hall.out]; simp [hwp])
        have HT := Lib.hid (show u64s ((P.take (k + 1)).map valB) = u64s ((P.take k).map valB) ++ [.int .u64 (valB p : Int)] by rw [htk]; simp [u64s, u64V])
        have hz16 : ((mkB p).size : Int) = 16 := by rw [hpz, h16]; rfl
        clear htk hall hpu hasc hlow hS hwp hpz
        go_wp2_with fail
        (with_reducible refine (HU.out).mono ?_); rintro e w2 ⟨x, ev, rfl, hb2, rfl, rfl⟩
        have hown2 := own_below hown hb2
        have hbl2 := bt hbl hb2
        clear hown hbl HU
        go_wp2_with fail
        (with_reducible refine (HL.out _).mono ?_); rintro e w3 ⟨rfl, hb3⟩
        have hown3 := own_below hown2 hb3
        have hbl3 := bt hbl2 hb3
        clear hown2 hbl2 HL
        go_wp2_with (at_builtin; refine wpList_ap u64El (w0 := w1) (hown3.alloc _) (ba hbl3 _) [.int .u64 _] (by exact alloc1_new _ _) ?_)
        intro g cap w4 hown4 hb4 hg4
        go_wp2
        go_roundw
        case rel => exact ⟨k + 1, by omega, by go_num, hb4, by rw [HT.out]; simpa [u64s] using hown4, HA2⟩
        case measure => simp [intOf]; omega
      · have hwp' : wordB p = false := by simpa using hwp
        obtain ⟨q1, q2⟩ := HBad.out p hpm hwp'
        have HQ1 := Lib.hid q1
        have HQ2 := Lib.hid q2
        rcases hS : puS (mkB p) with n | _ | _
        ·
          rw [hS] at HU
          by_cases h16 : p.length = 16
          · have hpu : puH 0 p = .ok n := by rw [puS_mk, if_neg (by omega)] at hS; exact hS
            obtain ⟨hasc, hlow⟩ := wordB_no hwp' h16 hpu
            have HL := Lib.hid (fun W => lowW p (by omega) hasc W)
            have hne : mkB (Lib.toLowerA p) ≠ mkB p := fun e => hlow (mkB_inj e)
            have hz16 : ((mkB p).size : Int) = 16 := by rw [hpz, h16]; rfl
            obtain ⟨q, hq⟩ : ∃ q, q = mkB (Lib.toLowerA p) := ⟨_, rfl⟩
            rw [← hq] at HL hne
            have hneL : ¬ q.toList = (mkB p).toList := fun e => hne ((bytes_eq _ _).1 e)
            have hneB : (q.toList == (mkB p).toList) = false := by simpa using hneL
            clear htk hall hpu hasc hlow hS hwp hwp' hpz q1 q2 hq
            go_wp2_with fail
            (with_reducible refine (HU.out).mono ?_); rintro e w2 ⟨x, ev, rfl, hb2, rfl, rfl⟩
            have hbl2 := bt hbl hb2
            clear hown hbl HU
            go_wp2_with fail
            (with_reducible refine (HL.out _).mono ?_); rintro e w3 ⟨rfl, hb3⟩
            have hB3 := bt HB1.out (bt hbl2 hb3)
            clear hbl2 HL
            go_wp2
            go_ret2
            rw [HQ1.out, HQ2.out]
            exact RetSl.nil hB3 rfl rfl
          · have hz16 : ((mkB p).size : Int) ≠ 16 := by rw [hpz]; omega
            clear htk hall hS hwp hwp' hpz q1 q2
            go_wp2_with fail
            (with_reducible refine (HU.out).mono ?_); rintro e w2 ⟨x, ev, rfl, hb2, rfl, rfl⟩
            have hB3 := bt HB1.out (bt hbl hb2)
            clear hown hbl HU
            go_wp2
            go_ret2
            rw [HQ1.out, HQ2.out]
            exact RetSl.nil hB3 rfl rfl
        ·
          rw [hS] at HU
          clear htk hall hS hwp hwp' hpz q1 q2
          go_wp2_with fail
          (with_reducible refine (HU.out).mono ?_); rintro e w2 ⟨x, ev, rfl, hb2, N, rfl⟩
          have hB3 := bt HB1.out (bt hbl hb2)
          clear hown hbl HU
          go_wp2
          go_ret2
          rw [HQ1.out, HQ2.out]
          exact RetSl.nil hB3 rfl rfl
        ·
          rw [hS] at HU
          clear htk hall hS hwp hwp' hpz q1 q2
          go_wp2_with fail
          (with_reducible refine (HU.out).mono ?_); rintro e w2 ⟨x, ev, rfl, hb2, N, rfl⟩
          have hB3 := bt HB1.out (bt hbl hb2)
          clear hown hbl HU
          go_wp2
          go_ret2
          rw [HQ1.out, HQ2.out]
          exact RetSl.nil hB3 rfl rfl
    · obtain rfl : k = P.length := by omega
      have hall2 := hall.out
      rw [List.take_of_length_le (Nat.le_refl _)] at hown hall2
      obtain ⟨q1, q2⟩ := HY.out hall2
      have HQ1 := Lib.hid q1
      have HQ2 := Lib.hid q2
      have HRv := Lib.hid (rev_ w1 wr _ P.length (P.map valB) (by simp) (by omega) hown hbl)
      clear hown hbl hall hall2 q1 q2
      go_wp2_with fail
      (with_reducible refine (HRv.out).mono ?_); rintro e w2 ⟨rfl, hb2, hown2⟩
      have hB := bt HB1.out hb2
      clear HRv hb2
      go_wp2
      go_ret2
      rw [HQ1.out, HQ2.out]
      exact RetSl.of_own hown2 hB rfl (by simp) rfl
end Go.Proofs.YtibnegheabhbdaaDoor
