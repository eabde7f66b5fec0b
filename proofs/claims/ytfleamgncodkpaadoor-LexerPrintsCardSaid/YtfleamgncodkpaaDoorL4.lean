/- Sets of bytes: Runs of the reference. No condition. -/
import Derived.Test.YtfleamgncodkpaaDoorL1
import Derived.Test.YtfleamgncodkpaaDoorG5
import Derived.BigQuiet
import Derived.Deep.DeepCutAuto
namespace Go.Proofs.YtfleamgncodkpaaDoor
open Go.RowKit
theorem b8At {w : World} {B k : Nat} {A : Option Addr} {l : List Nat} (h : Reads w B 1 A l.length (b8s l)) (hk : k < l.length) :
    ∃ b off, A = some ⟨b, off, none⟩ ∧ b < B ∧ ∀ j (hj : j < l.length), w.cell? ⟨b, off + j, none⟩ = some (.int .u8 ((l[j] : Nat) : Int)) := by
  obtain ⟨b, off, e, hb, hc⟩ := h.2 (by omega)
  exact ⟨b, off, e, hb, fun j hj => hc j _ (by rw [List.getElem?_map, List.getElem?_eq_getElem hj]; rfl)⟩
theorem mb_asc (f : Nat → Bool) : ∀ i j (hi : i < (mbK f).length) (hj : j < (mbK f).length), i < j → (mbK f)[i] < (mbK f)[j] := by
  have h : List.Pairwise (· < ·) (mbK f) := List.Pairwise.filter _ List.pairwise_lt_range
  exact fun i j hi hj hij => List.pairwise_iff_getElem.1 h i j hi hj hij
theorem mb_lt (f : Nat → Bool) : ∀ i (hi : i < (mbK f).length), (mbK f)[i] < 256 := fun i hi => by
  have := (List.mem_filter.1 (List.getElem_mem hi : (mbK f)[i] ∈ mbK f)).1
  simpa using this
theorem stK_last (out : List (Nat × Nat)) (b : Nat) : ∃ ini x, stK out b = ini ++ [(x, b)] := by
  unfold stK
  rcases out.getLast? with _ | q
  · exact ⟨[], b, rfl⟩
  · simp only
    by_cases h : q.2 + 1 = b
    · rw [if_pos h]; exact ⟨_, _, rfl⟩
    · rw [if_neg h]; exact ⟨_, _, rfl⟩
theorem rn_take {l : List Nat} {k : Nat} (h : k < l.length) : rnK (l.take (k + 1)) = stK (rnK (l.take k)) l[k] := by
  rw [List.take_add_one, List.getElem?_eq_getElem h, ← rnK_snoc]; rfl
theorem rn_last {l : List Nat} {j : Nat} (h : j < l.length) : ∃ ini x, rnK (l.take (j + 1)) = ini ++ [(x, l[j])] := by
  rw [rn_take h]; exact stK_last _ _
theorem rn_add {l : List Nat} {k : Nat} (h : k < l.length) (hn : ∀ j (hj : j < l.length), k = j + 1 → l[j] + 1 ≠ l[k]) : rnK (l.take (k + 1)) = rnK (l.take k) ++ [(l[k], l[k])] := by
  rw [rn_take h]
  refine stK_add fun q hq => ?_
  cases k with
  | zero => simp [rnK] at hq
  | succ j =>
    obtain ⟨ini, x, e⟩ := rn_last (l := l) (j := j) (by omega)
    rw [e, List.getLast?_concat] at hq
    injection hq with hq
    subst hq
    exact hn j (by omega) rfl
/-- what Runs answers -/
def RetRn (l : List (Nat × Nat)) (w : World) (e : Ending) (w' : World) : Prop :=
  ∃ A c, e = .returned (.slice A l.length c) ∧ Below w.heap.size w w' ∧ Reads w' w'.heap.size 2 A l.length (rrs l)
set_option maxRecDepth 100000 in
set_option maxHeartbeats 4000000 in
theorem rruns_ (f : Nat → Bool) (w : World) : Calls Tryd.prog 71 #[stV f] w (RetRn (rnK (mbK f)) w) := by
  have HF0 := Lib.hid ((Fr.start w).newN (g := w.heap.size) rfl (stO f))
  have HL := Lib.hid (rlist_ f)
  have hasc := mb_asc f
  have hlt8 := mb_lt f
  have hmk : (mbK f).length ≤ 256 := mbT_len f 256
  go_enter Tryd.func71, Tryd.ntmps71
  go_upto_region 1 with fail
  generalize (w.alloc (stO f)) = W0 at *
  obtain ⟨⟨c0, c1, c2, c3⟩, _, _⟩ := bx4 (HF0.out.at (g := w.heap.size) (o := stO f) (by simp))
  go_wp2_with fail
  (with_reducible refine (HL.out _).mono ?_); rintro e w1 ⟨A, c, rfl, hb1, hr1⟩
  have HB1 := Lib.hid (HF0.out.go hb1).bel
  have HR1 := Lib.hid hr1
  clear hb1 hr1 HL HF0 c0 c1 c2 c3
  generalize mbK f = l at *
  go_wp2
  go_loopw [3, 5] (fun v i wr => ∃ k : Nat, k ≤ l.length ∧ i = .int .i64 (k : Int) ∧ wr.ownsRow w1.heap.size 81 2 v (rnK (l.take k)).length (rrs (rnK (l.take k))) ∧ Hid (Below w1.heap.size w1 wr)) (fun _ i _ => l.length - (intOf i).toNat)
  case atStart => exact ⟨0, by omega, rfl, World.ownsRow_nil _ _ _ _, Lib.hid (Below.refl _ _)⟩
  case round =>
    obtain ⟨k, hk, rfl, hown, HB⟩ := hrel
    by_cases hlt : k < l.length
    case neg =>
      have i1 : ¬ ((k : Int) < (l.length : Int)) := by omega
      rw [List.take_of_length_le (by omega)] at hown
      obtain ⟨A2, c2, rfl, hrd, hcp, hcm⟩ := own_sl hown
      have hB := bt HB1.out HB.out
      have HRd := Lib.hid hrd
      clear hown hrd
      go_wp2
      go_ret
      exact ⟨A2, c2, rfl, hB, HRd.out⟩
    have i1 : (k : Int) < (l.length : Int) := by omega
    have i0 : (0 : Int) ≤ (k : Int) := by omega
    have hol : (rnK (l.take k)).length ≤ k := Nat.le_trans (rnK_len _) (by rw [List.length_take]; omega)
    obtain ⟨bk, off, rfl, hbk, hcell⟩ := b8At (HR1.out.below HB.out) hlt
    have ck := hcell k hlt
    have hbkw : bk < wr.heap.size := Nat.lt_of_lt_of_le hbk HB.out.size
    obtain ⟨T, hT⟩ : ∃ T : Bool, T = true ↔ ∃ j, ∃ hj : j < l.length, k = j + 1 ∧ l[j] + 1 = l[k] := by
      by_cases h : ∃ j, ∃ hj : j < l.length, k = j + 1 ∧ l[j] + 1 = l[k]
      · exact ⟨true, ⟨fun _ => h, fun _ => rfl⟩⟩
      · exact ⟨false, ⟨fun e => (by cases e), fun e => absurd e h⟩⟩
    have HT := Lib.hid hT
    have HO := Lib.hid hown
    have Hcell := Lib.hid hcell
    clear hT hown hcell
    go_upto_region 6 with fail
    go_cut [28] (fun s wx => s = .bool T ∧ Below wr.heap.size wr wx)
    case first =>
      rcases k with _ | j
      · have g0 : decide ((0 : Int) < ((0 : Nat) : Int)) = false := by decide
        have hTf : T = false := by
          cases T with
          | false => rfl
          | true =>
            obtain ⟨j, hj, e, _⟩ := HT.out.1 rfl
            omega
        go_quiet (fail)
        go_wp2
        go_meet
        exact ⟨by rw [hTf], drewN_below _ _⟩
      · have hj : j < l.length := by omega
        have cj := Hcell.out j hj
        have g0 : decide ((0 : Int) < ((j + 1 : Nat) : Int)) = true := by rw [decide_eq_true_eq]; omega
        have g1 : (((j + 1 : Nat) : Int) - 1) = (j : Int) := by omega
        have g2 : (j : Int) < (l.length : Int) := by omega
        have g3 : (0 : Int) ≤ (j : Int) := by omega
        have ha := hasc j (j + 1) hj hlt (by omega)
        have h8 := hlt8 (j + 1) hlt
        have g4 : IntKind.u8.wrap (((l[j] : Nat) : Int) + 1) = ((l[j] : Nat) : Int) + 1 := by simp [IntKind.wrap, IntKind.bits, IntKind.signed]; omega
        have hTe : (((l[j + 1] : Nat) : Int) == ((l[j] : Nat) : Int) + 1) = T := by
          rw [Bool.eq_iff_iff, HT.out]
          constructor
          · intro e
            exact ⟨j, hj, rfl, by have := eq_of_beq e; omega⟩
          · rintro ⟨j2, hj2, e, e2⟩
            obtain rfl : j2 = j := by omega
            rw [beq_iff_eq]; omega
        generalize l[j + 1] = x at *
        generalize l[j] = y at *
        clear ha h8
        go_quiet (fail)
        go_wp2
        go_meet
        exact ⟨rfl, drewN_below _ _⟩
    case rest =>
    obtain ⟨rfl, hbw⟩ := hcut
    have ckc := (hbw.cell (p := ⟨bk, off + k, none⟩) hbkw).trans ck
    have HB2 := Lib.hid (bt HB.out hbw)
    have HO2 := Lib.hid (own_below HO.out hbw)
    have hx8 := hlt8 k hlt
    cases T with
    | true =>
      obtain ⟨j, hj, rfl, he⟩ := HT.out.1 rfl
      obtain ⟨ini, x, hrn⟩ := rn_last hj
      have HS := Lib.hid (show rnK (l.take (j + 1 + 1)) = ini ++ [(x, l[j + 1])] by rw [rn_take hlt, hrn]; exact stK_go he)
      have hown := HO2.out
      rw [hrn] at hown
      have hlen : (ini ++ [(x, l[j])]).length = ini.length + 1 := by simp
      rw [hlen] at hown
      obtain ⟨g, cap, rfl, hgb, hgl⟩ := hown.form (by omega)
      have hfg := hown.frozenAt (ini.length * 2 + 1)
      have hcz : wc.cell? ⟨g, ini.length * 2 + 1, none⟩ = some (.int .u8 ((l[j] : Nat) : Int)) := by
        rw [hown.cellAt (ini.length * 2 + 1) (by omega)]
        have := (flat2_at (f := rr0) (g := rr1) (ini ++ [(x, l[j])]) ini.length (by simp)).2
        rw [this]; simp
      have hl5 : ini.length + 1 ≤ j + 1 := by rw [hrn] at hol; rw [hlen] at hol; exact hol
      obtain ⟨hst, hgw⟩ := hown.stored (ini.length * 2 + 1) (.int .u8 ((l[j + 1] : Nat) : Int))
      have Hst := Lib.hid hst
      have HB3 := Lib.hid (HB2.out.setCell (p := ⟨g, ini.length * 2 + 1, none⟩) hgb (.int .u8 ((l[j + 1] : Nat) : Int))).drew
      clear hst hgw hown he hrn HO HO2 HT Hcell ck hbw HB2
      have e1 : (((ini.length + 1 : Nat) : Int) - 1) = (ini.length : Int) := by omega
      have e2 : (ini.length : Int) < ((ini.length + 1 : Nat) : Int) := by omega
      have e3 : (0 : Int) ≤ (ini.length : Int) := by omega
      have HOw := Lib.hid (show (wc.setCell ⟨g, ini.length * 2 + 1, none⟩ (.int .u8 ((l[j + 1] : Nat) : Int))).drew.ownsRow w1.heap.size 81 2 (.slice (some ⟨g, 0, none⟩) (ini.length + 1) cap) (rnK (l.take (j + 1 + 1))).length (rrs (rnK (l.take (j + 1 + 1)))) by
        have e : rrs (ini ++ [(x, l[j + 1])]) = (rrs (ini ++ [(x, l[j])])).set (ini.length * 2 + 1) (.int .u8 ((l[j + 1] : Nat) : Int)) := by
          rw [rrs_snoc, rrs_snoc, List.set_append_right _ _ (by rw [flat2_length]; omega), flat2_length, show ini.length * 2 + 1 - ini.length * 2 = 1 by omega]; rfl
        have el : (ini ++ [(x, l[j + 1])]).length = ini.length + 1 := by simp
        rw [HS.out, e, el]
        exact Hst.out)
      clear HS Hst hlen
      go_wp2
      go_region
      all_goals
        go_wp2
        go_roundw
        case rel => exact ⟨j + 1 + 1, by omega, by go_num, HOw.out, HB3⟩
        case measure => (simp [intOf]) <;> omega
    | false =>
      have HS := Lib.hid (rn_add hlt (fun j hj e e2 => by
        have := HT.out.2 ⟨j, hj, e, e2⟩
        cases this))
      clear HO HT Hcell ck hbw HB
      generalize l[k] = b at *
      generalize hout : rnK (l.take k) = out at *
      clear hout
      go_upto_region 8 with fail
      go_region_law ((refine step_ap rnEl (w0 := w1) (by exact HO2.out.alloc _) (by exact (ba HB2.out _).drew) [.int .u8 (b : Int), .int .u8 (b : Int)] (by exact alloc1_new _ _) ?_; intro g4 cap4 w4 hO4 hb4 hg4))
      all_goals
        have HO5 := Lib.hid (show w4.ownsRow w1.heap.size 81 2 (.slice (some ⟨g4, 0, none⟩) (out.length + 1) cap4) (rnK (l.take (k + 1))).length (rrs (rnK (l.take (k + 1)))) by
          rw [HS.out, rrs_snoc, List.length_append]; exact hO4)
        have HB5 := Lib.hid hb4
        clear hO4 hb4 hg4
        simp only [Act.put, List.getElem_toArray, List.getElem_cons_succ, List.getElem_cons_zero, List.setIfInBounds_toArray, List.set_cons_zero, List.set_cons_succ]
        go_wp2
        go_roundw
        case rel => exact ⟨k + 1, by omega, by go_num, HO5.out, HB5⟩
        case measure => (simp [intOf]) <;> omega
end Go.Proofs.YtfleamgncodkpaaDoor
