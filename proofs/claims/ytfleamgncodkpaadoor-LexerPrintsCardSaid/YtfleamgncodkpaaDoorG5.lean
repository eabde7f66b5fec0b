/- Sets of bytes: the runs of a set (Runs of the program). No condition. -/
import Derived.Test.YtfleamgncodkpaaDoorB26
import Derived.Test.YtfleamgncodkpaaDoorApp
namespace Go.Proofs.YtfleamgncodkpaaDoor
open Go.RowKit Go.Shelf
attribute [local go_sem] Oper.semAt_some
/-- the cells of runs -/
abbrev rr0 (q : Nat × Nat) : Value := .int .u8 ((q.1 : Nat) : Int)
abbrev rr1 (q : Nat × Nat) : Value := .int .u8 ((q.2 : Nat) : Int)
abbrev rrs (l : List (Nat × Nat)) : List Value := flat2 rr0 rr1 l
theorem rrs_snoc (l : List (Nat × Nat)) (a b : Nat) : rrs (l ++ [(a, b)]) = rrs l ++ [.int .u8 (a : Int), .int .u8 (b : Int)] := by
  rw [rrs, flat2_append]; rfl
theorem rnEl : Elem Tryd.prog 79 81 (.agg #[.int .u8 0, .int .u8 0]) 2 2 := ⟨Tryd.underlying79, by kernel_rfl, rfl, by decide⟩
theorem stK_len (out : List (Nat × Nat)) (b : Nat) : (stK out b).length ≤ out.length + 1 := by
  unfold stK
  rcases out.getLast? with _ | q
  · simp
  · simp only
    split
    · simp <;> omega
    · simp
theorem rnK_snoc (l : List Nat) (b : Nat) : rnK (l ++ [b]) = stK (rnK l) b := by unfold rnK; rw [List.foldl_append]; rfl
theorem rnK_len (l : List Nat) : (rnK l).length ≤ l.length := by
  have key : ∀ (l : List Nat) (out : List (Nat × Nat)), (l.foldl stK out).length ≤ out.length + l.length := by
    intro l
    induction l with
    | nil => intro out; simp
    | cons b t ih => intro out; have h1 := ih (stK out b); have h2 := stK_len out b; simp only [List.foldl_cons, List.length_cons]; omega
  have := key l []
  simpa [rnK] using this
theorem stK_add {out : List (Nat × Nat)} {b : Nat} (h : ∀ q, out.getLast? = some q → q.2 + 1 ≠ b) : stK out b = out ++ [(b, b)] := by
  unfold stK
  rcases hl : out.getLast? with _ | q
  · rw [List.getLast?_eq_none_iff.1 hl]; rfl
  · simp only; rw [if_neg (h q hl)]
theorem stK_go {ini : List (Nat × Nat)} {x y b : Nat} (h : y + 1 = b) : stK (ini ++ [(x, y)]) b = ini ++ [(x, b)] := by
  unfold stK
  simp only [List.getLast?_concat, List.dropLast_concat]
  rw [if_pos h]
theorem two_new (w : World) (a b : Value) (t : TypeId) : ∀ j u, [a, b][j]? = some u → (w.alloc (.cells #[a, b] t)).cell? ((⟨w.heap.size, 0, none⟩ : Addr).add j) = some u := by
  intro j u hu
  rw [add_lit, Nat.zero_add]
  rw [Lib.cell_of_heap (alloc1_new w (.cells #[a, b] t)) j]
  simpa using hu
/-- what a round keeps, and the row of runs -/
def RnI (w : World) (B : Nat) (pre : List (Fin 256)) (W : World) : Prop := (∃ v, Boxed W B 79 v ∧ W.ownsRow w.heap.size 81 2 v (rnK (pre.map (·.val))).length (rrs (rnK (pre.map (·.val)))) ∧ True) ∧ Below w.heap.size w W
theorem rnI_own (w : World) (B K : Nat) (hK : w.heap.size ≤ K) : OwnFrom K (RnI w B) :=
  OwnFrom.and (Own.from (holdsRow_own w.heap.size B 79 81 2 (fun pre : List (Fin 256) => (rnK (pre.map (·.val))).length) (fun pre => rrs (rnK (pre.map (·.val)))) (fun _ _ => True)) _) (ownFrom_below (Nat.le_refl _) hK)
set_option maxRecDepth 100000 in
set_option maxHeartbeats 4000000 in
theorem runs_in_ (f : Nat → Bool) (w : World) (hT : Tzt w) :
    CallsIn Fence.wide 5 Tryd.prog 45 #[stV f] w fun e W' =>
      ∃ v, e = .returned v ∧ W'.ownsRow w.heap.size 81 2 v (rnK (mbK f)).length (rrs (rnK (mbK f))) ∧ Below w.heap.size w W' := by
  obtain ⟨i0, hi, hz0, hz1, hz2⟩ := info_parts rnEl.hi
  have HT := Lib.hid hT
  clear hT
  refine callsIn_of_wp_marks Tryd.func45 rfl trivial ?_ rfl
  simp only [Tryd.ntmps45, List.size_toArray, List.length_cons, List.length_nil, Nat.reduceAdd, Nat.reduceSub, Array.replicate_succ, Array.replicate_zero, List.push_toArray, List.append_toArray, List.nil_append, List.cons_append]
  have HM := Lib.hid (fun n W => members_in n f W)
  gi_wp2_with (refine ⟨trivial, ?_⟩; gi_at_call 64; refine (HM.out _ _).mono ?_; rintro e w1 ⟨rfl, hw1⟩; have HW1 := Lib.hid hw1; clear hw1)
  have hF0 : Fr w [(w.heap.size + 2, stO f)] w1 := by
    rw [HW1.out]
    exact ((((Fr.start w).newN (g := w.heap.size) rfl (stO f)).newN (g := w.heap.size + 1) (by simp) (.cells #[.slice none 0 0] 79 (0, 0))).newN (g := w.heap.size + 2) (by simp) (stO f)).sub (by simp)
  have bO : Boxed w1 (w.heap.size + 1) 79 (.slice none 0 0) := by
    rw [HW1.out]
    have := (Boxed.new (w.alloc (stO f)) 79 (.slice none 0 0)).alloc (stO f)
    simpa using this
  have hs1 : w1.heap.size = w.heap.size + 3 := by rw [HW1.out]; simp
  clear HW1
  have HF0 := Lib.hid hF0
  clear hF0
  refine wpIn_rangeFunc_ownG rfl (by omega) (gf := 84) (lb := #[.pointer (some ⟨w.heap.size + 2, 0, none⟩)]) rfl trivial (enters_of Tryd.func84 (by kernel_rfl) rfl)
    (members_stops _ (by omega) (w.heap.size + 2) w.heap.size f w1 (HF0.out.at (by simp)) (HT.out.below HF0.out.bel) HT.out.lt) belowK_t (belowK_b (by omega)) (Below.refl _ _) (fun _ => rfl)
    (RnI w (w.heap.size + 1)) (fun _ _ _ => False) (rnI_own w _ _ (by omega))
    (fun _ _ _ _ _ hs _ _ => hs)
    ⟨⟨_, bO, World.ownsRow_nil _ _ _ _, trivial⟩, HF0.out.bel⟩
    (fun x => { tmps := #[stV f, .pointer (some ⟨w.heap.size, 0, none⟩), .slice none 0 0, .pointer (some ⟨w.heap.size + 1, 0, none⟩), .int .u8 ((x.val : Nat) : Int), undef, stV f, .func (.func 84) #[] #[.pointer (some ⟨w.heap.size + 2, 0, none⟩)], .int .u8 ((x.val : Nat) : Int), undef, undef, undef, undef, undef, undef, undef, undef, undef, undef, undef, undef, undef, undef, undef, undef, undef, undef, undef, undef, undef, undef, undef, undef, undef, undef, undef, undef, undef], defers := [] }) ?assign ?body ?done ?stop
  case assign =>
    intro l x W K hK
    gi_wp2
    exact hK
  case body =>
    rintro L pre x W ⟨⟨v, hv, hrow, _⟩, hB⟩ hlt
    have hc := hv.cell
    have hfz := hv.frozen
    have hx := x.isLt
    have hpl : (rnK (pre.map (·.val))).length ≤ pre.length := by have := rnK_len (pre.map (·.val)); rwa [List.length_map] at this
    have hI2 : ∀ W', (∃ v, Boxed W' (w.heap.size + 1) 79 v ∧ W'.ownsRow w.heap.size 81 2 v (stK (rnK (pre.map (·.val))) x.val).length (rrs (stK (rnK (pre.map (·.val))) x.val)) ∧ True) → Below w.heap.size w W' → RnI w (w.heap.size + 1) (pre ++ [x]) W' := fun W' h1 h2 => by
      unfold RnI
      rw [List.map_append, List.map_cons, List.map_nil, rnK_snoc]
      exact ⟨h1, h2⟩
    have HI2 := Lib.hid hI2
    have HO := Lib.hid (show OkK (rnK (pre.map (·.val))) from (rnK_ok _ [] (fun _ h => by cases h) (fun c hc' => by obtain ⟨q, _, rfl⟩ := List.mem_map.1 hc'; exact q.isLt)).1)
    clear hI2
    generalize rnK (pre.map (·.val)) = out at *
    generalize x.val = b at *
    rcases hl : out.getLast? with _ | ⟨y, z⟩
    · obtain rfl := List.getLast?_eq_none_iff.1 hl
      have HS := Lib.hid (show stK [] b = [(b, b)] from rfl)
      obtain ⟨A, c, rfl, _⟩ := own_sl hrow
      gi_wp2_with (gi_at_builtin; refine wpListIn_append_own _ rfl _ _ 79 rfl w.heap.size 81 i0 (.agg #[.int .u8 0, .int .u8 0]) 2 2 Tryd.underlying79 hi hz0 hz1 hz2 rfl (by decide) _ _ _ rfl (hrow.alloc _) ⟨W.heap.size, 0, none⟩ 1 1 [.int .u8 (b : Int), .int .u8 (b : Int)] rfl rfl (two_new _ _ _ _) (by simp [Value.oneCell']) (by unfold maxLen; omega) (by omega) (by have := hB.size; simp; omega) ?_; intro v' w1 hown' hgrow _; obtain ⟨g', cap', rfl⟩ := ownsRow_succ hown'; obtain ⟨hv1, hv2, hr2, hk2, hb2⟩ := hv.appended (by decide) hrow hB.size (by omega) hown' hgrow; have hc1 := hv1.cell; have hf1 := hv1.frozen)
      exact ⟨hk2.from _, hb2, HI2.out _ ⟨_, hv2, by rw [HS.out]; exact hr2, trivial⟩ (hB.trans hb2)⟩
    · obtain ⟨ini, rfl⟩ := List.getLast?_eq_some_iff.1 hl
      obtain ⟨g, cap, hvv, hgb, hgl⟩ := hrow.form (by simp)
      have hz8 : z < 256 := (HO.out (y, z) (by simp)).2
      subst hvv
      have hcz : W.cell? ⟨g, ini.length * 2 + 1, none⟩ = some (.int .u8 (z : Int)) := by
        rw [hrow.cellAt (ini.length * 2 + 1) (by simp; omega)]
        have := (flat2_at (f := rr0) (g := rr1) (ini ++ [(y, z)]) ini.length (by simp)).2
        rw [this]; simp
      have hlen : (ini ++ [(y, z)]).length = ini.length + 1 := by simp
      have hfg := hrow.frozenAt (ini.length * 2 + 1)
      have hne := Lib.hid (hv.not_row (by decide) hrow)
      have HR := Lib.hid hrow
      have HL := Lib.hid hlen
      have hl5 : ini.length < 255 := by omega
      clear hrow hl hlen
      rw [HL.out] at HR hpl hv hc
      by_cases hz : z + 1 = b
      · have HS := Lib.hid (show stK (ini ++ [(y, z)]) b = ini ++ [(y, b)] from stK_go hz)
        have e1 : ((z : Int) + 1 == (b : Int)) = true := by simp; omega
        obtain ⟨hst, hgw⟩ := HR.out.stored (ini.length * 2 + 1) (.int .u8 (b : Int))
        have Hst := Lib.hid hst
        have Hgw := Lib.hid hgw
        clear hst hgw hz
        gi_wp2
        refine ⟨(KeepsOthers.setCell _ _ _).from _, (Below.refl _ _).setCell hgb _, HI2.out _ ⟨_, hv.kept Hgw.out hne.out, ?_, trivial⟩ (hB.setCell hgb _)⟩
        rw [HS.out]
        have e : rrs (ini ++ [(y, b)]) = (rrs (ini ++ [(y, z)])).set (ini.length * 2 + 1) (.int .u8 (b : Int)) := by
          rw [rrs_snoc, rrs_snoc, List.set_append_right _ _ (by rw [flat2_length]; omega), flat2_length, show ini.length * 2 + 1 - ini.length * 2 = 1 by omega]; rfl
        have el : (ini ++ [(y, b)]).length = ini.length + 1 := by simp
        rw [e, el]
        exact Hst.out
      · have HS := Lib.hid (show stK (ini ++ [(y, z)]) b = ini ++ [(y, z)] ++ [(b, b)] from stK_add (by simpa using hz))
        have e1 : ((z : Int) + 1 == (b : Int)) = false := by rw [beq_eq_false_iff_ne]; omega
        clear hz
        gi_wp2_with (gi_at_builtin; refine wpListIn_append_own _ rfl _ _ 79 rfl w.heap.size 81 i0 (.agg #[.int .u8 0, .int .u8 0]) 2 2 Tryd.underlying79 hi hz0 hz1 hz2 rfl (by decide) _ _ _ rfl (HR.out.alloc _) ⟨W.heap.size, 0, none⟩ 1 1 [.int .u8 (b : Int), .int .u8 (b : Int)] rfl rfl (two_new _ _ _ _) (by simp [Value.oneCell']) (by unfold maxLen; omega) (by omega) (by have := hB.size; simp; omega) ?_; intro v' w1 hown' hgrow _; obtain ⟨g', cap', rfl⟩ := ownsRow_succ hown'; obtain ⟨hv1, hv2, hr2, hk2, hb2⟩ := hv.appended (by decide) HR.out hB.size (by omega) hown' hgrow; have hc1 := hv1.cell; have hf1 := hv1.frozen)
        refine ⟨hk2.from _, hb2, HI2.out _ ⟨_, hv2, ?_, trivial⟩ (hB.trans hb2)⟩
        rw [HS.out, rrs_snoc, List.length_append, HL.out]
        exact hr2
  case done =>
    rintro D ys W hD hys ⟨⟨v, hv, hrow, _⟩, hB⟩ hK
    have hc := hv.cell
    rw [hys] at hrow
    have HR := Lib.hid hrow
    clear hrow
    gi_wp2
    refine ⟨by simp, .inl ⟨_, _, rfl, run_takeDeferred hK, ?_⟩⟩
    exact ⟨_, results_tmp rfl _ _ _, v, rfl, ownsRow_putObj HR.out _ hK rfl, hB.trans (belowK_b (w := w) (Nat.le_refl _) W D _ _ (by omega) hK rfl rfl)⟩
  case stop =>
    rintro D c pre W _ _ h _
    exact h.elim
end Go.Proofs.YtfleamgncodkpaaDoor
