/- The search and the cells of the program. -/
import Derived.Test.YtmpdgckccgbdnaaDoorC8
import Derived.Maps.OwnSet
import Derived.StringKeys
import Derived.WideMake
namespace Go.Proofs.YtmpdgckccgbdnaaDoor
open Go.RowKit
/-! a region as an element of a map -/
def rgL : List Value → Option (DataW Unit × List MemPlace)
  | [.string s, .int .i64 b, .int .i64 n] => some (.agg [.lit (.string s.data.toList), .lit (.int .i64 b), .lit (.int .i64 n)], [])
  | _ => none
def rgR : Value → Option (DataW Unit × List MemPlace)
  | .agg cs => rgL cs.toList
  | _ => none
def rgD (x : Rg) : DataW Unit := .agg [.lit (.string x.1.data.toList), .lit (.int .i64 x.2.1), .lit (.int .i64 x.2.2)]
theorem rgR_mk (x : Rg) : rgR (rgV x) = some (rgD x, []) := rfl
theorem rgL_inv {l : List Value} {x : Rg} {ps : List MemPlace} (h : rgL l = some (rgD x, ps)) : l = [.string x.1, .int .i64 x.2.1, .int .i64 x.2.2] := by
  unfold rgL at h
  split at h
  · simp only [Option.some.injEq, Prod.mk.injEq, rgD, DataW.agg.injEq, List.cons.injEq, DataW.lit.injEq, Lit.string.injEq, Lit.int.injEq, and_true, true_and] at h
    obtain ⟨⟨h1, h2, h3⟩, _⟩ := h
    obtain ⟨a, b, c⟩ := x
    simp only at h1 h2 h3
    subst h2 h3
    have := ByteArray.ext (Array.toList_inj.1 h1)
    rw [this]
  · cases h
theorem rgR_inv {v : Value} {x : Rg} {ps : List MemPlace} (h : rgR v = some (rgD x, ps)) : v = rgV x := by
  unfold rgR at h
  split at h
  · rename_i cs
    have := rgL_inv h
    congr 1
    exact Array.toList_inj.1 this
  · cases h
def mapOf (l : List Rg) : DataW Unit := l.foldl (fun m x => m.put (.string x.1.data.toList) (rgD x)) (.map [])
def lkOf (nm : ByteArray) : Lit := .string nm.data.toList
theorem lkOf_inj {a b : ByteArray} (h : lkOf a = lkOf b) : a = b := by
  injection h with h
  exact ByteArray.ext (Array.toList_inj.1 h)
theorem mapOf_snoc {l : List Rg} {j : Nat} {x : Rg} (h : Hid (l.drop j = x :: l.drop (j + 1))) : mapOf (l.take (j + 1)) = (mapOf (l.take j)).put (lkOf x.1) (rgD x) := by
  rw [take_of_drop h.out]; unfold mapOf; rw [List.foldl_append]; rfl
theorem isKey (nm : ByteArray) : WideAt.IsKeyLit (lkOf nm) := trivial
theorem mapOf_look (l : List Rg) (nm : ByteArray) (m : DataW Unit) (hm : Maps.IsMap m) (hl : ∀ x ∈ l, x.1 ≠ nm) (z : DataW Unit) :
    (l.foldl (fun m x => m.put (.string x.1.data.toList) (rgD x)) m).atKey (lkOf nm) z = m.atKey (lkOf nm) z ∧ Maps.has (l.foldl (fun m x => m.put (.string x.1.data.toList) (rgD x)) m) (lkOf nm) = Maps.has m (lkOf nm) := by
  induction l generalizing m with
  | nil => exact ⟨rfl, rfl⟩
  | cons x r ih =>
    have h1 := ih (m.put (lkOf x.1) (rgD x)) (hm.put _ _) (fun y hy => hl y (List.mem_cons_of_mem _ hy))
    have hne : lkOf nm ≠ lkOf x.1 := fun e => hl x List.mem_cons_self (lkOf_inj e).symm
    exact ⟨h1.1.trans (Maps.atKey_put_other hne _ _), h1.2.trans (Maps.has_put_other hne _)⟩
theorem isMap_fold (l : List Rg) (m : DataW Unit) (hm : Maps.IsMap m) : Maps.IsMap (l.foldl (fun m x => m.put (.string x.1.data.toList) (rgD x)) m) := by
  induction l generalizing m with
  | nil => exact hm
  | cons x r ih => exact ih _ (hm.put _ _)
/-- names are apart -/
def Apart (l : List Rg) : Prop := l.Pairwise fun x y => x.1 ≠ y.1
theorem mapOf_find {l : List Rg} (ha : Apart l) (nm : ByteArray) (m : DataW Unit) (hm : Maps.IsMap m) (z : DataW Unit) :
    (l.foldl (fun m x => m.put (.string x.1.data.toList) (rgD x)) m).atKey (lkOf nm) z = (match findR l nm with | some x => rgD x | none => m.atKey (lkOf nm) z) ∧
    Maps.has (l.foldl (fun m x => m.put (.string x.1.data.toList) (rgD x)) m) (lkOf nm) = ((findR l nm).isSome || Maps.has m (lkOf nm)) := by
  induction l generalizing m with
  | nil => exact ⟨rfl, rfl⟩
  | cons x r ih =>
    obtain ⟨h1, h2⟩ := List.pairwise_cons.1 ha
    by_cases e : x.1 = nm
    · subst e
      have hf : findR (x :: r) x.1 = some x := by unfold findR; rw [List.find?_cons_of_pos (by simp)]
      obtain ⟨k1, k2⟩ := mapOf_look r x.1 (m.put (lkOf x.1) (rgD x)) (hm.put _ _) (fun y hy => (h1 y hy).symm) z
      rw [hf]
      exact ⟨k1.trans (Maps.atKey_put_same hm (isKey _) _ _), k2.trans ((Maps.has_put_same hm (isKey _) _).trans (by simp))⟩
    · have hf : findR (x :: r) nm = findR r nm := by unfold findR; rw [List.find?_cons_of_neg (by simpa using e)]
      have hne : lkOf nm ≠ lkOf x.1 := fun h => e (lkOf_inj h).symm
      obtain ⟨k1, k2⟩ := ih h2 (m.put (lkOf x.1) (rgD x)) (hm.put _ _)
      rw [hf]
      refine ⟨k1.trans ?_, k2.trans ?_⟩
      · rw [Maps.atKey_put_other hne]
      · rw [Maps.has_put_other hne]
theorem lay_apart (s r n : Int) : Apart (lay s r n) := by
  unfold Apart lay
  simp
theorem mapOf_some {l : List Rg} (ha : Apart l) {nm : ByteArray} {x : Rg} (h : findR l nm = some x) (z : DataW Unit) : (mapOf l).atKey (lkOf nm) z = rgD x ∧ Maps.has (mapOf l) (lkOf nm) = true := by
  obtain ⟨h1, h2⟩ := mapOf_find ha nm (.map []) Maps.isMap_empty z
  rw [h] at h1 h2
  exact ⟨h1, h2⟩
theorem mapOf_none {l : List Rg} (ha : Apart l) {nm : ByteArray} (h : findR l nm = none) (z : DataW Unit) : (mapOf l).atKey (lkOf nm) z = z ∧ Maps.has (mapOf l) (lkOf nm) = false := by
  obtain ⟨h1, h2⟩ := mapOf_find ha nm (.map []) Maps.isMap_empty z
  rw [h] at h1 h2
  exact ⟨h1, h2⟩
theorem lay_names (s r n : Int) : ∀ x ∈ lay s r n, x.1.size ≤ 6 := by
  unfold lay
  simp only [List.mem_cons, List.not_mem_nil, or_false]
  rintro x (rfl | rfl | rfl | rfl | rfl | rfl | rfl | rfl | rfl) <;> simp only <;> decide
theorem strKeyed : Maps.Keyed Tryd.prog 9 := Maps.string_keyed Tryd.underlying9
theorem rgZero (w : World) : (zeroValue 38).run Tryd.prog w = .ok (rgV rg0) w := by kernel_rfl
set_option maxRecDepth 100000 in
set_option maxHeartbeats 2000000 in
theorem cfind (b k l s r : Int) (nm : ByteArray) (hnm : nm.size ≤ 140737488355328) (w : World) :
    Calls Tryd.prog 9 #[cfV b k l, csV s r, .string nm] w fun e w' => e = .returned (.tuple #[rgV (fndX b k l s r nm), .int .i64 (fndE b k l s r nm)]) ∧ Below w.heap.size w w' := by
  by_cases h : Ok2 b k l s r
  · have Hk := Lib.hid h
    have hlen := lay_len s r (k + b * r)
    have hap := lay_apart s r (k + b * r)
    have hnames := lay_names s r (k + b * r)
    generalize hL : lay s r (k + b * r) = L at *
    have HL := Lib.hid hL
    clear h hL
    have Hlen := Lib.hid hlen
    have Hap := Lib.hid hap
    have Hnames := Lib.hid hnames
    have hkey : keyOf Tryd.prog 9 (.string nm) = some (lkOf nm) := Go.WideMaps.keyOf_string_mk Tryd.underlying9 (by unfold maxLen; omega)
    have Hkey := Lib.hid hkey
    have hmm := @run_makeMap Tryd.prog
    clear hlen hap hnames hkey
    go_enter Tryd.func9, Tryd.ntmps9
    go_wp2_with fail
    (with_reducible refine (layout_yes b k l s r Hk.out _).mono ?_); rintro e w1 ⟨A, c, rfl, hb1, hr1, _, _⟩
    rw [HL.out] at hr1
    have hF : Fr w [(w.heap.size + 1 + 1, rgO0)] w1 := ((frBox3 w b k l s r rgO0).go hb1).sub (by simp)
    have hlt1 := hF.lt (g := w.heap.size + 1 + 1) List.mem_cons_self
    have hF2 := hF.al (.map #[] 0)
    have hr2 : Reads (w1.alloc (.map #[] 0)) w1.heap.size 3 A 9 (rgs L) := hr1.alloc (Nat.le_refl _) _
    have hm2 : (w1.alloc (.map #[] 0)).ownsMap Tryd.prog 9 rgR w1.heap.size 0 (mapOf (L.take 0)) := World.ownsMap_made _ _ _ _
    clear hb1 hF hr1
    go_wp2_with fail
    generalize hg : w1.heap.size = g at *
    generalize w1.alloc (.map #[] 0) = w2 at *
    clear hg w1
    go_loopw [28] (fun i wr => ∃ j : Nat, j ≤ 9 ∧ i = .int .i64 j ∧ Fr w [(w.heap.size + 1 + 1, rgO0)] wr ∧ Reads wr g 3 A 9 (rgs L) ∧ wr.ownsMap Tryd.prog 9 rgR g j (mapOf (L.take j))) (fun i _ => 9 - (intOf i).toNat)
    case atStart => exact ⟨0, Nat.zero_le _, rfl, hF2, hr2, hm2⟩
    case round =>
      obtain ⟨j, hj, rfl, hFr, hR, hM⟩ := hrel
      have hbg := hM.lt
      by_cases hlt : j < 9
      · obtain ⟨b', off, nm', B, S, rfl, hb', d1, d2, d3, hd⟩ := rgAt (by rw [Hlen.out]; exact hR) (show j < L.length by rw [Hlen.out]; exact hlt)
        have hkey' := Lib.hid (show keyOf Tryd.prog 9 (.string nm') = some (lkOf nm') from Go.WideMaps.keyOf_string_mk Tryd.underlying9 (by have := Hnames.out _ (mem_drop hd); simp only at this; unfold maxLen; omega))
        go_wp2_with (at_mapUpdate; refine wpList_mapUpdate_own _ rfl _ _ _ 68 rfl 9 38 strKeyed Tryd.underlying68 rgR g j (mapOf (L.take j)) rfl (hM.alloc _) (by unfold maxLen; omega) (.string nm') (rgV (nm', B, S)) (lkOf nm') rfl rfl hkey'.out (rgD (nm', B, S)) [] (rgR_mk _) ?_)
        intro w3 hM3 hg3
        have hF3 := (hFr.al (.cells #[.string nm', .int .i64 B, .int .i64 S] 38 (0, 0))).grown1 ((ba hFr.bel _).grown hg3 (by simpa using (ba hFr.bel (.cells #[.string nm', .int .i64 B, .int .i64 S] 38 (0, 0))).size) (fun k hk => by injection hk with hk; omega)) hg3 (by intro h; injection h with h; omega)
        have hR3 := (hR.alloc (by omega) (.cells #[.string nm', .int .i64 B, .int .i64 S] 38 (0, 0))).grown hg3 (by simp; omega) (fun k hk => by injection hk with hk; omega)
        have hM4 : w3.ownsMap Tryd.prog 9 rgR g (j + 1) (mapOf (L.take (j + 1))) := by rw [mapOf_snoc hd]; exact hM3
        clear hM3 hg3 hM hR hFr
        go_wp2
        go_roundw
        case rel => exact ⟨j + 1, by omega, by go_num, hF3, hR3, hM4⟩
        case measure => simp [intOf]; omega
      · obtain rfl : j = 9 := by omega
        rw [List.take_of_length_le (by rw [Hlen.out]; omega)] at hM
        have hO := hFr.at (g := w.heap.size + 1 + 1) List.mem_cons_self
        obtain ⟨o0, o1, o2⟩ : _ ∧ _ ∧ _ := ⟨Lib.cell_of_heap hO 0, Lib.cell_of_heap hO 1, Lib.cell_of_heap hO 2⟩
        obtain ⟨f0, f1, f2⟩ : _ ∧ _ ∧ _ := ⟨Lib.frozen_of_heap hO 0, Lib.frozen_of_heap hO 1, Lib.frozen_of_heap hO 2⟩
        have hB := hFr.bel
        have hl9 := hFr.lt (g := w.heap.size + 1 + 1) List.mem_cons_self
        clear hO hFr hF2 hr2 hm2 hmm
        cases hf : findR L nm with
        | none =>
          have Hx := Lib.hid (fnd_none Hk.out (HL.out ▸ hf))
          obtain ⟨m1, m2⟩ := mapOf_none Hap.out hf (rgD rg0)
          have M1 := Lib.hid m1
          have M2 := Lib.hid m2
          clear hf m1 m2
          go_wp2_with (at_lookup; refine wpList_lookup_own_ok _ rfl _ _ 68 rfl 9 38 strKeyed Tryd.underlying68 rgR (rgZero _) (rgD rg0) [] (rgR_mk _) g 9 (mapOf L) rfl hM _ _ rfl Hkey.out ?_)
          intro v ps hv
          obtain rfl := rgR_inv (x := rg0) (M1.out ▸ hv)
          rw [M2.out]
          clear hv
          go_wp2
          refine bodyPost_ret (v := .tuple #[rgV rg0, .int .i64 4]) (by simp [results, go_sem, o0, o1, o2, rg0, hl9]) rfl ⟨by rw [Hx.out.1, Hx.out.2], ?_⟩
          repeat' (first | with_reducible exact hB | with_reducible refine ba ?_ _ | with_reducible refine bs ?_ ?_ | (simp only; omega))
        | some x =>
          have Hx := Lib.hid (fnd_some Hk.out (HL.out ▸ hf))
          obtain ⟨m1, m2⟩ := mapOf_some Hap.out hf (rgD rg0)
          have M1 := Lib.hid m1
          have M2 := Lib.hid m2
          clear hf m1 m2
          go_wp2_with (at_lookup; refine wpList_lookup_own_ok _ rfl _ _ 68 rfl 9 38 strKeyed Tryd.underlying68 rgR (rgZero _) (rgD rg0) [] (rgR_mk _) g 9 (mapOf L) rfl hM _ _ rfl Hkey.out ?_)
          intro v ps hv
          obtain rfl := rgR_inv (x := x) (M1.out ▸ hv)
          rw [M2.out]
          clear hv
          go_wp2
          refine bodyPost_ret (v := .tuple #[rgV x, .int .i64 0]) (by simp [results, go_sem, o0, o1, o2, hl9]) rfl ⟨by rw [Hx.out.1, Hx.out.2], ?_⟩
          repeat' (first | with_reducible exact hB | with_reducible refine ba ?_ _ | with_reducible refine bs ?_ ?_ | (simp only; omega))
  · have Hk := Lib.hid h
    clear h
    go_enter Tryd.func9, Tryd.ntmps9
    go_wp2_with fail
    (with_reducible refine (layout_no b k l s r Hk.out _).mono ?_); rintro e w1 ⟨A, c, rfl, hb1, hr1, _, _⟩
    have hF : Fr w [(w.heap.size + 1 + 1, rgO0)] w1 := ((frBox3 w b k l s r rgO0).go hb1).sub (by simp)
    have hO := hF.at (g := w.heap.size + 1 + 1) List.mem_cons_self
    obtain ⟨o0, o1, o2⟩ : _ ∧ _ ∧ _ := ⟨Lib.cell_of_heap hO 0, Lib.cell_of_heap hO 1, Lib.cell_of_heap hO 2⟩
    obtain ⟨f0, f1, f2⟩ : _ ∧ _ ∧ _ := ⟨Lib.frozen_of_heap hO 0, Lib.frozen_of_heap hO 1, Lib.frozen_of_heap hO 2⟩
    have hB := hF.bel
    clear hb1 hF hO
    go_wp2
    refine bodyPost_ret (v := .tuple #[rgV rg0, .int .i64 7]) (by simp [results, go_sem, o0, o1, o2, rg0]) rfl ⟨by rw [fndX_no Hk.out, fndE_no Hk.out], ?_⟩
    repeat' (first | with_reducible exact hB | with_reducible refine bs ?_ ?_ | (simp only; omega))
set_option maxRecDepth 100000 in
set_option maxHeartbeats 1000000 in
theorem ccell (b k l s r : Int) (nm : ByteArray) (hnm : nm.size ≤ 140737488355328) (i : Int) (w : World) :
    Calls Tryd.prog 17 #[cfV b k l, csV s r, .string nm, .int .i64 i] w fun e w' => e = .returned (.tuple #[.int .i64 (celI b k l s r nm i), .int .i64 (celE b k l s r nm i)]) ∧ Below w.heap.size w w' := by
  obtain ⟨x1, x2, x3, x4⟩ := fndX_bd b k l s r nm
  have hE := fndE_bd b k l s r nm
  have H1 : celE b k l s r nm i = if fndE b k l s r nm = 0 then (if i < 0 ∨ (fndX b k l s r nm).2.2 ≤ i then 7 else 0) else fndE b k l s r nm := rfl
  have H2 : celI b k l s r nm i = if celE b k l s r nm i = 0 then (fndX b k l s r nm).2.1 + i else 0 := rfl
  have hc := cfind b k l s r nm hnm
  generalize celI b k l s r nm i = I at *
  generalize celE b k l s r nm i = C at *
  generalize fndE b k l s r nm = E at *
  generalize fndX b k l s r nm = X at *
  obtain ⟨nm', B, S⟩ := X
  simp only at x1 x2 x3 x4 H1 H2
  by_cases h0 : E = 0
  · subst h0
    clear hE
    by_cases hi : i < 0 ∨ S ≤ i
    · have hC : C = 7 := by rw [H1, if_pos rfl, if_pos hi]
      have hI : I = 0 := by rw [H2, hC]; rfl
      clear H1 H2
      have HC := Lib.hid hC
      have HI := Lib.hid hI
      have Hc := Lib.hid hc
      clear hC hI hc
      by_cases hi2 : i < 0
      all_goals
        go_enter Tryd.func17, Tryd.ntmps17
        go_wp2_with fail
        (with_reducible refine (Hc.out _).mono ?_); rintro e w1 ⟨rfl, hb1⟩
        have hB := bt (ba (ba (Below.refl _ _) _) _) hb1
        clear hb1
        go_wp2
        all_goals first | (exfalso; omega) | skip
        all_goals
          go_ret2
          exact ⟨ret_tuple2 HI.out.symm HC.out.symm, ba hB _⟩
    · have hC : C = 0 := by rw [H1, if_pos rfl, if_neg hi]
      have hI : I = B + i := by rw [H2, hC]; rfl
      clear H1 H2
      have hi1 : 0 ≤ i := by omega
      have hi2 : i < S := by omega
      clear hi
      have HC := Lib.hid hC
      have HI := Lib.hid hI
      have Hc := Lib.hid hc
      clear hC hI hc
      go_enter Tryd.func17, Tryd.ntmps17
      go_wp2_with fail
      (with_reducible refine (Hc.out _).mono ?_); rintro e w1 ⟨rfl, hb1⟩
      have hB := bt (ba (ba (Below.refl _ _) _) _) hb1
      clear hb1
      go_wp2
      all_goals first | (exfalso; omega) | skip
      all_goals
        go_ret2
        exact ⟨ret_tuple2 HI.out.symm HC.out.symm, ba hB _⟩
  · have hC : C = E := by rw [H1, if_neg h0]
    have hI : I = 0 := by rw [H2, hC, if_neg h0]
    have e0 : (E != 0) = true := by simpa using h0
    have e1 : (E == 0) = false := by simpa using h0
    clear H1 H2
    have HC := Lib.hid hC
    have HI := Lib.hid hI
    have Hc := Lib.hid hc
    clear hC hI hc hE h0
    go_enter Tryd.func17, Tryd.ntmps17
    go_wp2_with fail
    (with_reducible refine (Hc.out _).mono ?_); rintro e w1 ⟨rfl, hb1⟩
    have hB := bt (ba (ba (Below.refl _ _) _) _) hb1
    clear hb1
    go_wp2
    go_ret2
    exact ⟨ret_tuple2 HI.out.symm HC.out.symm, ba hB _⟩
end Go.Proofs.YtmpdgckccgbdnaaDoor
