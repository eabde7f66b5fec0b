/- WordsInverse: for every string, every list of fields and every list of numbers the law returns true. No condition. -/
import Derived.Test.YtngbgchnbcfliaaGreatDoorP15
import Derived.Test.YtngbgchnbcfliaaGreatDoorP14
import Derived.Test.YtngbgchnbcfliaaGreatDoorP12
import Derived.Test.YtngbgchnbcfliaaGreatDoorN12
import Derived.Test.YtngbgchnbcfliaaGreatDoorN18
namespace Go.Proofs.YtngbgchnbcfliaaGreatDoor
open Go.RowKit
theorem splitI (s : ByteArray) (f : List Fd) (e0 : Int) (w : World) (hE : Esc w) (hM : ML w) (h : Hid (splitL s.data.toList = (f, e0))) :
    Calls Tryz.prog 14 #[.string s] w (RetSl w 2 (fds f) f.length e0) := by
  have := split_ s w hE hM
  rw [h.out] at this
  exact this
theorem joinI (w : World) (A : Option Addr) (c : Nat) (l : List Fd) (hr : Reads w w.heap.size 2 A l.length (fds l)) (hE : Esc w) (T : ByteArray) (e0 : Int) (h : Hid (joinL l = (T.data.toList, e0))) :
    Calls Tryz.prog 17 #[.slice A l.length c] w fun e w' => e = .returned (.tuple #[.string T, .int .i64 e0]) ∧ Below w.heap.size w w' := by
  have := join_ w A c l hr hE
  unfold RetSE at this
  rw [h.out, arr_eta] at this
  exact this
theorem listI (w : World) (A : Option Addr) (c : Nat) (l : List Int) (hr : Reads w w.heap.size 1 A l.length (ivs l)) (hP : Pow w) (T : ByteArray) (e0 : Int) (h : Hid (listL l = (T.data.toList, e0))) :
    Calls Tryz.prog 7 #[.slice A l.length c] w fun e w' => e = .returned (.tuple #[.string T, .int .i64 e0]) ∧ Below w.heap.size w w' := by
  have := list_ w A c l hr hP
  unfold RetSE at this
  rw [h.out, arr_eta] at this
  exact this
theorem plI (s : ByteArray) (m : List Int) (e0 : Int) (w : World) (hM : ML w) (hP : Pow w) (hs : s.size ≤ 1000000) (h : Hid (plL s.data.toList = (m, e0))) :
    Calls Tryz.prog 9 #[.string s] w (RetSl w 1 (ivs m) m.length e0) := by
  have := plist_ s w hM hP hs
  rw [h.out] at this
  exact this
theorem quoteI (s T : ByteArray) (w : World) (hE : Esc w) (hs : s.size ≤ 1000000) (h : Hid (quoteB s.data.toList = T.data.toList)) :
    Calls Tryz.prog 19 #[.string s] w fun e w' => e = .returned (.string T) ∧ Below w.heap.size w w' := by
  have := quote s w hE (by omega)
  rw [h.out, arr_eta] at this
  exact this
theorem unqI (s V : ByteArray) (e0 : Int) (w : World) (hE : Esc w) (hs : s.size ≤ 1000000) (h : Hid (uqS s.data.toList = V ∧ uqE s.data.toList = e0)) :
    Calls Tryz.prog 13 #[.string s] w fun e w' => e = .returned (.tuple #[.string V, .int .i64 e0]) ∧ Below w.heap.size w w' := by
  have := unquoteW s w hE (by omega)
  rw [h.out.1, h.out.2] at this
  exact this
theorem intI (s : ByteArray) (lo hi n e0 : Int) (w : World) (hR : ER w) (hs : s.size ≤ 1000000) (h : Hid (intR s.data.toList lo hi = (n, e0))) :
    Calls Tryz.prog 12 #[.string s, .int .i64 lo, .int .i64 hi] w fun e w' => e = .returned (.tuple #[.int .i64 n, .int .i64 e0]) ∧ Below w.heap.size w w' := by
  have := int_ s lo hi w (by omega) hR
  rw [h.out] at this
  exact this
theorem sameI (w : World) (A A' : Option Addr) (c c' n n' : Nat) (B B' : Nat) (l : List Fd) (h : Reads w B 2 A n (fds l)) (h' : Reads w B' 2 A' n' (fds l)) (hl : l.length ≤ 1000000) :
    Calls Tryz.prog 18 #[.slice A n c, .slice A' n' c'] w fun e w' => e = .returned (.bool true) ∧ Below w.heap.size w w' := by
  have hf : (fds l).length = l.length * 2 := flat2_length l
  have e1 : n = l.length := by have := h.1; omega
  have e2 : n' = l.length := by have := h'.1; omega
  subst e1
  subst e2
  have := same_any w B B' A A' c c' l l h h' (by omega)
  rw [decide_eq_true rfl] at this
  exact this
theorem lsL_len : ∀ (n : Nat) (l : List Int) (out : List UInt8), l.length ≤ n → n ≤ 1000 → rngB l = true → (lsL out l).length ≤ out.length + 44 * l.length := by
  intro n
  induction n with
  | zero =>
    intro l out h _ _
    have := List.eq_nil_of_length_eq_zero (Nat.le_zero.1 h)
    subst this
    rw [lsL_nil]; simp
  | succ n ih =>
    intro l out h hn hr
    cases l with
    | nil => rw [lsL_nil]; simp
    | cons a r =>
      have h1 := List.all_eq_true.1 hr a (by simp)
      simp only [decide_eq_true_eq] at h1
      have hm := runN_le r a
      simp only [List.length_cons] at h ⊢
      have hr2 : rngB (r.drop (runN a r)) = true := by
        unfold rngB
        rw [List.all_eq_true]
        intro y hy
        exact List.all_eq_true.1 hr y (List.mem_cons_of_mem _ (List.mem_of_mem_drop hy))
      have h2 := ih (r.drop (runN a r)) (runTx out a (runN a r)) (by simp; omega) (by omega) hr2
      have h3 := runTx_len out a (runN a r) 21 (dgL_len a (by omega) (by omega)) (dgL_len _ (by omega) (by omega))
      rw [lsL_cons]
      rw [List.length_drop] at h2
      omega
theorem listL_len {l : List Int} {T : List UInt8} (h : listL l = (T, 0)) : T.length ≤ 30000 := by
  obtain ⟨h1, h2, h3⟩ := listL_zero h
  cases l with
  | nil =>
    rw [listL_nil] at h
    injection h with h _
    subst h; simp
  | cons a r =>
    rw [listL_ok h1 h2 h3 (by simp)] at h
    injection h with h _
    subst h
    have := lsL_len 500 (a :: r) [] (by omega) (by omega) h2
    simp only [List.length_nil] at this
    omega
theorem intR_zero {l : List UInt8} {lo hi n : Int} (h : intR l lo hi = (n, 0)) : decL l = true ∧ intL l = n ∧ -9223372036854775808 ≤ n ∧ n ≤ 9223372036854775807 := by
  unfold intR at h
  split at h
  · simp at h
  rename_i h1
  split at h
  · simp at h
  rename_i h2
  injection h with h _
  subst h
  exact ⟨by simpa using h1, rfl, by omega, by omega⟩
theorem step_fn3 {P : Program} {w : World} {ops : Array Oper} {o : Oper} {a : Act} {K : Act → World → Prop} {Q : Exit → Act → World → Prop} {E0 : Prop} (f : FuncId) {x y z : Operand} {ts : Array TypeId} (v u t : Value) {R : Ending → World → Prop}
    (hcf : ∀ vs W, (callFunc f vs).run P W = .ok (.enter f vs) W) (h : Calls P f #[v, u, t] w R) (hR : ∀ e w', R e w' → ∃ v, e = .returned v ∧ K (a.put o.dst v) w')
    (hgd : o.guard = none := by rfl) (ho : o.op = .call { callee := .value (.func f), args := #[x, y, z], argTypes := ts } := by rfl) (hx : a.eval x = v := by rfl) (hy : a.eval y = u := by rfl) (hz : a.eval z = t := by rfl) :
    if Region.wanted o (yielded ops a.tmps) = true then Oper.wp P o a w K Q else E0 :=
  step_fn f _ _ _ R (hcf _) h hR hgd ho (by simp [hx, hy, hz])
set_option maxRecDepth 100000 in
set_option maxHeartbeats 8000000 in
theorem wordsInverse_walk (w : World) (s : ByteArray) (_hs : s.size ≤ 140737488351232)
    (A : Option Addr) (c : Nat) (l : List Fd) (h : Reads w w.heap.size 2 A l.length (fds l)) (_hc : l.length ≤ c ∧ c ≤ 9223372036854775807)
    (A' : Option Addr) (c' : Nat) (xs : List Int) (n : Int) (h' : Reads w w.heap.size 1 A' xs.length (ivs xs)) (_hc' : xs.length ≤ c' ∧ c' ≤ 9223372036854775807) (hn : -9223372036854775808 ≤ n ∧ n ≤ 9223372036854775807)
    (hP : Pow w) (hR : ER w) (hE : Esc w) (hM : ML w) :
    Calls Tryz.prog 5 #[.string s, .slice A l.length c, .agg #[.slice A' xs.length c', .int .i64 n]] w fun e w' => e = .returned (.bool true) ∧ Below w.heap.size w w' := by
  have hB0 : Below w.heap.size w (w.alloc (.cells #[.slice A' xs.length c', .int .i64 n] 39 (0, 0))) := ba (Below.refl _ _) _
  have HRl := Lib.hid h
  have HRx := Lib.hid h'
  clear h h'
  by_cases h3 : 3000 < s.size
  · have i1 : (3000 : Int) < (s.size : Int) := by omega
    clear h3
    go_enter Tryz.func5, Tryz.ntmps5
    go_wp2_with fail
    (with_reducible refine (shown_ _ (hE.below hB0) (hM.below hB0) (hR.below hB0) (hP.below hB0)).mono ?_); rintro e w9 ⟨rfl, hb9⟩
    go_wp2
    go_ret
    exact ⟨rfl, bt hB0 hb9⟩
  have i1 : ¬ ((3000 : Int) < (s.size : Int)) := by omega
  have HF := Lib.hid ((Fr.start w).new (.cells #[.slice A' xs.length c', .int .i64 n] 39 (0, 0)))
  have HL0 := Lib.hid (HRl.out.al (.cells #[.slice A' xs.length c', .int .i64 n] 39 (0, 0)))
  have c0 := Lib.cell_of_heap (HF.out.at (g := w.heap.size) List.mem_cons_self) 0
  have c1 := Lib.cell_of_heap (HF.out.at (g := w.heap.size) List.mem_cons_self) 1
  rcases hf : farP l with _ | _
  case true =>
    have Hf := Lib.hid hf
    clear hf h3
    go_enter Tryz.func5, Tryz.ntmps5
    go_wp2_with fail
    (with_reducible refine (far_ _ A c l HL0.out).mono ?_); rintro e wf ⟨rfl, hwf⟩; subst hwf
    rw [Hf.out]
    go_wp2_with fail
    (with_reducible refine (shown_ _ (hE.below hB0) (hM.below hB0) (hR.below hB0) (hP.below hB0)).mono ?_); rintro e w9 ⟨rfl, hb9⟩
    go_wp2
    go_ret
    exact ⟨rfl, bt hB0 hb9⟩
  have Hf := Lib.hid hf
  have hl70 : l.length ≤ 70 := by
    unfold farP at hf
    simp only [Bool.or_eq_false_iff, decide_eq_false_iff_not] at hf
    omega
  clear hf
  by_cases h5 : 510 < xs.length
  · have i2 : (510 : Int) < (xs.length : Int) := by omega
    clear h3 h5
    go_enter Tryz.func5, Tryz.ntmps5
    go_wp2_with fail
    (with_reducible refine (far_ _ A c l HL0.out).mono ?_); rintro e wf ⟨rfl, hwf⟩; subst hwf
    rw [Hf.out]
    go_wp2_with fail
    (with_reducible refine (shown_ _ (hE.below hB0) (hM.below hB0) (hR.below hB0) (hP.below hB0)).mono ?_); rintro e w9 ⟨rfl, hb9⟩
    go_wp2
    go_ret
    exact ⟨rfl, bt hB0 hb9⟩
  have i2 : ¬ ((510 : Int) < (xs.length : Int)) := by omega
  have hs1 : s.size ≤ 3000 := by omega
  clear h3 h5
  -- what the calls return
  obtain ⟨f, e1, hS⟩ : ∃ f e1, Hid (splitL s.data.toList = (f, e1)) := ⟨_, _, Lib.hid rfl⟩
  have hS2 := Lib.hid (fun h0 : e1 = 0 => join_split (by rw [← h0]; exact hS.out : splitL s.data.toList = (f, 0)))
  obtain ⟨T, e2, hJ⟩ : ∃ (T : ByteArray) (e2 : Int), Hid (joinL l = (T.data.toList, e2)) := ⟨⟨(joinL l).1.toArray⟩, (joinL l).2, Lib.hid rfl⟩
  have hJ2 := Lib.hid (fun h0 : e2 = 0 => split_join (by rw [← h0]; exact hJ.out : joinL l = (T.data.toList, 0)))
  obtain ⟨U, hU⟩ : ∃ U : ByteArray, U.data.toList = quoteB s.data.toList := ⟨⟨(quoteB s.data.toList).toArray⟩, rfl⟩
  have hU1 := Lib.hid hU.symm
  have hUs : U.size ≤ 20000 := by
    have h1 := quoteB_len s.data.toList
    have h2 : U.data.toList.length = U.size := rfl
    have h3 : s.data.toList.length = s.size := rfl
    rw [hU] at h2; omega
  have hU2 : Hid (uqS U.data.toList = s ∧ uqE U.data.toList = 0) := Lib.hid (by
    rw [hU]
    obtain ⟨_, h2, h3⟩ := unq_quote s.data.toList
    exact ⟨by rw [h2, arr_eta], h3⟩)
  obtain ⟨V, eV, hV⟩ : ∃ V eV, Hid (uqS s.data.toList = V ∧ uqE s.data.toList = eV) := ⟨_, _, Lib.hid ⟨rfl, rfl⟩⟩
  have hV2 : Hid (eV = 0 → quoteB V.data.toList = s.data.toList ∧ V.size ≤ 1000000) := Lib.hid (fun h0 => by
    obtain ⟨h1, h2⟩ := hV.out
    have hok : uqOk s.data.toList = true := by
      rcases ho : uqOk s.data.toList with _ | _
      · rw [(uq_no ho).2] at h2; omega
      · rfl
    have h4 := quote_unq hok
    rw [(uq_yes hok).1] at h1
    have h5 : V.data.toList = (unquoteL s.data.toList).1 := by rw [← h1]
    refine ⟨by rw [h5, h4], ?_⟩
    have h6 : V.data.toList.length = V.size := rfl
    have h7 := esc_len (unquoteL s.data.toList).1
    have h8 := congrArg List.length h4
    have h9 : s.data.toList.length = s.size := rfl
    rw [h5] at h6
    unfold quoteB at h8
    simp only [List.length_cons, List.length_append, List.length_nil] at h8
    omega)
  obtain ⟨W3, e3, hL⟩ : ∃ (T : ByteArray) (e2 : Int), Hid (listL xs = (T.data.toList, e2)) := ⟨⟨(listL xs).1.toArray⟩, (listL xs).2, Lib.hid rfl⟩
  have hL2 := Lib.hid (fun h0 : e3 = 0 => pl_of_list (by rw [← h0]; exact hL.out : listL xs = (W3.data.toList, 0)))
  have hL3 := Lib.hid (fun h0 : e3 = 0 => show W3.size ≤ 1000000 by
    have h1 := listL_len (by rw [← h0]; exact hL.out : listL xs = (W3.data.toList, 0))
    have h2 : W3.data.toList.length = W3.size := rfl
    omega)
  obtain ⟨m4, e4, hK⟩ : ∃ m4 e4, Hid (plL s.data.toList = (m4, e4)) := ⟨_, _, Lib.hid rfl⟩
  have hK2 := Lib.hid (fun h0 : e4 = 0 => list_of_pl (by rw [← h0]; exact hK.out : plL s.data.toList = (m4, 0)))
  obtain ⟨D, hD⟩ : ∃ D, D = Dg n := ⟨_, rfl⟩
  have hDs : D.size ≤ 1000000 := by have := Dg_size n hn.1 hn.2; rw [hD]; omega
  have hD1 := Lib.hid hD
  have hD2 := Lib.hid (show intR D.data.toList n n = (n, 0) by rw [hD]; exact intR_digits hn.1 hn.2)
  obtain ⟨k5, e5, hI⟩ : ∃ k5 e5, Hid (intR s.data.toList (-9223372036854775808) 9223372036854775807 = (k5, e5)) := ⟨_, _, Lib.hid rfl⟩
  have hI2 := Lib.hid (fun h0 : e5 = 0 => show s = Dg k5 ∧ -9223372036854775808 ≤ k5 ∧ k5 ≤ 9223372036854775807 by
    obtain ⟨h1, h2, h3, h4⟩ := intR_zero (by rw [← h0]; exact hI.out : intR s.data.toList (-9223372036854775808) 9223372036854775807 = (k5, 0))
    have h5 := digits_int h1
    rw [h2] at h5
    refine ⟨?_, h3, h4⟩
    show s = ⟨(Lib.itoa k5).toArray⟩
    unfold dgL at h5
    rw [h5, arr_eta])
  clear hD hU
  go_enter Tryz.func5, Tryz.ntmps5
  go_wp2_with fail
  (with_reducible refine (far_ _ A c l HL0.out).mono ?_); rintro e wf ⟨rfl, hwf⟩; subst hwf
  rw [Hf.out]
  go_wp2_with fail
  (with_reducible refine (splitI s f e1 _ (hE.below HF.out.bel) (hM.below HF.out.bel) hS).mono ?_); rintro e w1 ⟨A1, c1', rfl, hb1, hr1, hn1, hm1⟩
  have HF1 := Lib.hid (HF.out.go hb1)
  have Hr1 := Lib.hid hr1
  clear c0 c1 hb1 hr1 HF hB0 HL0
  go_upto_if 45 with (fail)
  go_cut [9, 10] (fun _ _ wx => Fr w [(w.heap.size, .cells #[.slice A' xs.length c', .int .i64 n] 39 (0, 0))] wx)
  case first =>
    by_cases h0 : e1 = 0
    · have hj := Lib.hid (hS2.out h0)
      subst h0
      clear hS2
      go_wp2_with fail
      (with_reducible refine (joinI _ A1 c1' f Hr1.out (hE.below HF1.out.bel) s 0 hj).mono ?_); rintro e w2 ⟨rfl, hb2⟩
      have hF2 := HF1.out.go hb2
      go_wp2
      go_meet
      exact hF2
    · have g1 : (e1 == 0) = false := by simpa using h0
      have hF2 := HF1.out
      clear h0
      go_wp2
      go_meet
      exact hF2
  case rest =>
  have HF2 := Lib.hid hcut
  clear hcut HF1 Hr1 hS hS2 hn1 hm1
  go_wp2_with fail
  (with_reducible refine (joinI _ A c l (HRl.out.go HF2.out.bel) (hE.below HF2.out.bel) T e2 hJ).mono ?_); rintro e w3 ⟨rfl, hb3⟩
  have HF3 := Lib.hid (HF2.out.go hb3)
  clear HF2 hb3
  go_upto_if 64 with (fail)
  go_cut [12, 13] (fun _ _ wx => Fr w [(w.heap.size, .cells #[.slice A' xs.length c', .int .i64 n] 39 (0, 0))] wx)
  case first =>
    by_cases h0 : e2 = 0
    · have hj := Lib.hid (hJ2.out h0)
      subst h0
      clear hJ2
      go_wp2_with fail
      (with_reducible refine (splitI T l 0 _ (hE.below HF3.out.bel) (hM.below HF3.out.bel) hj).mono ?_); rintro e w4 ⟨A4, c4, rfl, hb4, hr4, _, _⟩
      have HF4 := Lib.hid (HF3.out.go hb4)
      go_wp2_with fail
      (with_reducible refine (sameI _ _ _ _ _ _ _ _ _ l hr4 (HRl.out.go HF4.out.bel) (by omega)).mono ?_); rintro e w5 ⟨rfl, hb5⟩
      have hF5 := HF4.out.go hb5
      go_wp2
      go_meet
      exact hF5
    · have g1 : (e2 == 0) = false := by simpa using h0
      have hF5 := HF3.out
      clear h0
      go_wp2
      go_meet
      exact hF5
  case rest =>
  have HF5 := Lib.hid hcut
  clear hcut HF3 hJ hJ2
  go_wp2_with fail
  (with_reducible refine (quoteI s U _ (hE.below HF5.out.bel) (by omega) hU1).mono ?_); rintro e w6 ⟨rfl, hb6⟩
  have HF6 := Lib.hid (HF5.out.go hb6)
  clear HF5 hb6
  go_wp2_with fail
  (with_reducible refine (unqI U s 0 _ (hE.below HF6.out.bel) (by omega) hU2).mono ?_); rintro e w7 ⟨rfl, hb7⟩
  have HF7 := Lib.hid (HF6.out.go hb7)
  clear HF6 hb7
  go_wp2_with fail
  (with_reducible refine (unqI s V eV _ (hE.below HF7.out.bel) (by omega) hV).mono ?_); rintro e w8 ⟨rfl, hb8⟩
  have HF8 := Lib.hid (HF7.out.go hb8)
  clear HF7 hb8 hU1 hU2 hV
  go_upto_region 15 with fail
  go_cut [105] (fun b wx => b = .bool false ∧ Fr w [(w.heap.size, .cells #[.slice A' xs.length c', .int .i64 n] 39 (0, 0))] wx)
  case first =>
    by_cases h0 : eV = 0
    · obtain ⟨hq, hVs⟩ := hV2.out h0
      have Hq := Lib.hid hq
      subst h0
      clear hV2 hq
      go_wp2_with fail
      (with_reducible refine (quoteI V s _ (hE.below HF8.out.bel) hVs Hq).mono ?_); rintro e w9 ⟨rfl, hb9⟩
      have hF9 := HF8.out.go hb9
      go_wp2
      go_meet
      exact ⟨rfl, hF9⟩
    · have g1 : (eV == 0) = false := by simpa using h0
      have hF9 := HF8.out
      clear h0
      go_wp2
      go_meet
      exact ⟨rfl, hF9⟩
  case rest =>
  obtain ⟨rfl, hcut⟩ := hcut
  have HF9 := Lib.hid hcut
  clear hcut HF8 hV2
  have c0 := Lib.cell_of_heap (HF9.out.at (g := w.heap.size) List.mem_cons_self) 0
  go_wp2_with fail
  (with_reducible refine (listI _ A' c' xs (HRx.out.go HF9.out.bel) (hP.below HF9.out.bel) W3 e3 hL).mono ?_); rintro e w10 ⟨rfl, hb10⟩
  have HF10 := Lib.hid (HF9.out.go hb10)
  clear HF9 hb10 c0
  go_upto_if 113 with (fail)
  go_cut [18, 19] (fun _ _ wx => Fr w [(w.heap.size, .cells #[.slice A' xs.length c', .int .i64 n] 39 (0, 0))] wx)
  case first =>
    by_cases h0 : e3 = 0
    · have hj := Lib.hid (hL2.out h0)
      have hz := hL3.out h0
      subst h0
      clear hL2 hL3
      go_wp2_with fail
      (with_reducible refine (plI W3 xs 0 _ (hM.below HF10.out.bel) (hP.below HF10.out.bel) hz hj).mono ?_); rintro e w11 ⟨A11, c11, rfl, hb11, hr11, _, _⟩
      have HF11 := Lib.hid (HF10.out.go hb11)
      have c0 := Lib.cell_of_heap (HF11.out.at (g := w.heap.size) List.mem_cons_self) 0
      go_wp2_with fail
      (with_reducible refine (lists_same _ _ _ _ _ _ _ _ _ xs hr11 (HRx.out.go HF11.out.bel) (by omega)).mono ?_); rintro e w12 ⟨rfl, hb12⟩
      have hF12 := HF11.out.go hb12
      go_wp2
      go_meet
      exact hF12
    · have g1 : (e3 == 0) = false := by simpa using h0
      have hF12 := HF10.out
      clear h0
      go_wp2
      go_meet
      exact hF12
  case rest =>
  have HF12 := Lib.hid hcut
  clear hcut HF10 hL hL2 hL3
  go_wp2_with fail
  (with_reducible refine (plI s m4 e4 _ (hM.below HF12.out.bel) (hP.below HF12.out.bel) (by omega) hK).mono ?_); rintro e w13 ⟨A13, c13, rfl, hb13, hr13, _, _⟩
  have HF13 := Lib.hid (HF12.out.go hb13)
  have Hr13 := Lib.hid hr13
  clear HF12 hb13 hr13
  go_upto_if 134 with (fail)
  go_cut [21, 22] (fun _ _ wx => Fr w [(w.heap.size, .cells #[.slice A' xs.length c', .int .i64 n] 39 (0, 0))] wx)
  case first =>
    by_cases h0 : e4 = 0
    · have hj := Lib.hid (hK2.out h0)
      subst h0
      clear hK2
      go_wp2_with fail
      (with_reducible refine (listI _ A13 c13 m4 Hr13.out (hP.below HF13.out.bel) s 0 hj).mono ?_); rintro e w14 ⟨rfl, hb14⟩
      have hF14 := HF13.out.go hb14
      go_wp2
      go_meet
      exact hF14
    · have g1 : (e4 == 0) = false := by simpa using h0
      have hF14 := HF13.out
      clear h0
      go_wp2
      go_meet
      exact hF14
  case rest =>
  have HF14 := Lib.hid hcut
  clear hcut HF13 hK hK2 Hr13
  go_upto_region 27 with fail
  go_cut [8, 23] (fun a b wx => (a = .int .i64 0 ∧ b = .int .i64 n) ∧ Fr w [(w.heap.size, .cells #[.slice A' xs.length c', .int .i64 n] 39 (0, 0))] wx)
  case first =>
   as_aux_lemma =>
    have c1 := Lib.cell_of_heap (HF14.out.at (g := w.heap.size) List.mem_cons_self) 1
    go_wp2
    go_region_with ((first
      | (go_at_call 20; refine (digits_ n D hD1 hn.1 hn.2 _ (hP.below HF14.out.drew.bel)).mono ?_; rintro e w15 ⟨rfl, hb15⟩; have HF15 := Lib.hid (HF14.out.drew.go hb15); have c1 := Lib.cell_of_heap (HF15.out.at (g := w.heap.size) List.mem_cons_self) 1)
      | (go_at_call 12; refine (intI D n n n 0 _ (hR.below HF15.out.bel) hDs hD2).mono ?_; rintro e w16 ⟨rfl, hb16⟩; have HF16 := Lib.hid (HF15.out.go hb16))))
    all_goals
      go_wp2_with fail
      go_meet
      exact ⟨⟨rfl, rfl⟩, HF16.out⟩
  case rest =>
  obtain ⟨⟨rfl, rfl⟩, hcut⟩ := hcut
  have HF16 := Lib.hid hcut
  clear hcut HF14 hD1 hD2
  go_wp2_with fail
  (with_reducible refine (intI s _ _ k5 e5 _ (hR.below HF16.out.bel) (by omega) hI).mono ?_); rintro e w17 ⟨rfl, hb17⟩
  have HF17 := Lib.hid (HF16.out.go hb17)
  have c1 := Lib.cell_of_heap (HF17.out.at (g := w.heap.size) List.mem_cons_self) 1
  clear HF16 hb17
  by_cases h0 : e5 = 0
  · obtain ⟨hk, hk1, hk2⟩ := hI2.out h0
    have Hk := Lib.hid hk
    subst h0
    clear hI2 hk hI
    go_wp2_with fail
    (with_reducible refine (digits_ k5 s Hk hk1 hk2 _ (hP.below HF17.out.bel)).mono ?_); rintro e w18 ⟨rfl, hb18⟩
    have HF18 := Lib.hid (HF17.out.go hb18)
    have hB18 := HF18.out.bel
    go_wp2_with fail
    (with_reducible refine (shown_ _ (hE.below hB18) (hM.below hB18) (hR.below hB18) (hP.below hB18)).mono ?_); rintro e w19 ⟨rfl, hb19⟩
    go_wp2
    go_ret
    exact ⟨rfl, bt hB18 hb19⟩
  · have g1 : (e5 == 0) = false := by simpa using h0
    have g2 : (e5 != 0) = true := by simpa using h0
    have hB18 := HF17.out.bel
    clear h0 hI2 hI
    go_wp2_with fail
    (with_reducible refine (shown_ _ (hE.below hB18) (hM.below hB18) (hR.below hB18) (hP.below hB18)).mono ?_); rintro e w19 ⟨rfl, hb19⟩
    go_wp2
    go_ret
    exact ⟨rfl, bt hB18 hb19⟩
end Go.Proofs.YtngbgchnbcfliaaGreatDoor
