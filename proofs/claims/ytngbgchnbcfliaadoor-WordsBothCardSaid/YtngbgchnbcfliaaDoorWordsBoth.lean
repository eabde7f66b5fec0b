/- WordsBoth: for all fields the law returns true. No condition. -/
import Derived.Test.YtngbgchnbcfliaaDoorWordsJoins
namespace Go.Proofs.YtngbgchnbcfliaaDoor
open Go.RowKit
theorem joinT_app {l m : List Fd} (hl : l ≠ []) (hm : m ≠ []) : joinT (l ++ m) = joinT l ++ ([32] ++ joinT m) := by
  cases l with
  | nil => exact absurd rfl hl
  | cons x r =>
    cases m with
    | nil => exact absurd rfl hm
    | cons y t =>
      unfold joinT
      rw [List.cons_append, List.map_cons, List.map_cons, List.map_cons, Lib.join_cons, Lib.join_cons, Lib.join_cons]
      simp [Lib.joinTail]
theorem joinL_zero {l : List Fd} (h : (joinL l).2 = 0) : ¬ 64 < l.length ∧ anyLong l = false ∧ l.any badB = false ∧ ¬ 8192 < (joinT l).length := by
  unfold joinL at h
  split at h
  · cases h
  split at h
  · cases h
  split at h
  · cases h
  split at h
  · cases h
  · rename_i h1 h2 h3 h4
    exact ⟨h1, by simpa using h2, by simpa using h3, h4⟩
theorem joinL_ok' {l : List Fd} (h : (joinL l).2 = 0) : joinL l = (joinT l, 0) := by
  obtain ⟨h1, h2, h3, h4⟩ := joinL_zero h
  exact joinL_ok h1 h2 h3 h4
theorem both1 {l m : List Fd} (hl : l ≠ []) (hm : m ≠ []) (h : (joinL l).2 ≠ 0 ∨ (joinL m).2 ≠ 0) : (joinL (l ++ m)).2 ≠ 0 := by
  intro h0
  obtain ⟨h1, h2, h3, h4⟩ := joinL_zero h0
  rw [List.length_append] at h1
  unfold anyLong at h2
  rw [List.any_append, Bool.or_eq_false_iff] at h2 h3
  rw [joinT_app hl hm] at h4
  simp only [List.length_append, List.length_cons, List.length_nil] at h4
  have a1 := joinL_ok (l := l) (by omega) h2.1 h3.1 (by omega)
  have a2 := joinL_ok (l := m) (by omega) h2.2 h3.2 (by omega)
  rcases h with h | h
  · rw [a1] at h; exact h rfl
  · rw [a2] at h; exact h rfl
theorem both2 {l m : List Fd} (hl : l ≠ []) (hm : m ≠ []) (h : (joinL l).2 = 0) (h' : (joinL m).2 = 0) :
    joinL (l ++ m) = if 64 < l.length + m.length ∨ 8192 < (joinT l).length + 1 + (joinT m).length then ([], 3) else (joinT l ++ ([32] ++ joinT m), 0) := by
  obtain ⟨h1, h2, h3, h4⟩ := joinL_zero h
  obtain ⟨k1, k2, k3, k4⟩ := joinL_zero h'
  have e2 : anyLong (l ++ m) = false := by unfold anyLong at *; rw [List.any_append, h2, k2]; rfl
  have e3 : (l ++ m).any badB = false := by rw [List.any_append, h3, k3]; rfl
  have e4 : (joinT (l ++ m)).length = (joinT l).length + 1 + (joinT m).length := by rw [joinT_app hl hm]; simp; omega
  by_cases c1 : 64 < l.length + m.length
  · rw [if_pos (.inl c1)]; exact joinL_many (by rw [List.length_append]; exact c1)
  by_cases c2 : 8192 < (joinT l).length + 1 + (joinT m).length
  · rw [if_pos (.inr c2)]; exact joinL_big (by rw [List.length_append]; exact c1) e2 e3 (by rw [e4]; exact c2)
  · rw [if_neg (by simp only [not_or]; exact ⟨c1, c2⟩), joinL_ok (by rw [List.length_append]; exact c1) e2 e3 (by rw [e4]; exact c2), joinT_app hl hm]
theorem fds_app (l m : List Fd) : fds (l ++ m) = fds l ++ fds m := flat2_append l m
theorem fds_one (l : List Fd) : ∀ u ∈ fds l, u.oneCell' = true := flat2_one l (fun _ => rfl) (fun _ => rfl)
theorem far_len {l : List Fd} (h : farP l = false) : l.length ≤ 70 := by
  unfold farP at h
  simp only [Bool.or_eq_false_iff, decide_eq_false_iff_not] at h
  omega
set_option maxRecDepth 100000 in
set_option maxHeartbeats 4000000 in
theorem wordsBoth_walk (w : World) (A : Option Addr) (c : Nat) (l : List Fd) (h : Reads w w.heap.size 2 A l.length (fds l)) (_hc : l.length ≤ c ∧ c ≤ 9223372036854775807)
    (A' : Option Addr) (c' : Nat) (m : List Fd) (h' : Reads w w.heap.size 2 A' m.length (fds m)) (_hc' : m.length ≤ c' ∧ c' ≤ 9223372036854775807) (hP : Pow w) (hR : ER w) (hE : Esc w) (hM : ML w) :
    Calls Tryd.prog 7 #[.slice A l.length c, .slice A' m.length c'] w fun e w' => e = .returned (.bool true) ∧ Below w.heap.size w w' := by
  rcases hf : farP l with _ | _
  case true =>
    have Hf := Lib.hid hf
    clear hf
    go_enter Tryd.func7, Tryd.ntmps7
    go_wp2_with fail
    (with_reducible refine (far_ w A c l h).mono ?_); rintro e w ⟨rfl, hw⟩; subst hw
    rw [Hf.out]
    go_wp2_with fail
    (with_reducible refine (shown_ _ hE hM hR hP).mono ?_); rintro e w9 ⟨rfl, hb9⟩
    go_wp2
    go_ret
    exact ⟨rfl, hb9⟩
  have Hf := Lib.hid hf
  rcases hf' : farP m with _ | _
  case true =>
    have Hf' := Lib.hid hf'
    clear hf hf'
    go_enter Tryd.func7, Tryd.ntmps7
    go_wp2_with fail
    (with_reducible refine (far_ w A c l h).mono ?_); rintro e w ⟨rfl, hw⟩; subst hw
    rw [Hf.out]
    go_wp2_with fail
    (with_reducible refine (far_ w A' c' m h').mono ?_); rintro e w ⟨rfl, hw⟩; subst hw
    rw [Hf'.out]
    go_wp2_with fail
    (with_reducible refine (shown_ _ hE hM hR hP).mono ?_); rintro e w9 ⟨rfl, hb9⟩
    go_wp2
    go_ret
    exact ⟨rfl, hb9⟩
  have Hf' := Lib.hid hf'
  have hl70 := far_len hf
  have hm70 := far_len hf'
  clear hf hf'
  by_cases hl : l = []
  · have z1 : ((l.length : Int) == 0) = true := by rw [hl]; rfl
    clear hl
    go_enter Tryd.func7, Tryd.ntmps7
    go_wp2_with fail
    (with_reducible refine (far_ w A c l h).mono ?_); rintro e w ⟨rfl, hw⟩; subst hw
    rw [Hf.out]
    go_wp2_with fail
    (with_reducible refine (far_ w A' c' m h').mono ?_); rintro e w ⟨rfl, hw⟩; subst hw
    rw [Hf'.out]
    go_wp2_with fail
    (with_reducible refine (shown_ _ hE hM hR hP).mono ?_); rintro e w9 ⟨rfl, hb9⟩
    go_wp2
    go_ret
    exact ⟨rfl, hb9⟩
  have z1 : ((l.length : Int) == 0) = false := by rw [beq_eq_false_iff_ne]; intro e; exact hl (List.eq_nil_of_length_eq_zero (by omega))
  by_cases hm : m = []
  · have z2 : ((m.length : Int) == 0) = true := by rw [hm]; rfl
    clear hm
    go_enter Tryd.func7, Tryd.ntmps7
    go_wp2_with fail
    (with_reducible refine (far_ w A c l h).mono ?_); rintro e w ⟨rfl, hw⟩; subst hw
    rw [Hf.out]
    go_wp2_with fail
    (with_reducible refine (far_ w A' c' m h').mono ?_); rintro e w ⟨rfl, hw⟩; subst hw
    rw [Hf'.out]
    go_wp2_with fail
    (with_reducible refine (shown_ _ hE hM hR hP).mono ?_); rintro e w9 ⟨rfl, hb9⟩
    go_wp2
    go_ret
    exact ⟨rfl, hb9⟩
  have z2 : ((m.length : Int) == 0) = false := by rw [beq_eq_false_iff_ne]; intro e; exact hm (List.eq_nil_of_length_eq_zero (by omega))
  have hb1' := Lib.hid (both1 hl hm)
  have hb2' := Lib.hid (both2 hl hm)
  have c1 := fun W (h : Reads W W.heap.size 2 A l.length (fds l)) hE => join_ W A c l h hE
  have c2 := fun W (h : Reads W W.heap.size 2 A' m.length (fds m)) hE => join_ W A' c' m h hE
  have c3 := fun W B d (h : Reads W W.heap.size 2 B (l ++ m).length (fds (l ++ m))) hE => join_ W B d (l ++ m) h hE
  have o1 := Lib.hid (fun e => joinL_ok' (l := l) e)
  have o2 := Lib.hid (fun e => joinL_ok' (l := m) e)
  have hz1 := Lib.hid (fun e => Nat.not_lt.1 (joinL_zero (l := l) e).2.2.2)
  have hz2 := Lib.hid (fun e => Nat.not_lt.1 (joinL_zero (l := m) e).2.2.2)
  generalize joinL l = r1 at *
  generalize joinL m = r2 at *
  generalize joinL (l ++ m) = r3 at *
  obtain ⟨T1, e1⟩ := r1
  obtain ⟨T2, e2⟩ := r2
  obtain ⟨T3, e3⟩ := r3
  obtain ⟨F1, hF1⟩ : ∃ F : ByteArray, F = ⟨T1.toArray⟩ := ⟨_, rfl⟩
  obtain ⟨F2, hF2⟩ : ∃ F : ByteArray, F = ⟨T2.toArray⟩ := ⟨_, rfl⟩
  obtain ⟨F3, hF3⟩ : ∃ F : ByteArray, F = ⟨T3.toArray⟩ := ⟨_, rfl⟩
  have c1 : ∀ W, Reads W W.heap.size 2 A l.length (fds l) → Esc W → Calls Tryd.prog 24 #[.slice A l.length c] W (fun e w' => e = .returned (.tuple #[.string F1, .int .i64 e1]) ∧ Below W.heap.size W w') := by rw [hF1]; exact c1
  have c2 : ∀ W, Reads W W.heap.size 2 A' m.length (fds m) → Esc W → Calls Tryd.prog 24 #[.slice A' m.length c'] W (fun e w' => e = .returned (.tuple #[.string F2, .int .i64 e2]) ∧ Below W.heap.size W w') := by rw [hF2]; exact c2
  have H1 := Lib.hid c1
  have H2 := Lib.hid c2
  have HF := Lib.hid (And.intro hF1 (And.intro hF2 hF3))
  have c4 : ∀ W B d n (xs : List Value), n = l.length + m.length → xs = fds (l ++ m) → Reads W W.heap.size 2 B n xs → Esc W → Calls Tryd.prog 24 #[.slice B n d] W (fun e w' => e = .returned (.tuple #[.string F3, .int .i64 e3]) ∧ Below W.heap.size W w') := by
    intro W B d n xs hn hx hr hE
    rw [hF3]
    subst hx
    rw [← List.length_append] at hn
    subst hn
    exact c3 W B d hr hE
  have H3 := Lib.hid c4
  clear c1 c2 c3 c4 hF1 hF2 hF3
  have hlm : (l ++ m).length = 0 + l.length + m.length := by rw [List.length_append]; omega
  have Hlm := Lib.hid hlm
  clear hl hm hlm
  go_enter Tryd.func7, Tryd.ntmps7
  go_wp2_with fail
  (with_reducible refine (far_ w A c l h).mono ?_); rintro e w ⟨rfl, hw⟩; subst hw
  rw [Hf.out]
  go_wp2_with fail
  (with_reducible refine (far_ w A' c' m h').mono ?_); rintro e w ⟨rfl, hw⟩; subst hw
  rw [Hf'.out]
  go_wp2_with fail
  (with_reducible refine (H1.out _ h hE).mono ?_); rintro e w1 ⟨rfl, hb1⟩
  go_wp2_with fail
  (with_reducible refine (H2.out _ (h'.go hb1) (hE.below hb1)).mono ?_); rintro e w2 ⟨rfl, hb2⟩
  have hB2 := bt hb1 hb2
  go_wp2_with (at_builtin; refine wpList_apr fdEl (w0 := w) (World.ownsRow_lit w2 #[] 0 hB2.size (by unfold maxLen; omega) rfl) (ba hB2 _) ((h.below hB2).alloc hB2.size _) (fds_one l) ?_)
  intro v4 w4 hO4 hB4 hg4
  go_wp2_with (at_builtin; refine wpList_apr fdEl (w0 := w) hO4 hB4 (h'.below hB4) (fds_one m) ?_)
  intro v5 w5 hO5 hB5 hg5
  obtain ⟨A5, c5, rfl, hr5, _, _⟩ := own_sl hO5
  clear hO4 hO5 hg4 hg5
  go_wp2_with fail
  (with_reducible refine (H3.out _ A5 c5 _ _ (by omega) (fds_app l m).symm hr5 (hE.below hB5)).mono ?_); rintro e w6 ⟨rfl, hb6⟩
  have hB6 := bt hB5 hb6
  clear hr5
  by_cases he1 : e1 = 0
  · by_cases he2 : e2 = 0
    · subst he1 he2
      have q1 := o1.out rfl
      have q2 := o2.out rfl
      injection q1 with q1 _
      injection q2 with q2 _
      have q3 := hb2'.out rfl rfl
      rw [← q1, ← q2] at q3
      have hz1' := hz1.out rfl
      have hz2' := hz2.out rfl
      rw [← q1] at hz1'
      rw [← q2] at hz2'
      have z3 : F1.size = T1.length := by rw [HF.out.1]; rfl
      have z4 : F2.size = T2.length := by rw [HF.out.2.1]; rfl
      clear hb1' hb2' o1 o2 q1 q2 hz1 hz2
      by_cases k1 : 64 < l.length + m.length ∨ 8192 < T1.length + 1 + T2.length
      · rw [if_pos k1] at q3
        injection q3 with q3 q4
        subst q4
        have y3 : F3 = ⟨#[]⟩ := by rw [HF.out.2.2, q3]
        clear HF
        subst y3
        clear q3
        by_cases k0 : 64 < l.length + m.length
        · have n1 : (64 : Int) < (l.length : Int) + (m.length : Int) := by omega
          clear k0 k1 z3 z4
          go_wp2_with fail
          (with_reducible refine (shown_ _ (hE.below hB6) (hM.below hB6) (hR.below hB6) (hP.below hB6)).mono ?_); rintro e w9 ⟨rfl, hb9⟩
          go_wp2
          go_ret
          exact ⟨rfl, bt hB6 hb9⟩
        · have n1 : ¬ ((64 : Int) < (l.length : Int) + (m.length : Int)) := by omega
          have n2 : (8192 : Int) < (F1.size : Int) + 1 + (F2.size : Int) := by omega
          have n4 : F1.size ≤ 8192 := by have := hz1'; omega
          have n5 : F2.size ≤ 8192 := by have := hz2'; omega
          clear k0 k1 z3 z4
          go_wp2_with fail
          (with_reducible refine (shown_ _ (hE.below hB6) (hM.below hB6) (hR.below hB6) (hP.below hB6)).mono ?_); rintro e w9 ⟨rfl, hb9⟩
          go_wp2
          go_ret
          exact ⟨rfl, bt hB6 hb9⟩
      · rw [if_neg k1] at q3
        injection q3 with q3 q4
        subst q4
        have n1 : ¬ ((64 : Int) < (l.length : Int) + (m.length : Int)) := by omega
        have n2 : ¬ ((8192 : Int) < (F1.size : Int) + 1 + (F2.size : Int)) := by omega
        have y3 : F3 = F1 ++ ⟨#[32]⟩ ++ F2 := by
          apply ByteArray.ext
          apply Array.toList_inj.1
          rw [bytes_join (a := T1) (b := [32]) (c := T2) (by rw [HF.out.1]) rfl (by rw [HF.out.2.1]), HF.out.2.2, q3]
        clear HF
        subst y3
        have s1 : ¬ (9223372036854775807 < F1.size + (⟨#[32]⟩ : ByteArray).size) := by show ¬ (9223372036854775807 < F1.size + 1); omega
        have s2 : ¬ (9223372036854775807 < F1.size + 1 + F2.size) := by omega
        clear k1 z3 z4 q3
        go_wp2_with fail
        (with_reducible refine (shown_ _ (hE.below hB6) (hM.below hB6) (hR.below hB6) (hP.below hB6)).mono ?_); rintro e w9 ⟨rfl, hb9⟩
        go_wp2
        go_ret
        exact ⟨rfl, bt hB6 hb9⟩
    · have hne : e3 ≠ 0 := hb1'.out (.inr he2)
      have n0 : (e1 != 0) = false := by rw [he1]; rfl
      have n1 : (e2 != 0) = true := by simpa using he2
      have n3 : (e3 != 0) = true := by simpa using hne
      clear hb1' hb2' o1 o2 he1 he2 hne
      go_wp2_with fail
      (with_reducible refine (shown_ _ (hE.below hB6) (hM.below hB6) (hR.below hB6) (hP.below hB6)).mono ?_); rintro e w9 ⟨rfl, hb9⟩
      go_wp2
      go_ret
      exact ⟨rfl, bt hB6 hb9⟩
  · have hne : e3 ≠ 0 := hb1'.out (.inl he1)
    have n1 : (e1 != 0) = true := by simpa using he1
    have n3 : (e3 != 0) = true := by simpa using hne
    clear hb1' hb2' o1 o2 he1 hne
    go_wp2_with fail
    (with_reducible refine (shown_ _ (hE.below hB6) (hM.below hB6) (hR.below hB6) (hP.below hB6)).mono ?_); rintro e w9 ⟨rfl, hb9⟩
    go_wp2
    go_ret
    exact ⟨rfl, bt hB6 hb9⟩
end Go.Proofs.YtngbgchnbcfliaaDoor
