/- ScriptBack: for every script and every string the law returns true. No condition. -/
import Derived.Test.YtoogemdcmnjpnaaDoorQ3
namespace Go.Proofs.YtoogemdcmnjpnaaDoor
open Go.RowKit
theorem sz_of_chk {l : List Sc} (h : (chk l).2 = 0) : Sizes l := fun x hx => by
  have e := chk_ok h x hx
  unfold scErr at e
  by_cases h1 : x.1 < 1 ∨ 4 < x.1
  · rw [if_pos h1] at e; exact absurd e (by decide)
  · rw [if_neg h1] at e
    by_cases h2 : 1100 < x.2.size
    · rw [if_pos h2] at e; exact absurd e (by decide)
    · omega
theorem pgo_bad : ∀ (L : List ByteArray) (i : Nat) (acc : List Sc), (pgo i acc L).2.2 ≠ 0 → (pgo i acc L).1 = []
  | [], _, _, h => by simp [pgo] at h
  | t :: r, i, acc, h => by
    rw [pgo] at h ⊢
    split
    · rename_i e
      rw [if_pos e] at h
      exact pgo_bad r _ _ h
    · rfl
theorem parse_bad {s : ByteArray} (h : (parse s).2.2 ≠ 0) : (parse s).1 = [] := by
  unfold parse at h ⊢
  split
  · rfl
  · rename_i h1
    rw [if_neg h1] at h
    split
    · rfl
    · rename_i h2
      rw [if_neg h2] at h
      exact pgo_bad _ _ _ h
theorem sparseB (s : ByteArray) (w : World) (hsz : s.size ≤ 1000000) (hE : Esc w) (hm : ML w) {m : List Sc} {a b : Int} (hp : Hid (parse s = (m, a, b))) :
    Calls Tryd.prog 35 #[.string s] w fun e w' => ∃ A c, e = .returned (.tuple #[.slice A m.length c, .int .i64 a, .int .i64 b]) ∧ Below w.heap.size w w' ∧ Reads w' w'.heap.size 2 A m.length (scs m) ∧ m.length ≤ c ∧ c ≤ 9223372036854775807 := by
  have := sparseM s w hsz hE hm
  unfold RetS3 at this
  rw [hp.out] at this
  exact this
theorem sprintB (w : World) (A : Option Addr) (c : Nat) (l : List Sc) (h : IsSc w A l) (hE : Esc w) {t : ByteArray} (ht : Hid (print l = t)) {e0 : Int} (he : Hid ((chk l).2 = e0)) :
    Calls Tryd.prog 33 #[.slice A l.length c] w fun e w' => e = .returned (.tuple #[.string t, .int .i64 e0]) ∧ Below w.heap.size w w' := by
  rw [← ht.out, ← he.out]; exact sprint w A c l h hE
theorem scheckB (w : World) (A : Option Addr) (c : Nat) (l : List Sc) (h : IsSc w A l) (he : Hid (chk l = (0, 0))) :
    Calls Tryd.prog 20 #[.slice A l.length c] w fun e w' => e = .returned (.tuple #[.int .i64 0, .int .i64 0]) ∧ Below w.heap.size w w' := by
  have := scheck w A c l h
  rw [he.out] at this
  exact this
theorem print_size {l : List Sc} (h : (chk l).2 = 0) : (print l).size ≤ 1000000 := by
  rw [print_pos h]
  show (printL l).length ≤ _
  have h2 := chk_len h
  have : ∀ m : List Sc, (∀ x ∈ m, scErr x = 0) → (printL m).length ≤ m.length * 4409 := by
    intro m
    induction m with
    | nil => intro _; simp [printL]
    | cons x r ih =>
      intro hx
      have e : printL (x :: r) = lineL x ++ printL r := by simp [printL]
      have i := ih (fun y hy => hx y (by simp [hy]))
      have e1 := lineL_len x
      have e2 := hx x (by simp)
      have e3 : x.2.size ≤ 1100 := by
        unfold scErr at e2
        by_cases h1 : x.1 < 1 ∨ 4 < x.1
        · rw [if_pos h1] at e2; exact absurd e2 (by decide)
        · rw [if_neg h1] at e2
          by_cases h2 : 1100 < x.2.size
          · rw [if_pos h2] at e2; exact absurd e2 (by decide)
          · omega
      rw [e, List.length_append, List.length_cons]
      omega
  have := this l (chk_ok h)
  omega
set_option maxRecDepth 100000 in
set_option maxHeartbeats 1600000 in
theorem scriptBack_walk (w : World) (A : Option Addr) (c : Nat) (l : List Sc) (h : IsSc w A l) (_hc : l.length ≤ c ∧ c ≤ 9223372036854775807) (s : ByteArray) (_hs : s.size ≤ 140737488351232) (hE : Esc w) (hM : ML w) :
    Calls Tryd.prog 10 #[.slice A l.length c, .string s] w fun e w' => e = .returned (.bool true) ∧ Below w.heap.size w w' := by
  by_cases hf : farB l = true
  · go_enter Tryd.func10, Tryd.ntmps10
    go_wp2_with fail
    (with_reducible refine (far w A c l h).mono ?_); rintro e w1 ⟨rfl, rfl⟩
    go_wp2_with fail
    (with_reducible refine (awake _ hE).mono ?_); rintro e w1 ⟨rfl, hb1⟩
    go_wp2
    go_ret
    exact ⟨rfl, hb1⟩
  have hf2 : farB l = false := by simpa using hf
  clear hf
  by_cases hs : 6000 < s.size
  · go_enter Tryd.func10, Tryd.ntmps10
    go_wp2_with fail
    (with_reducible refine (far w A c l h).mono ?_); rintro e w1 ⟨rfl, rfl⟩
    go_wp2_with fail
    (with_reducible refine (awake _ hE).mono ?_); rintro e w1 ⟨rfl, hb1⟩
    go_wp2
    go_ret
    exact ⟨rfl, hb1⟩
  have hpl := parse_len s
  obtain ⟨m, a, b, hp⟩ : ∃ m a b, Hid (parse s = (m, a, b)) := ⟨_, _, _, Lib.hid rfl⟩
  obtain ⟨t, ht⟩ : ∃ t, Hid (print l = t) := ⟨_, Lib.hid rfl⟩
  obtain ⟨e0, he⟩ : ∃ e0, Hid ((chk l).2 = e0) := ⟨_, Lib.hid rfl⟩
  rw [hp.out] at hpl
  have hm : m.length ≤ 200 := hpl
  clear hpl
  by_cases hb : b = 0
  · subst hb
    obtain ⟨hc1, hc2⟩ := parse_ok hp.out
    have Hc1 := Lib.hid hc1
    have Hc2 := Lib.hid hc2
    have Hc3 := Lib.hid (show (chk m).2 = 0 by rw [hc1])
    have Hsz := Lib.hid (sz_of_chk Hc3.out)
    clear hc1 hc2
    by_cases h0 : e0 = 0
    · subst h0
      have hpp := Lib.hid (show parse t = (l, 0, 0) by rw [← ht.out]; exact parse_print he.out)
      have hts : t.size ≤ 1000000 := by rw [← ht.out]; exact print_size he.out
      have hl200 := chk_len he.out
      go_enter Tryd.func10, Tryd.ntmps10
      go_wp2_with fail
      (with_reducible refine (far w A c l h).mono ?_); rintro e w ⟨rfl, rfl⟩
      go_wp2_with fail
      (with_reducible refine (sprintB w A c l h hE ht he).mono ?_); rintro e w1 ⟨rfl, hb1⟩
      have h1 := h.below hb1
      go_wp2_with fail
      (with_reducible refine (sparseB t w1 hts (hE.below hb1) (hM.below hb1) hpp).mono ?_); rintro e w2 ⟨A2, c2, rfl, hb2, hr2, _, _⟩
      have hB2 := bt hb1 hb2
      have h2 := h1.below hb2
      go_wp2_with fail
      (with_reducible refine (equal_same w2 A2 A c2 c _ hr2 h2.rd (by omega)).mono ?_); rintro e w3 ⟨rfl, hb3⟩
      have hB3 := bt hB2 hb3
      clear hr2 hb1 hb2 hb3 hB2
      go_wp2_with fail
      (with_reducible refine (sparseB s w3 (by omega) (hE.below hB3) (hM.below hB3) hp).mono ?_); rintro e w4 ⟨A4, c4, rfl, hb4, hr4, _, _⟩
      have hB4 := bt hB3 hb4
      have h4 : IsSc w4 A4 m := ⟨hr4, by omega, Hsz.out⟩
      go_wp2_with fail
      (with_reducible refine (scheckB w4 A4 c4 m h4 Hc1).mono ?_); rintro e w5 ⟨rfl, hb5⟩
      have hB5 := bt hB4 hb5
      have h5 := h4.below hb5
      go_wp2_with fail
      (with_reducible refine (sprintB w5 A4 c4 m h5 (hE.below hB5) Hc2 Hc3).mono ?_); rintro e w6 ⟨rfl, hb6⟩
      have hB6 := bt hB5 hb6
      go_wp2_with fail
      (with_reducible refine (awake _ (hE.below hB6)).mono ?_); rintro e w7 ⟨rfl, hb7⟩
      have hB7 := bt hB6 hb7
      go_wp2
      go_ret
      exact ⟨rfl, hB7⟩
    · have m0 : (e0 == 0) = false := by simp [h0]
      clear h0
      go_enter Tryd.func10, Tryd.ntmps10
      go_wp2_with fail
      (with_reducible refine (far w A c l h).mono ?_); rintro e w ⟨rfl, rfl⟩
      go_wp2_with fail
      (with_reducible refine (sprintB w A c l h hE ht he).mono ?_); rintro e w3 ⟨rfl, hB3⟩
      go_wp2_with fail
      (with_reducible refine (sparseB s w3 (by omega) (hE.below hB3) (hM.below hB3) hp).mono ?_); rintro e w4 ⟨A4, c4, rfl, hb4, hr4, _, _⟩
      have hB4 := bt hB3 hb4
      have h4 : IsSc w4 A4 m := ⟨hr4, by omega, Hsz.out⟩
      go_wp2_with fail
      (with_reducible refine (scheckB w4 A4 c4 m h4 Hc1).mono ?_); rintro e w5 ⟨rfl, hb5⟩
      have hB5 := bt hB4 hb5
      have h5 := h4.below hb5
      go_wp2_with fail
      (with_reducible refine (sprintB w5 A4 c4 m h5 (hE.below hB5) Hc2 Hc3).mono ?_); rintro e w6 ⟨rfl, hb6⟩
      have hB6 := bt hB5 hb6
      go_wp2_with fail
      (with_reducible refine (awake _ (hE.below hB6)).mono ?_); rintro e w7 ⟨rfl, hb7⟩
      have hB7 := bt hB6 hb7
      go_wp2
      go_ret
      exact ⟨rfl, hB7⟩
  · have mb : (b != 0) = true := by simp [hb]
    have hmn : m = [] := by
      have := parse_bad (s := s) (by rw [hp.out]; exact hb)
      rw [hp.out] at this
      exact this
    subst hmn
    clear hb
    by_cases h0 : e0 = 0
    · subst h0
      have hpp := Lib.hid (show parse t = (l, 0, 0) by rw [← ht.out]; exact parse_print he.out)
      have hts : t.size ≤ 1000000 := by rw [← ht.out]; exact print_size he.out
      have hl200 := chk_len he.out
      go_enter Tryd.func10, Tryd.ntmps10
      go_wp2_with fail
      (with_reducible refine (far w A c l h).mono ?_); rintro e w ⟨rfl, rfl⟩
      go_wp2_with fail
      (with_reducible refine (sprintB w A c l h hE ht he).mono ?_); rintro e w1 ⟨rfl, hb1⟩
      have h1 := h.below hb1
      go_wp2_with fail
      (with_reducible refine (sparseB t w1 hts (hE.below hb1) (hM.below hb1) hpp).mono ?_); rintro e w2 ⟨A2, c2, rfl, hb2, hr2, _, _⟩
      have hB2 := bt hb1 hb2
      have h2 := h1.below hb2
      go_wp2_with fail
      (with_reducible refine (equal_same w2 A2 A c2 c _ hr2 h2.rd (by omega)).mono ?_); rintro e w3 ⟨rfl, hb3⟩
      have hB3 := bt hB2 hb3
      clear hr2 hb1 hb2 hb3 hB2
      go_wp2_with fail
      (with_reducible refine (sparseB s w3 (by omega) (hE.below hB3) (hM.below hB3) hp).mono ?_); rintro e w4 ⟨A4, c4, rfl, hb4, hr4, _, _⟩
      have hB4 := bt hB3 hb4
      go_wp2_with fail
      (with_reducible refine (awake _ (hE.below hB4)).mono ?_); rintro e w7 ⟨rfl, hb7⟩
      have hB7 := bt hB4 hb7
      go_wp2
      go_ret
      exact ⟨rfl, hB7⟩
    · have m0 : (e0 == 0) = false := by simp [h0]
      clear h0
      go_enter Tryd.func10, Tryd.ntmps10
      go_wp2_with fail
      (with_reducible refine (far w A c l h).mono ?_); rintro e w ⟨rfl, rfl⟩
      go_wp2_with fail
      (with_reducible refine (sprintB w A c l h hE ht he).mono ?_); rintro e w3 ⟨rfl, hB3⟩
      go_wp2_with fail
      (with_reducible refine (sparseB s w3 (by omega) (hE.below hB3) (hM.below hB3) hp).mono ?_); rintro e w4 ⟨A4, c4, rfl, hb4, hr4, _, _⟩
      have hB4 := bt hB3 hb4
      go_wp2_with fail
      (with_reducible refine (awake _ (hE.below hB4)).mono ?_); rintro e w7 ⟨rfl, hb7⟩
      have hB7 := bt hB4 hb7
      go_wp2
      go_ret
      exact ⟨rfl, hB7⟩
end Go.Proofs.YtoogemdcmnjpnaaDoor
