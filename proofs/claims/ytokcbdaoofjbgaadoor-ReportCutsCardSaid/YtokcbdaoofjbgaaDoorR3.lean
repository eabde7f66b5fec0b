/- Reports checked: capacity, flags, Check. -/
import Derived.Test.YtokcbdaoofjbgaaDoorR2
namespace Go.Proofs.YtokcbdaoofjbgaaDoor
open Go.RowKit
def capK (k : Int) : Bool := decide (1 ≤ k) && decide (k ≤ 32)
theorem fits_ (k : Int) (v : Bool) (hv : Hid (v = capK k)) (w : World) : Calls Tryd.prog 25 #[.int .i64 k] w fun e w' => e = .returned (.bool v) ∧ w = w' := by
  go_enter Tryd.func25, Tryd.ntmps25
  go_wp2
  all_goals
    go_ret
    exact ⟨ret_bool (by rw [hv.out, Bool.eq_iff_iff]; simp [capK]; try omega), rfl⟩
theorem capacity_ (k : Int) (v : Bool) (hv : Hid (v = capK k)) (w : World) : Calls Tryd.prog 26 #[.int .i64 k] w fun e w' => e = .returned (.bool v) ∧ w = w' := by
  go_enter Tryd.func26, Tryd.ntmps26
  go_wp2
  all_goals
    go_ret
    exact ⟨ret_bool (by rw [hv.out, Bool.eq_iff_iff]; simp [capK]; try omega), rfl⟩
def sizeI (k : Int) : Int := if capK k then 5 + 6 * k else 0
def sizeE (k : Int) : Int := if capK k then 0 else 7
theorem capK_iff {k : Int} : capK k = true ↔ 1 ≤ k ∧ k ≤ 32 := by simp [capK]
theorem size_ (k : Int) (w : World) : Calls Tryd.prog 10 #[.int .i64 k] w fun e w' => e = .returned (.tuple #[.int .i64 (sizeI k), .int .i64 (sizeE k)]) ∧ w = w' := by
  by_cases h : capK k = true
  · obtain ⟨h1, h2⟩ := capK_iff.1 h
    have H1 := Lib.hid (show sizeI k = 5 + 6 * k by unfold sizeI; rw [if_pos h])
    have H2 := Lib.hid (show sizeE k = 0 by unfold sizeE; rw [if_pos h])
    have Hv := Lib.hid h.symm
    clear h
    go_enter Tryd.func10, Tryd.ntmps10
    go_wp2_with fail
    (with_reducible refine (fits_ k true Hv _).mono ?_); rintro e w' ⟨rfl, rfl⟩
    go_wp2
    go_ret2
    exact ⟨by rw [H1.out, H2.out]; rfl, rfl⟩
  · have h' : capK k = false := by simpa using h
    have H1 := Lib.hid (show sizeI k = 0 by unfold sizeI; rw [if_neg h])
    have H2 := Lib.hid (show sizeE k = 7 by unfold sizeE; rw [if_neg h])
    have Hv := Lib.hid h'.symm
    clear h h'
    go_enter Tryd.func10, Tryd.ntmps10
    go_wp2_with fail
    (with_reducible refine (fits_ k false Hv _).mono ?_); rintro e w' ⟨rfl, rfl⟩
    go_wp2
    go_ret2
    exact ⟨by rw [H1.out, H2.out]; rfl, rfl⟩
theorem rsize_ (k : Int) (w : World) : Calls Tryd.prog 11 #[.int .i64 k] w fun e w' => e = .returned (.tuple #[.int .i64 (sizeI k), .int .i64 (sizeE k)]) ∧ w = w' := by
  by_cases h : capK k = true
  · obtain ⟨h1, h2⟩ := capK_iff.1 h
    have H1 := Lib.hid (show sizeI k = 5 + 6 * k by unfold sizeI; rw [if_pos h])
    have H2 := Lib.hid (show sizeE k = 0 by unfold sizeE; rw [if_pos h])
    have Hv := Lib.hid h.symm
    clear h
    go_enter Tryd.func11, Tryd.ntmps11
    go_wp2_with fail
    (with_reducible refine (capacity_ k true Hv _).mono ?_); rintro e w' ⟨rfl, rfl⟩
    go_wp2
    go_ret2
    exact ⟨by rw [H1.out, H2.out]; rfl, rfl⟩
  · have h' : capK k = false := by simpa using h
    have H1 := Lib.hid (show sizeI k = 0 by unfold sizeI; rw [if_neg h])
    have H2 := Lib.hid (show sizeE k = 7 by unfold sizeE; rw [if_neg h])
    have Hv := Lib.hid h'.symm
    clear h h'
    go_enter Tryd.func11, Tryd.ntmps11
    go_wp2_with fail
    (with_reducible refine (capacity_ k false Hv _).mono ?_); rintro e w' ⟨rfl, rfl⟩
    go_wp2
    go_ret2
    exact ⟨by rw [H1.out, H2.out]; rfl, rfl⟩
def flgB (o : Bool) (d m k : Int) : Bool := (o == decide (0 < d)) && (!o || decide (m = 0) || decide (m = k))
theorem flagged_ (o : Bool) (d m k : Int) (v : Bool) (hv : Hid (v = flgB o d m k)) (w : World) : Calls Tryd.prog 28 #[.bool o, .int .i64 d, .int .i64 m, .int .i64 k] w fun e w' => e = .returned (.bool v) ∧ w = w' := by
  go_enter Tryd.func28, Tryd.ntmps28
  cases o <;> by_cases hd : 0 < d
  all_goals
    have hd' := hd
    go_wp2
  all_goals
    go_ret
    go_light
    exact ⟨ret_bool (by rw [hv.out, Bool.eq_iff_iff]; first | (simp_all [flgB]; done) | (simp_all [flgB]; intro hh; exfalso; omega)), rfl⟩
/-- what Check returns -/
def chkR (l : List Hit) (o : Bool) (d k : Int) : Int × Int :=
  if capK k = false then (-1, 7) else if k < l.length then (-1, 3) else if (wrg l).2 ≠ 0 then wrg l else if d < 0 ∨ 65535 < d then (-1, 7) else if flgB o d l.length k then (0, 0) else (-1, 6)
abbrev repV (A : Option Addr) (n c : Nat) (o : Bool) (d : Int) : Value := .agg #[.slice A n c, .bool o, .int .i64 d]
abbrev repO (A : Option Addr) (n c : Nat) (o : Bool) (d : Int) : Obj := .cells #[.slice A n c, .bool o, .int .i64 d] 24 (0, 0)
theorem ret_pr {a b : Int} {p : Int × Int} (h : p = (a, b)) : Ending.returned (.tuple #[.int .i64 a, .int .i64 b]) = .returned (.tuple #[.int .i64 p.1, .int .i64 p.2]) := by rw [h]
set_option maxRecDepth 100000 in
set_option maxHeartbeats 2000000 in
theorem check_ (w : World) (A : Option Addr) (c : Nat) (l : List Hit) (h : Reads w w.heap.size 2 A l.length (hits l)) (hl : l.length ≤ 9223372036854775807) (o : Bool) (d k : Int) :
    Calls Tryd.prog 12 #[repV A l.length c o d, .int .i64 k] w fun e w' => e = .returned (.tuple #[.int .i64 (chkR l o d k).1, .int .i64 (chkR l o d k).2]) ∧ Below w.heap.size w w' := by
  generalize hx : chkR l o d k = x
  unfold chkR at hx
  obtain ⟨cp, hcp⟩ : ∃ cp, cp = capK k := ⟨_, rfl⟩
  obtain ⟨fl, hfl⟩ : ∃ fl, fl = flgB o d l.length k := ⟨_, rfl⟩
  rw [← hcp, ← hfl] at hx
  have Hcp := Lib.hid hcp
  have Hfl := Lib.hid hfl
  clear hcp hfl
  have hwr := wrong_ (w.alloc (repO A l.length c o d)) A c l (h.al _) hl
  generalize wrg l = q at *
  obtain ⟨I, E⟩ := q
  have Hwr := Lib.hid hwr
  clear hwr
  have h' := h.al (repO A l.length c o d)
  by_cases h0 : cp = false
  · rw [if_pos h0] at hx
    subst h0
    have Hx := Lib.hid hx.symm
    clear hx
    go_enter Tryd.func12, Tryd.ntmps12
    go_wp2_with fail
    (with_reducible refine (fits_ k false Hcp _).mono ?_); rintro e w' ⟨rfl, rfl⟩
    go_wp2
    go_ret2
    exact ⟨ret_pr Hx.out, ba (Below.refl _ _) _⟩
  rw [if_neg h0] at hx
  obtain rfl : cp = true := by simpa using h0
  clear h0
  by_cases h1 : k < l.length
  · rw [if_pos h1] at hx
    have Hx := Lib.hid hx.symm
    clear hx
    go_enter Tryd.func12, Tryd.ntmps12
    go_wp2_with fail
    (with_reducible refine (fits_ k true Hcp _).mono ?_); rintro e w' ⟨rfl, rfl⟩
    go_wp2
    go_ret2
    exact ⟨ret_pr Hx.out, ba (Below.refl _ _) _⟩
  rw [if_neg h1] at hx
  by_cases h2 : E ≠ 0
  · rw [if_pos h2] at hx
    have Hx := Lib.hid hx.symm
    have e2 : (E != 0) = true := by simpa using h2
    clear hx h2
    go_enter Tryd.func12, Tryd.ntmps12
    go_wp2_with fail
    (with_reducible refine (fits_ k true Hcp _).mono ?_); rintro e w' ⟨rfl, rfl⟩
    go_wp2_with fail
    (with_reducible refine (Hwr.out).mono ?_); rintro e w1 ⟨rfl, hb1⟩
    have hB := bt (ba (Below.refl _ _) _) hb1
    clear hb1
    go_wp2
    go_ret2
    exact ⟨ret_pr Hx.out, hB⟩
  rw [if_neg h2] at hx
  obtain rfl : E = 0 := by simpa using h2
  clear h2
  by_cases h3 : d < 0 ∨ 65535 < d
  · rw [if_pos h3] at hx
    have Hx := Lib.hid hx.symm
    clear hx
    go_enter Tryd.func12, Tryd.ntmps12
    go_wp2_with fail
    (with_reducible refine (fits_ k true Hcp _).mono ?_); rintro e w' ⟨rfl, rfl⟩
    go_wp2_with fail
    (with_reducible refine (Hwr.out).mono ?_); rintro e w1 ⟨rfl, hb1⟩
    have hF := ((Fr.start w).newN rfl (repO A l.length c o d)).go hb1
    have hB := hF.bel
    obtain ⟨c0, c1, c2⟩ : w1.cell? ⟨w.heap.size, 0, none⟩ = some (.slice A l.length c) ∧ w1.cell? ⟨w.heap.size, 1, none⟩ = some (.bool o) ∧ w1.cell? ⟨w.heap.size, 2, none⟩ = some (.int .i64 d) := ⟨Lib.cell_of_heap (hF.at List.mem_cons_self) 0, Lib.cell_of_heap (hF.at List.mem_cons_self) 1, Lib.cell_of_heap (hF.at List.mem_cons_self) 2⟩
    clear hb1 hF
    go_wp2
    all_goals first | (exfalso; omega) | skip
    all_goals
      go_ret2
      exact ⟨ret_pr Hx.out, hB⟩
  rw [if_neg h3] at hx
  have h31 : 0 ≤ d := by omega
  have h32 : d ≤ 65535 := by omega
  clear h3
  have Hx := Lib.hid (show x = (if fl = true then ((0 : Int), (0 : Int)) else (-1, 6)) from hx.symm)
  clear hx
  go_enter Tryd.func12, Tryd.ntmps12
  go_wp2_with fail
  (with_reducible refine (fits_ k true Hcp _).mono ?_); rintro e w' ⟨rfl, rfl⟩
  go_wp2_with fail
  (with_reducible refine (Hwr.out).mono ?_); rintro e w1 ⟨rfl, hb1⟩
  have hF := ((Fr.start w).newN rfl (repO A l.length c o d)).go hb1
  have hB := hF.bel
  obtain ⟨c0, c1, c2⟩ : w1.cell? ⟨w.heap.size, 0, none⟩ = some (.slice A l.length c) ∧ w1.cell? ⟨w.heap.size, 1, none⟩ = some (.bool o) ∧ w1.cell? ⟨w.heap.size, 2, none⟩ = some (.int .i64 d) := ⟨Lib.cell_of_heap (hF.at List.mem_cons_self) 0, Lib.cell_of_heap (hF.at List.mem_cons_self) 1, Lib.cell_of_heap (hF.at List.mem_cons_self) 2⟩
  clear hb1 hF
  go_wp2_with fail
  (with_reducible refine (flagged_ o d l.length k fl Hfl _).mono ?_); rintro e w' ⟨rfl, rfl⟩
  cases fl with
  | true =>
    go_wp2
    go_ret2
    exact ⟨ret_pr Hx.out, hB⟩
  | false =>
    go_wp2
    go_ret2
    exact ⟨ret_pr Hx.out, hB⟩
abbrev AsT (w : World) (b off j m : Nat) (E I E' I' : Int) (w' : World) : Prop :=
  (Below w.heap.size w w' ∧ b < w'.heap.size) ∧ w'.cell? ⟨b, off + j * 2, none⟩ = some (.int .i64 E') ∧ w'.cell? ⟨b, off + j * 2 + 1, none⟩ = some (.int .i64 I') ∧ w'.cell? ⟨b, off + m * 2, none⟩ = some (.int .i64 E) ∧ w'.cell? ⟨b, off + m * 2 + 1, none⟩ = some (.int .i64 I)
section
variable {w w1 w2 : World} {b off j m : Nat} {E I E' I' : Int}
theorem AsT.drew (h : AsT w b off j m E I E' I' w1) : AsT w b off j m E I E' I' w1.drew := ⟨⟨h.1.1.drew, h.1.2⟩, h.2⟩
theorem AsT.go (h : AsT w b off j m E I E' I' w1) (hb : Below w1.heap.size w1 w2) : AsT w b off j m E I E' I' w2 :=
  ⟨⟨bt h.1.1 hb, Nat.lt_of_lt_of_le h.1.2 hb.size⟩, (hb.cell (p := ⟨b, off + j * 2, none⟩) h.1.2).trans h.2.1, (hb.cell (p := ⟨b, off + j * 2 + 1, none⟩) h.1.2).trans h.2.2.1, (hb.cell (p := ⟨b, off + m * 2, none⟩) h.1.2).trans h.2.2.2.1, (hb.cell (p := ⟨b, off + m * 2 + 1, none⟩) h.1.2).trans h.2.2.2.2⟩
theorem AsT.bel (h : AsT w b off j m E I E' I' w1) : Below w.heap.size w w1 := h.1.1
end
def hitAt (l : List Hit) (k : Nat) : Hit := l.getD k (0, 0)
theorem hitAt_of {l : List Hit} {k : Nat} {h : Hit} (hd : Hid (l.drop k = h :: l.drop (k + 1))) : hitAt l k = h := by
  unfold hitAt
  have := congrArg (fun m => m[0]?) hd.out
  simp at this
  rw [List.getD_eq_getElem?_getD, this]; rfl
set_option maxRecDepth 100000 in
set_option maxHeartbeats 2000000 in
theorem ascends_ (w : World) (A : Option Addr) (c : Nat) (l : List Hit) (h : Reads w w.heap.size 2 A l.length (hits l)) (hl : l.length ≤ 9223372036854775807) (k : Nat) (hlt : k < l.length) :
    Calls Tryd.prog 29 #[.slice A l.length c, .int .i64 k] w fun e w' => e = .returned (.int .i64 (hitErr (prevH l k) (hitAt l k))) ∧ Below w.heap.size w w' := by
  obtain ⟨b, off, E, I, rfl, hb, d1, d2, hd⟩ := htAt h hlt
  rw [hitAt_of hd]
  have k2 : (0 : Int) ≤ (k : Int) := by omega
  have k3 : (k : Int) < (l.length : Int) := by omega
  by_cases ho : okH (E, I) = true
  · have Ho := Lib.hid ho.symm
    by_cases hk0 : k = 0
    · subst hk0
      have HX := Lib.hid (show hitErr (prevH l 0) (E, I) = 0 from hitErr_first ho)
      rw [Nat.zero_mul, Nat.add_zero] at d1 d2
      rw [show ((0 : Nat) : Int) = 0 from rfl] at *
      clear ho hd
      go_enter Tryd.func29, Tryd.ntmps29
      go_wp2_with fail
      (with_reducible refine (valid_ (E, I) true Ho _).mono ?_); rintro e w1 ⟨rfl, hb1⟩
      go_wp2_with fail
      go_quiet (fail)
      go_wp2
      go_ret
      exact ⟨ret_int HX.out.symm, hb1.trans (drewN_below _ _)⟩
    · obtain ⟨j, hj⟩ : ∃ j, k = j + 1 := ⟨k - 1, by omega⟩
      obtain ⟨b', off', E', I', hA, hb', d1', d2', hd'⟩ := htAt h (show j < l.length by omega)
      injection hA with hA; injection hA with hA1 hA2; subst hA1 hA2
      have hp := prevH_succ hd'
      rw [← hj] at hp
      have i1 : IntKind.i64.wrap ((k : Int) - 1) = (k : Int) - 1 := IntWalk.i64_in _ (by omega)
      have i2 : (0 : Int) ≤ (k : Int) - 1 := by omega
      have i2' : (1 : Int) ≤ (k : Int) := by omega
      have i3 : (k : Int) - 1 < (l.length : Int) := by omega
      have i4 : ((k : Int) - 1).toNat = j := by omega
      have i6 : 0 < k := by omega
      have i5 : decide (0 < k) = true := by simpa using i6
      have HJ := Lib.hid hj
      clear hj hk0
      obtain ⟨av, hav⟩ : ∃ av, av = abv (E, I) (E', I') := ⟨_, rfl⟩
      have HX := Lib.hid (show hitErr (prevH l k) (E, I) = if av then 0 else 6 by
        rw [hp, hav]
        cases ha : abv (E, I) (E', I') with
        | true => rw [hitErr_ok ho ha]; rfl
        | false => rw [hitErr_form ho ha]; rfl)
      have Hav := Lib.hid hav
      clear hav hp ho hd hd'
      go_enter Tryd.func29, Tryd.ntmps29
      go_wp2_with fail
      (with_reducible refine (valid_ (E, I) true Ho _).mono ?_); rintro e w1 ⟨rfl, hb1⟩
      have hT : AsT w b off j k E I E' I' w1 := ⟨⟨hb1, Nat.lt_of_lt_of_le hb hb1.size⟩, (hb1.cell (p := ⟨b, off + j * 2, none⟩) hb).trans d1', (hb1.cell (p := ⟨b, off + j * 2 + 1, none⟩) hb).trans d2', (hb1.cell (p := ⟨b, off + k * 2, none⟩) hb).trans d1, (hb1.cell (p := ⟨b, off + k * 2 + 1, none⟩) hb).trans d2⟩
      clear d1 d2 d1' d2' hb1
      cases av with
      | true =>
        go_wp2_with fail
        go_region_held3 (fun w' => AsT w b off j k E I E' I' w')
          (with_reducible (first | exact AsT.drew hT | exact AsT.go (by assumption) hb2))
          ((go_at_call 30; refine (above_ (E, I) (E', I') true Hav _).mono ?_; rintro e w2 ⟨rfl, hb2⟩))
        have hB : Below w.heap.size w w2 := by with_reducible exact AsT.bel (by assumption)
        clear hT
        go_wp2
        go_ret
        exact ⟨ret_int HX.out.symm, hB⟩
      | false =>
        go_wp2_with fail
        go_region_held3 (fun w' => AsT w b off j k E I E' I' w')
          (with_reducible (first | exact AsT.drew hT | exact AsT.go (by assumption) hb2))
          ((go_at_call 30; refine (above_ (E, I) (E', I') false Hav _).mono ?_; rintro e w2 ⟨rfl, hb2⟩))
        have hB : Below w.heap.size w w2 := by with_reducible exact AsT.bel (by assumption)
        clear hT
        go_wp2
        go_ret
        exact ⟨ret_int HX.out.symm, hB⟩
  · have ho' : okH (E, I) = false := by simpa using ho
    have Ho := Lib.hid ho'.symm
    have HX := Lib.hid (show hitErr (prevH l k) (E, I) = 7 from hitErr_range ho')
    clear ho ho' hd
    go_enter Tryd.func29, Tryd.ntmps29
    go_wp2_with fail
    (with_reducible refine (valid_ (E, I) false Ho _).mono ?_); rintro e w1 ⟨rfl, hb1⟩
    go_wp2
    go_ret
    exact ⟨ret_int HX.out.symm, hb1⟩
end Go.Proofs.YtokcbdaoofjbgaaDoor
