/- Reports: Equal, Make of the program. -/
import Derived.Test.YtaainkjgnljihaaGreatDoorR4
namespace Go.Proofs.YtaainkjgnljihaaGreatDoor
open Go.RowKit
theorem htEl : Elem Tryz.prog 22 34 (.agg #[.int .i64 0, .int .i64 0]) 2 16 := ⟨Tryz.underlying22, by kernel_rfl, rfl, by decide⟩
theorem hits_app (l m : List Hit) : hits (l ++ m) = hits l ++ hits m := flat2_append l m
theorem hits_one (l : List Hit) : ∀ u ∈ hits l, u.oneCell' = true := flat2_one l (fun _ => rfl) (fun _ => rfl)
/-- the comparison of reports -/
def eqR (l m : List Hit) (o o' : Bool) (d d' : Int) : Bool := (o == o') && decide (d = d') && decide (l = m)
set_option maxRecDepth 100000 in
set_option maxHeartbeats 1000000 in
theorem equal_ (w : World) (A A' : Option Addr) (c c' : Nat) (l m : List Hit) (h : Reads w w.heap.size 2 A l.length (hits l)) (h' : Reads w w.heap.size 2 A' m.length (hits m)) (hl : l.length ≤ 9223372036854775807) (o o' : Bool) (d d' : Int) (v : Bool) (hv : Hid (v = eqR l m o o' d d')) :
    Calls Tryz.prog 9 #[repV A l.length c o d, repV A' m.length c' o' d'] w fun e w' => e = .returned (.bool v) ∧ Below w.heap.size w w' := by
  have hs := same_any ((w.alloc (repO A l.length c o d)).alloc (repO A' m.length c' o' d')) _ _ A A' c c' l m ((h.al _).al _) ((h'.al _).al _) hl
  have Hs := Lib.hid hs
  clear hs h h'
  generalize hq : decide (l = m) = q at *
  have Hq := Lib.hid hq
  clear hq
  by_cases ho : o = o'
  · by_cases hd : d = d'
    · have e1 : (o == o') = true := by simpa using ho
      have e2 : (d == d') = true := by simpa using hd
      have HV := Lib.hid (show v = q by rw [hv.out, eqR, e1, decide_eq_true hd, Hq.out]; rfl)
      subst ho hd
      clear e1 e2
      go_enter Tryz.func9, Tryz.ntmps9
      have eo : (o == o) = true := by simp
      go_wp2_with fail
      (with_reducible refine (Hs.out).mono ?_); rintro e w1 ⟨rfl, hb1⟩
      have hB := bt (ba (ba (Below.refl _ _) _) _) hb1
      clear hb1
      go_wp2
      go_ret
      exact ⟨ret_bool HV.out.symm, hB⟩
    · have HV := Lib.hid (show v = false by rw [hv.out, eqR, decide_eq_false hd]; simp)
      have e2 : (d == d') = false := by simpa using hd
      subst ho
      clear hd
      go_enter Tryz.func9, Tryz.ntmps9
      go_wp2
      go_ret
      exact ⟨ret_bool HV.out.symm, ba (ba (Below.refl _ _) _) _⟩
  · have e1 : (o == o') = false := by simpa using ho
    have HV := Lib.hid (show v = false by rw [hv.out, eqR, e1]; simp)
    clear ho
    go_enter Tryz.func9, Tryz.ntmps9
    go_wp2
    all_goals
      go_ret
      exact ⟨ret_bool HV.out.symm, ba (ba (Below.refl _ _) _) _⟩
/-- what comes back: a report that reads as hits, flag, number; and an error -/
def RetRep (w : World) (l : List Hit) (o : Bool) (d err : Int) (e : Ending) (w' : World) : Prop :=
  ∃ A c, e = .returned (.tuple #[repV A l.length c o d, .int .i64 err]) ∧ Below w.heap.size w w' ∧ Reads w' w'.heap.size 2 A l.length (hits l) ∧ l.length ≤ c ∧ c ≤ 9223372036854775807
def mkE (l : List Hit) (k : Int) : Int := if capK k = false then 7 else if 20000 < l.length then 3 else (wrg l).2
def mkL (l : List Hit) (k : Int) : List Hit := if mkE l k = 0 then l.take k.toNat else []
def mkD (l : List Hit) (k : Int) : Int := if mkE l k = 0 then ((l.length - k.toNat : Nat) : Int) else 0
def mkO (l : List Hit) (k : Int) : Bool := decide (0 < mkD l k)
theorem mk_no {l : List Hit} {k : Int} (h : mkE l k ≠ 0) : mkL l k = [] ∧ mkD l k = 0 ∧ mkO l k = false := by
  have h1 : mkD l k = 0 := if_neg h
  exact ⟨if_neg h, h1, by unfold mkO; rw [h1]; rfl⟩
theorem mk_yes {l : List Hit} {k : Int} (h : mkE l k = 0) : mkL l k = l.take k.toNat ∧ mkD l k = ((l.length - k.toNat : Nat) : Int) := ⟨if_pos h, if_pos h⟩
theorem RetRep.nil {w w' : World} {l : List Hit} {o : Bool} {d err : Int} (hb : Below w.heap.size w w') (hl : l = []) (ho : o = false) (hd : d = 0) : RetRep w l o d err (.returned (.tuple #[repV none 0 0 false 0, .int .i64 err])) w' := by
  subst hl ho hd
  exact ⟨none, 0, rfl, hb, Reads.none_, Nat.le_refl _, by omega⟩
set_option maxRecDepth 100000 in
set_option maxHeartbeats 2000000 in
theorem make_no (w : World) (A : Option Addr) (c : Nat) (l : List Hit) (h : Reads w w.heap.size 2 A l.length (hits l)) (hl : l.length ≤ 9223372036854775807) (k : Int) (hne : mkE l k ≠ 0) :
    Calls Tryz.prog 11 #[.slice A l.length c, .int .i64 k] w (RetRep w (mkL l k) (mkO l k) (mkD l k) (mkE l k)) := by
  obtain ⟨m1, m2, m3⟩ := mk_no hne
  rw [m1, m2, m3]
  generalize hx : mkE l k = x at *
  unfold mkE at hx
  clear m1 m2 m3
  obtain ⟨cp, hcp⟩ : ∃ cp, cp = capK k := ⟨_, rfl⟩
  rw [← hcp] at hx
  have Hcp := Lib.hid hcp
  clear hcp
  have hO : (w.alloc (repO none 0 0 false 0)).heap[w.heap.size]? = some (repO none 0 0 false 0) := alloc1_new _ _
  by_cases h0 : cp = false
  · rw [if_pos h0] at hx
    subst h0
    subst hx
    clear hne hO
    go_enter Tryz.func11, Tryz.ntmps11
    go_wp2_with fail
    (with_reducible refine (fits_ k false Hcp _).mono ?_); rintro e w' ⟨rfl, rfl⟩
    go_wp2
    refine bodyPost_ret (v := .tuple #[repV none 0 0 false 0, .int .i64 7]) (by simp [results, go_sem]) rfl (RetRep.nil ?_ rfl rfl rfl)
    exact ba (Below.refl _ _) _
  rw [if_neg h0] at hx
  obtain rfl : cp = true := by simpa using h0
  clear h0
  by_cases h1 : 20000 < l.length
  · rw [if_pos h1] at hx
    subst hx
    clear hne hO
    go_enter Tryz.func11, Tryz.ntmps11
    go_wp2_with fail
    (with_reducible refine (fits_ k true Hcp _).mono ?_); rintro e w' ⟨rfl, rfl⟩
    go_wp2
    refine bodyPost_ret (v := .tuple #[repV none 0 0 false 0, .int .i64 3]) (by simp [results, go_sem]) rfl (RetRep.nil ?_ rfl rfl rfl)
    exact ba (Below.refl _ _) _
  rw [if_neg h1] at hx
  have hwr := wrong_ (w.alloc (repO none 0 0 false 0)) A c l (h.al _) hl
  generalize wrg l = q at *
  obtain ⟨I, E⟩ := q
  simp only at hx
  subst hx
  have e2 : (E != 0) = true := by simpa using hne
  have Hwr := Lib.hid hwr
  clear hwr hne
  go_enter Tryz.func11, Tryz.ntmps11
  go_wp2_with fail
  (with_reducible refine (fits_ k true Hcp _).mono ?_); rintro e w' ⟨rfl, rfl⟩
  go_wp2_with fail
  (with_reducible refine (Hwr.out).mono ?_); rintro e w1 ⟨rfl, hb1⟩
  have hF := ((Fr.start w).newN rfl (repO none 0 0 false 0)).go hb1
  have hO1 := hF.at (g := w.heap.size) List.mem_cons_self
  obtain ⟨o0, o1, o2⟩ : w1.cell? ⟨w.heap.size, 0, none⟩ = some (.slice none 0 0) ∧ w1.cell? ⟨w.heap.size, 1, none⟩ = some (.bool false) ∧ w1.cell? ⟨w.heap.size, 2, none⟩ = some (.int .i64 0) := ⟨Lib.cell_of_heap hO1 0, Lib.cell_of_heap hO1 1, Lib.cell_of_heap hO1 2⟩
  obtain ⟨f0, f1, f2⟩ : _ ∧ _ ∧ _ := ⟨Lib.frozen_of_heap hO1 0, Lib.frozen_of_heap hO1 1, Lib.frozen_of_heap hO1 2⟩
  have hB := hF.bel
  clear hb1 hF hO1 hO
  go_wp2
  refine bodyPost_ret (v := .tuple #[repV none 0 0 false 0, .int .i64 E]) (by simp [results, go_sem, o0, o1, o2]) rfl (RetRep.nil ?_ rfl rfl rfl)
  repeat' (first | with_reducible exact hB | with_reducible refine bs ?_ ?_ | (simp only; omega))
end Go.Proofs.YtaainkjgnljihaaGreatDoor
