/- Hits: compared, checked, of the program and of its reference. Reports checked, by the program and by its reference. Reports checked: capacity, flags, Check. -/
import Derived.Test.YtaainkjgnljihaaGreatDoorMem
import Derived.IntWalk
namespace Go.Proofs.YtaainkjgnljihaaGreatDoor
open Go.RowKit
abbrev Hit := Int × Int
def hE (h : Hit) : Value := .int .i64 h.1
def hI (h : Hit) : Value := .int .i64 h.2
abbrev hits (l : List Hit) : List Value := flat2 hE hI l
def okH (h : Hit) : Bool := decide (1 ≤ h.1) && decide (h.1 ≤ 1000000) && decide (1 ≤ h.2) && decide (h.2 ≤ 1000)
/-- a is above b -/
def abv (a b : Hit) : Bool := decide (b.1 < a.1) || (decide (a.1 = b.1) && decide (b.2 < a.2))
def hitErr (p : Option Hit) (h : Hit) : Int := if okH h then (match p with | some q => if abv h q then 0 else 6 | none => 0) else 7
def wrgF (i : Nat) (p : Option Hit) : List Hit → Int × Int
  | [] => (-1, 0)
  | h :: r => if hitErr p h = 0 then wrgF (i + 1) (some h) r else (i, hitErr p h)
def wrg (l : List Hit) : Int × Int := wrgF 0 none l
def prevH (l : List Hit) (k : Nat) : Option Hit := if k = 0 then none else l[k - 1]?
def WrgRel (l : List Hit) (k : Nat) : Prop := wrgF k (prevH l k) (l.drop k) = wrg l
theorem WrgRel.start (l : List Hit) : WrgRel l 0 := rfl
theorem prevH_succ {l : List Hit} {k : Nat} {h : Hit} (hd : Hid (l.drop k = h :: l.drop (k + 1))) : prevH l (k + 1) = some h := by
  unfold prevH
  rw [if_neg (by omega), Nat.add_sub_cancel]
  have := congrArg (fun m => m[0]?) hd.out
  simpa using this
theorem WrgRel.step {l : List Hit} {k : Nat} {h : Hit} (hr : WrgRel l k) (hd : Hid (l.drop k = h :: l.drop (k + 1))) (e : hitErr (prevH l k) h = 0) : WrgRel l (k + 1) := by
  unfold WrgRel at *
  rw [hd.out, wrgF, if_pos e] at hr
  rw [prevH_succ hd]
  exact hr
theorem WrgRel.stop {l : List Hit} {k : Nat} {h : Hit} {n : Int} (hr : WrgRel l k) (hd : Hid (l.drop k = h :: l.drop (k + 1))) (e : hitErr (prevH l k) h = n) (hn : n ≠ 0) : wrg l = ((k : Int), n) := by
  unfold WrgRel at hr
  rw [hd.out, wrgF, if_neg (by rw [e]; exact hn), e] at hr
  exact hr.symm
theorem WrgRel.done {l : List Hit} {k : Nat} (hr : WrgRel l k) (hk : l.length ≤ k) : wrg l = (-1, 0) := by
  unfold WrgRel at hr
  rw [List.drop_eq_nil_of_le hk] at hr
  exact hr.symm
theorem hitErr_range {p : Option Hit} {h : Hit} (e : okH h = false) : hitErr p h = 7 := by unfold hitErr; rw [e]; rfl
theorem hitErr_first {h : Hit} (e : okH h = true) : hitErr none h = 0 := by unfold hitErr; rw [e]; rfl
theorem hitErr_form {q h : Hit} (e : okH h = true) (a : abv h q = false) : hitErr (some q) h = 6 := by unfold hitErr; rw [e]; simp [a]
theorem hitErr_ok {q h : Hit} (e : okH h = true) (a : abv h q = true) : hitErr (some q) h = 0 := by unfold hitErr; rw [e]; simp [a]
theorem htAt {w : World} {B k : Nat} {A : Option Addr} {l : List Hit} (h : Reads w B 2 A l.length (hits l)) (hk : k < l.length) :
    ∃ b off E I, A = some ⟨b, off, none⟩ ∧ b < B ∧ w.cell? ⟨b, off + k * 2, none⟩ = some (.int .i64 E) ∧ w.cell? ⟨b, off + k * 2 + 1, none⟩ = some (.int .i64 I) ∧
      Hid (l.drop k = (E, I) :: l.drop (k + 1)) := by
  obtain ⟨b, off, e, hb, c1, c2⟩ := h.at2 rfl hk
  exact ⟨b, off, _, _, e, hb, c1, c2, List.drop_eq_getElem_cons hk⟩
def cmpI (a b : Int) : Int := if a < b then -1 else if b < a then 1 else 0
def cmpH (a b : Hit) : Int := if cmpI a.1 b.1 ≠ 0 then cmpI a.1 b.1 else cmpI a.2 b.2
theorem cmpH_ge (a b : Hit) : (0 ≤ cmpH a b) ↔ abv b a = false := by
  unfold cmpH cmpI abv
  by_cases h1 : a.1 < b.1
  · simp [h1]
  · by_cases h2 : b.1 < a.1
    · simp [h1, h2]; omega
    · have h3 : b.1 = a.1 := by omega
      by_cases h4 : a.2 < b.2
      · simp [h3, h4]
      · by_cases h5 : b.2 < a.2 <;> simp [h3, h4, h5]
theorem isNaN_ (a : Int) (w : World) : Calls Tryz.prog 77 #[.int .i64 a] w fun e w' => e = .returned (.bool false) ∧ w = w' := by
  have e : (a != a) = false := by simp
  go_enter Tryz.func77, Tryz.ntmps77
  go_wp2
  go_ret
  exact ⟨rfl, rfl⟩
theorem compare_ (a b : Int) (w : World) : Calls Tryz.prog 58 #[.int .i64 a, .int .i64 b] w fun e w' => e = .returned (.int .i64 (cmpI a b)) ∧ w = w' := by
  go_enter Tryz.func58, Tryz.ntmps58
  go_wp2_with (go_at_call 77; refine (isNaN_ _ _).mono ?_; rintro e w' ⟨rfl, rfl⟩)
  all_goals
    go_ret
    go_light
    exact ⟨ret_int (by unfold cmpI; first | (rw [if_pos (by omega)]; done) | (rw [if_neg (by omega), if_pos (by omega)]; done) | (rw [if_neg (by omega), if_neg (by omega)]; done)), rfl⟩
theorem or_ (a b z : Int) (Hz : Hid ((if a ≠ 0 then a else b) = z)) (w : World) (g : Nat) (h : w.heap[g]? = some (.cells #[.int .i64 a, .int .i64 b] 3 (0, 0))) :
    Calls Tryz.prog 57 #[.slice (some ⟨g, 0, none⟩) 2 2] w fun e w' => e = .returned (.int .i64 z) ∧ w = w' := by
  have c0 : w.cell? ⟨g, 0, none⟩ = some (.int .i64 a) := Lib.cell_of_heap h 0
  have c1 : w.cell? ⟨g, 1, none⟩ = some (.int .i64 b) := Lib.cell_of_heap h 1
  clear h
  go_enter Tryz.func57, Tryz.ntmps57
  go_wp2
  go_loop [8] (fun i => ∃ k : Nat, k ≤ 2 ∧ i = .int .i64 k ∧ Hid ((0 < k → a = 0) ∧ (1 < k → b = 0))) (fun i => 2 - (intOf i).toNat)
  case atStart => exact ⟨0, by omega, rfl, ⟨fun h => absurd h (by omega), fun h => absurd h (by omega)⟩⟩
  case round =>
    obtain ⟨k, hk, rfl, hh⟩ := hrel
    rcases (show k = 0 ∨ k = 1 ∨ k = 2 by omega) with rfl | rfl | rfl
    · by_cases ha : a = 0
      · have e : (a != 0) = false := by simp [ha]
        have Ha := Lib.hid ha
        clear ha
        go_wp2
        go_round
        case rel => exact ⟨1, by omega, rfl, ⟨fun _ => Ha.out, fun h => absurd h (by omega)⟩⟩
        case measure => simp [intOf]
      · have e : (a != 0) = true := by simp [ha]
        have Ha := Lib.hid ha
        clear ha
        go_wp2
        go_ret
        exact ⟨ret_int (by rw [← Hz.out, if_pos Ha.out]), rfl⟩
    · by_cases hb : b = 0
      · have e : (b != 0) = false := by simp [hb]
        have Hb := Lib.hid hb
        clear hb
        go_wp2
        go_round
        case rel => exact ⟨2, by omega, rfl, ⟨fun _ => hh.out.1 (by omega), fun _ => Hb.out⟩⟩
        case measure => simp [intOf]
      · have e : (b != 0) = true := by simp [hb]
        have Hb := Lib.hid hb
        clear hb
        go_wp2
        go_ret
        exact ⟨ret_int (by rw [← Hz.out, if_neg (by simpa using hh.out.1 (by omega))]), rfl⟩
    · go_wp2
      go_ret
      exact ⟨ret_int (by rw [← Hz.out, if_neg (by simpa using hh.out.1 (by omega)), hh.out.2 (by omega)]), rfl⟩
abbrev hitV (h : Hit) : Value := .agg #[.int .i64 h.1, .int .i64 h.2]
abbrev hitO (h : Hit) : Obj := .cells #[.int .i64 h.1, .int .i64 h.2] 34 (0, 0)
abbrev Ht2 (w : World) (a b : Hit) (w' : World) : Prop :=
  Fr w [(w.heap.size + 1, hitO b), (w.heap.size, hitO a)] w' ∧ w'.cell? ⟨w.heap.size, 0, none⟩ = some (.int .i64 a.1) ∧ w'.cell? ⟨w.heap.size, 1, none⟩ = some (.int .i64 a.2) ∧ w'.cell? ⟨w.heap.size + 1, 0, none⟩ = some (.int .i64 b.1) ∧ w'.cell? ⟨w.heap.size + 1, 1, none⟩ = some (.int .i64 b.2)
theorem Ht2.of {w w1 : World} {a b : Hit} (h : Fr w [(w.heap.size + 1, hitO b), (w.heap.size, hitO a)] w1) : Ht2 w a b w1 :=
  ⟨h, Lib.cell_of_heap (h.at (g := w.heap.size) (o := hitO a) (by simp)) 0, Lib.cell_of_heap (h.at (g := w.heap.size) (o := hitO a) (by simp)) 1, Lib.cell_of_heap (h.at (g := w.heap.size + 1) (o := hitO b) (by simp)) 0, Lib.cell_of_heap (h.at (g := w.heap.size + 1) (o := hitO b) (by simp)) 1⟩
theorem Ht2.drew {w w1 : World} {a b : Hit} (h : Ht2 w a b w1) : Ht2 w a b w1.drew := .of h.1.drew
theorem Ht2.al {w w1 : World} {a b : Hit} (h : Ht2 w a b w1) (o : Obj) : Ht2 w a b (w1.alloc o) := .of (h.1.al o)
theorem Ht2.bel {w w1 : World} {a b : Hit} (h : Ht2 w a b w1) : Below w.heap.size w w1 := h.1.bel
theorem frHt2 (w : World) (a b : Hit) : Fr w [(w.heap.size + 1, hitO b), (w.heap.size, hitO a)] ((w.alloc (hitO a)).alloc (hitO b)) := ((Fr.start w).newN rfl (hitO a)).newN (by simp) (hitO b)
set_option maxRecDepth 100000 in
set_option maxHeartbeats 1000000 in
theorem rcompare (a b : Hit) (w : World) : Calls Tryz.prog 44 #[hitV a, hitV b] w fun e w' => e = .returned (.int .i64 (cmpH a b)) ∧ Below w.heap.size w w' := by
  obtain ⟨a1, a2⟩ := a
  obtain ⟨b1, b2⟩ := b
  have Hc := Lib.hid (show (if cmpI a1 b1 ≠ 0 then cmpI a1 b1 else cmpI a2 b2) = cmpH (a1, a2) (b1, b2) from rfl)
  go_enter Tryz.func44, Tryz.ntmps44
  go_wp2
  have hT := Ht2.of (frHt2 w (a1, a2) (b1, b2))
  go_region_held3 (fun w' => Ht2 w (a1, a2) (b1, b2) w')
    (with_reducible (first | exact Ht2.drew hT | exact Ht2.drew (Ht2.al hT _) | assumption))
    ((first
      | (go_at_call 58; refine (compare_ _ _ _).mono ?_; rintro e w' ⟨rfl, rfl⟩)
      | (go_at_call 57; refine (or_ _ _ _ Hc _ _ (by exact alloc3_new _ _ _ _)).mono ?_; rintro e w' ⟨rfl, rfl⟩)))
  have hB : Below w.heap.size w _ := Ht2.bel (by assumption)
  go_wp2
  go_ret
  exact ⟨rfl, hB⟩
set_option maxRecDepth 100000 in
theorem above_ (a b : Hit) (v : Bool) (hv : Hid (v = abv a b)) (w : World) : Calls Tryz.prog 48 #[hitV a, hitV b] w fun e w' => e = .returned (.bool v) ∧ Below w.heap.size w w' := by
  obtain ⟨a1, a2⟩ := a
  obtain ⟨b1, b2⟩ := b
  go_enter Tryz.func48, Tryz.ntmps48
  go_wp2
  all_goals
    go_ret
    go_light
    exact ⟨ret_bool (by rw [hv.out, Bool.eq_iff_iff]; simp [abv]; try omega), ba (ba (Below.refl _ _) _) _⟩
set_option maxRecDepth 100000 in
theorem valid_ (h : Hit) (v : Bool) (hv : Hid (v = okH h)) (w : World) : Calls Tryz.prog 47 #[hitV h] w fun e w' => e = .returned (.bool v) ∧ Below w.heap.size w w' := by
  obtain ⟨a1, a2⟩ := h
  go_enter Tryz.func47, Tryz.ntmps47
  go_wp2
  all_goals
    go_ret
    go_light
    exact ⟨ret_bool (by rw [hv.out, Bool.eq_iff_iff]; simp [okH]; try omega), ba (Below.refl _ _) _⟩
end Go.Proofs.YtaainkjgnljihaaGreatDoor
namespace Go.Proofs.YtaainkjgnljihaaGreatDoor
open Go.RowKit
theorem okH_iff {E I : Int} : okH (E, I) = true ↔ (1 ≤ E ∧ E ≤ 1000000) ∧ 1 ≤ I ∧ I ≤ 1000 := by simp [okH]; omega
abbrev WrT (w : World) (b off j : Nat) (E I E' I' : Int) (g : Nat) (w' : World) : Prop :=
  (Below w.heap.size w w' ∧ (b < w'.heap.size ∧ g < w'.heap.size)) ∧ w'.cell? ⟨b, off + j * 2, none⟩ = some (.int .i64 E') ∧ w'.cell? ⟨b, off + j * 2 + 1, none⟩ = some (.int .i64 I') ∧ w'.cell? ⟨g, 0, none⟩ = some (.int .i64 E) ∧ w'.cell? ⟨g, 1, none⟩ = some (.int .i64 I)
section
variable {w w1 w2 : World} {b off j g : Nat} {E I E' I' : Int}
theorem WrT.drew (h : WrT w b off j E I E' I' g w1) : WrT w b off j E I E' I' g w1.drew := ⟨⟨h.1.1.drew, h.1.2⟩, h.2⟩
theorem WrT.go (h : WrT w b off j E I E' I' g w1) (hb : Below w1.heap.size w1 w2) : WrT w b off j E I E' I' g w2 :=
  ⟨⟨bt h.1.1 hb, Nat.lt_of_lt_of_le h.1.2.1 hb.size, Nat.lt_of_lt_of_le h.1.2.2 hb.size⟩, (hb.cell (p := ⟨b, off + j * 2, none⟩) h.1.2.1).trans h.2.1, (hb.cell (p := ⟨b, off + j * 2 + 1, none⟩) h.1.2.1).trans h.2.2.1, (hb.cell (p := ⟨g, 0, none⟩) h.1.2.2).trans h.2.2.2.1, (hb.cell (p := ⟨g, 1, none⟩) h.1.2.2).trans h.2.2.2.2⟩
theorem WrT.bel (h : WrT w b off j E I E' I' g w1) : Below w.heap.size w w1 := h.1.1
end
set_option maxRecDepth 100000 in
set_option maxHeartbeats 2000000 in
theorem wrong_ (w : World) (A : Option Addr) (c : Nat) (l : List Hit) (h : Reads w w.heap.size 2 A l.length (hits l)) (hl : l.length ≤ 9223372036854775807) :
    Calls Tryz.prog 32 #[.slice A l.length c] w fun e w' => e = .returned (.tuple #[.int .i64 (wrg l).1, .int .i64 (wrg l).2]) ∧ Below w.heap.size w w' := by
  go_enter Tryz.func32, Tryz.ntmps32
  go_wp2
  go_loopw [8] (fun i wr => ∃ k : Nat, k ≤ l.length ∧ i = .int .i64 k ∧ WrgRel l k ∧ Below w.heap.size w wr) (fun i _ => l.length - (intOf i).toNat)
  case atStart => exact ⟨0, Nat.zero_le _, rfl, WrgRel.start l, Below.refl _ _⟩
  case round =>
    obtain ⟨k, hk, rfl, hr, hbl⟩ := hrel
    by_cases hlt : k < l.length
    · have hR := h.go hbl
      obtain ⟨b, off, E, I, rfl, hb, d1, d2, hd⟩ := htAt hR hlt
      by_cases ho : okH (E, I) = true
      · obtain ⟨⟨o1, o2⟩, o3, o4⟩ := okH_iff.1 ho
        by_cases hk0 : k = 0
        · subst hk0
          have hr2 := hr.step hd (hitErr_first ho)
          rw [Nat.zero_mul, Nat.add_zero] at d1 d2
          rw [show ((0 : Nat) : Int) = 0 from rfl]
          clear ho hr hd
          go_wp2_with fail
          go_quiet (fail)
          go_wp2
          go_roundw
          case rel => exact ⟨0 + 1, by omega, rfl, hr2, (ba hbl _).trans (drewN_below _ _)⟩
          case measure => simp [intOf]; omega
        · obtain ⟨j, hj⟩ : ∃ j, k = j + 1 := ⟨k - 1, by omega⟩
          obtain ⟨b', off', E', I', hA, hb', d1', d2', hd'⟩ := htAt hR (show j < l.length by omega)
          injection hA with hA; injection hA with hA1 hA2; subst hA1 hA2
          have hp := prevH_succ hd'
          rw [← hj] at hp
          have i0 : (0 : Int) < (k : Int) := by omega
          have i1 : IntKind.i64.wrap ((k : Int) - 1) = (k : Int) - 1 := IntWalk.i64_in _ (by omega)
          have i2 : (0 : Int) ≤ (k : Int) - 1 := by omega
          have i2' : (1 : Int) ≤ (k : Int) := by omega
          have i3 : (k : Int) - 1 < (l.length : Int) := by omega
          have i4 : ((k : Int) - 1).toNat = j := by omega
          have i5 : decide (0 < k) = true := by simpa using i0
          have i6 : 0 < k := by omega
          have HJ := Lib.hid hj
          clear hj hk0
          by_cases ha : abv (E, I) (E', I') = true
          · have hr2 := hr.step hd (by rw [hp]; exact hitErr_ok ho ha)
            have hge : decide (0 ≤ cmpH (E', I') (E, I)) = false := by
              rw [decide_eq_false_iff_not, cmpH_ge, ha]; simp
            have hT : WrT w b off j E I E' I' wr.heap.size (wr.alloc (.cells #[.int .i64 E, .int .i64 I] 34 (0, 0))) :=
              ⟨⟨ba hbl _, by simp; omega, by simp⟩, (World.cell?_alloc_lt wr _ _ hb).trans d1', (World.cell?_alloc_lt wr _ _ hb).trans d2', Lib.cell_of_heap (alloc1_new _ _) 0, Lib.cell_of_heap (alloc1_new _ _) 1⟩
            clear ho hr hd hd' hp ha d1' d2'
            go_wp2_with fail
            go_region_held3 (fun w' => WrT w b off j E I E' I' wr.heap.size w')
              (with_reducible (first | exact WrT.drew hT | exact WrT.go (by assumption) hb2))
              ((go_at_call 44; refine (rcompare (E', I') (E, I) _).mono ?_; rintro e w2 ⟨rfl, hb2⟩))
            have hB : Below w.heap.size w w2 := by with_reducible exact WrT.bel (by assumption)
            clear hT
            go_wp2
            go_roundw
            case rel => exact ⟨k + 1, by omega, by go_num, hr2, hB⟩
            case measure => simp [intOf]; omega
          · have ha' : abv (E, I) (E', I') = false := by simpa using ha
            have hS := hr.stop (n := 6) hd (by rw [hp]; exact hitErr_form ho ha') (by decide)
            have HS := Lib.hid hS
            have hge : decide (0 ≤ cmpH (E', I') (E, I)) = true := by
              rw [decide_eq_true_iff, cmpH_ge, ha']
            have hT : WrT w b off j E I E' I' wr.heap.size (wr.alloc (.cells #[.int .i64 E, .int .i64 I] 34 (0, 0))) :=
              ⟨⟨ba hbl _, by simp; omega, by simp⟩, (World.cell?_alloc_lt wr _ _ hb).trans d1', (World.cell?_alloc_lt wr _ _ hb).trans d2', Lib.cell_of_heap (alloc1_new _ _) 0, Lib.cell_of_heap (alloc1_new _ _) 1⟩
            clear ho hr hd hd' hp ha ha' d1' d2' hS
            go_wp2_with fail
            go_region_held3 (fun w' => WrT w b off j E I E' I' wr.heap.size w')
              (with_reducible (first | exact WrT.drew hT | exact WrT.go (by assumption) hb2))
              ((go_at_call 44; refine (rcompare (E', I') (E, I) _).mono ?_; rintro e w2 ⟨rfl, hb2⟩))
            have hB : Below w.heap.size w w2 := by with_reducible exact WrT.bel (by assumption)
            clear hT
            go_wp2
            go_ret2
            exact ⟨by rw [HS.out]; rfl, hB⟩
      · have HS := Lib.hid (hr.stop hd (hitErr_range (by simpa using ho)) (by decide))
        have ho' : ¬ ((1 ≤ E ∧ E ≤ 1000000) ∧ 1 ≤ I ∧ I ≤ 1000) := fun hh => ho (okH_iff.2 hh)
        clear ho hr hd
        go_wp2
        all_goals first | (exfalso; omega) | skip
        all_goals
          go_ret2
          exact ⟨by rw [HS.out]; rfl, ba hbl _⟩
    · have HS := Lib.hid (hr.done (by omega))
      go_wp2
      go_ret2
      exact ⟨by rw [HS.out]; rfl, hbl⟩
end Go.Proofs.YtaainkjgnljihaaGreatDoor
namespace Go.Proofs.YtaainkjgnljihaaGreatDoor
open Go.RowKit
def capK (k : Int) : Bool := decide (1 ≤ k) && decide (k ≤ 32)
theorem fits_ (k : Int) (v : Bool) (hv : Hid (v = capK k)) (w : World) : Calls Tryz.prog 21 #[.int .i64 k] w fun e w' => e = .returned (.bool v) ∧ w = w' := by
  go_enter Tryz.func21, Tryz.ntmps21
  go_wp2
  all_goals
    go_ret
    exact ⟨ret_bool (by rw [hv.out, Bool.eq_iff_iff]; simp [capK]; try omega), rfl⟩
theorem capacity_ (k : Int) (v : Bool) (hv : Hid (v = capK k)) (w : World) : Calls Tryz.prog 25 #[.int .i64 k] w fun e w' => e = .returned (.bool v) ∧ w = w' := by
  go_enter Tryz.func25, Tryz.ntmps25
  go_wp2
  all_goals
    go_ret
    exact ⟨ret_bool (by rw [hv.out, Bool.eq_iff_iff]; simp [capK]; try omega), rfl⟩
def sizeI (k : Int) : Int := if capK k then 5 + 6 * k else 0
def sizeE (k : Int) : Int := if capK k then 0 else 7
theorem capK_iff {k : Int} : capK k = true ↔ 1 ≤ k ∧ k ≤ 32 := by simp [capK]
theorem size_ (k : Int) (w : World) : Calls Tryz.prog 12 #[.int .i64 k] w fun e w' => e = .returned (.tuple #[.int .i64 (sizeI k), .int .i64 (sizeE k)]) ∧ w = w' := by
  by_cases h : capK k = true
  · obtain ⟨h1, h2⟩ := capK_iff.1 h
    have H1 := Lib.hid (show sizeI k = 5 + 6 * k by unfold sizeI; rw [if_pos h])
    have H2 := Lib.hid (show sizeE k = 0 by unfold sizeE; rw [if_pos h])
    have Hv := Lib.hid h.symm
    clear h
    go_enter Tryz.func12, Tryz.ntmps12
    go_wp2_with fail
    (with_reducible refine (fits_ k true Hv _).mono ?_); rintro e w' ⟨rfl, rfl⟩
    go_wp2
    go_ret2
    exact ⟨by rw [H1.out, H2.out]; rfl, rfl⟩
  · have h' : capK k = false := by simpa using h
    have H1 := Lib.hid (show sizeI k = 0 by unfold sizeI; rw [if_neg h])
    have H2 := Lib.hid (show sizeE k = 7 by unfold sizeE; rw [if_neg h])
    have Hv := Lib.hid h'.symm
    clear h h'
    go_enter Tryz.func12, Tryz.ntmps12
    go_wp2_with fail
    (with_reducible refine (fits_ k false Hv _).mono ?_); rintro e w' ⟨rfl, rfl⟩
    go_wp2
    go_ret2
    exact ⟨by rw [H1.out, H2.out]; rfl, rfl⟩
def flgB (o : Bool) (d m k : Int) : Bool := (o == decide (0 < d)) && (!o || decide (m = 0) || decide (m = k))
theorem flagged_ (o : Bool) (d m k : Int) (v : Bool) (hv : Hid (v = flgB o d m k)) (w : World) : Calls Tryz.prog 33 #[.bool o, .int .i64 d, .int .i64 m, .int .i64 k] w fun e w' => e = .returned (.bool v) ∧ w = w' := by
  go_enter Tryz.func33, Tryz.ntmps33
  cases o <;> by_cases hd : 0 < d
  all_goals
    have hd' := hd
    go_wp2
  all_goals
    go_ret
    go_light
    exact ⟨ret_bool (by rw [hv.out, Bool.eq_iff_iff]; first | (simp_all [flgB]; done) | (simp_all [flgB]; intro hh; exfalso; omega)), rfl⟩
/-- what Check returns -/
def chkR (l : List Hit) (o : Bool) (d k : Int) : Int × Int :=
  if capK k = false then (-1, 7) else if k < l.length then (-1, 3) else if (wrg l).2 ≠ 0 then wrg l else if d < 0 ∨ 65535 < d then (-1, 7) else if flgB o d l.length k then (0, 0) else (-1, 6)
abbrev repV (A : Option Addr) (n c : Nat) (o : Bool) (d : Int) : Value := .agg #[.slice A n c, .bool o, .int .i64 d]
abbrev repO (A : Option Addr) (n c : Nat) (o : Bool) (d : Int) : Obj := .cells #[.slice A n c, .bool o, .int .i64 d] 24 (0, 0)
theorem ret_pr {a b : Int} {p : Int × Int} (h : p = (a, b)) : Ending.returned (.tuple #[.int .i64 a, .int .i64 b]) = .returned (.tuple #[.int .i64 p.1, .int .i64 p.2]) := by rw [h]
set_option maxRecDepth 100000 in
set_option maxHeartbeats 2000000 in
theorem check_ (w : World) (A : Option Addr) (c : Nat) (l : List Hit) (h : Reads w w.heap.size 2 A l.length (hits l)) (hl : l.length ≤ 9223372036854775807) (o : Bool) (d k : Int) :
    Calls Tryz.prog 13 #[repV A l.length c o d, .int .i64 k] w fun e w' => e = .returned (.tuple #[.int .i64 (chkR l o d k).1, .int .i64 (chkR l o d k).2]) ∧ Below w.heap.size w w' := by
  generalize hx : chkR l o d k = x
  unfold chkR at hx
  obtain ⟨cp, hcp⟩ : ∃ cp, cp = capK k := ⟨_, rfl⟩
  obtain ⟨fl, hfl⟩ : ∃ fl, fl = flgB o d l.length k := ⟨_, rfl⟩
  rw [← hcp, ← hfl] at hx
  have Hcp := Lib.hid hcp
  have Hfl := Lib.hid hfl
  clear hcp hfl
  have hwr := wrong_ (w.alloc (repO A l.length c o d)) A c l (h.al _) hl
  generalize wrg l = q at *
  obtain ⟨I, E⟩ := q
  have Hwr := Lib.hid hwr
  clear hwr
  have h' := h.al (repO A l.length c o d)
  by_cases h0 : cp = false
  · rw [if_pos h0] at hx
    subst h0
    have Hx := Lib.hid hx.symm
    clear hx
    go_enter Tryz.func13, Tryz.ntmps13
    go_wp2_with fail
    (with_reducible refine (fits_ k false Hcp _).mono ?_); rintro e w' ⟨rfl, rfl⟩
    go_wp2
    go_ret2
    exact ⟨ret_pr Hx.out, ba (Below.refl _ _) _⟩
  rw [if_neg h0] at hx
  obtain rfl : cp = true := by simpa using h0
  clear h0
  by_cases h1 : k < l.length
  · rw [if_pos h1] at hx
    have Hx := Lib.hid hx.symm
    clear hx
    go_enter Tryz.func13, Tryz.ntmps13
    go_wp2_with fail
    (with_reducible refine (fits_ k true Hcp _).mono ?_); rintro e w' ⟨rfl, rfl⟩
    go_wp2
    go_ret2
    exact ⟨ret_pr Hx.out, ba (Below.refl _ _) _⟩
  rw [if_neg h1] at hx
  by_cases h2 : E ≠ 0
  · rw [if_pos h2] at hx
    have Hx := Lib.hid hx.symm
    have e2 : (E != 0) = true := by simpa using h2
    clear hx h2
    go_enter Tryz.func13, Tryz.ntmps13
    go_wp2_with fail
    (with_reducible refine (fits_ k true Hcp _).mono ?_); rintro e w' ⟨rfl, rfl⟩
    go_wp2_with fail
    (with_reducible refine (Hwr.out).mono ?_); rintro e w1 ⟨rfl, hb1⟩
    have hB := bt (ba (Below.refl _ _) _) hb1
    clear hb1
    go_wp2
    go_ret2
    exact ⟨ret_pr Hx.out, hB⟩
  rw [if_neg h2] at hx
  obtain rfl : E = 0 := by simpa using h2
  clear h2
  by_cases h3 : d < 0 ∨ 65535 < d
  · rw [if_pos h3] at hx
    have Hx := Lib.hid hx.symm
    clear hx
    go_enter Tryz.func13, Tryz.ntmps13
    go_wp2_with fail
    (with_reducible refine (fits_ k true Hcp _).mono ?_); rintro e w' ⟨rfl, rfl⟩
    go_wp2_with fail
    (with_reducible refine (Hwr.out).mono ?_); rintro e w1 ⟨rfl, hb1⟩
    have hF := ((Fr.start w).newN rfl (repO A l.length c o d)).go hb1
    have hB := hF.bel
    obtain ⟨c0, c1, c2⟩ : w1.cell? ⟨w.heap.size, 0, none⟩ = some (.slice A l.length c) ∧ w1.cell? ⟨w.heap.size, 1, none⟩ = some (.bool o) ∧ w1.cell? ⟨w.heap.size, 2, none⟩ = some (.int .i64 d) := ⟨Lib.cell_of_heap (hF.at List.mem_cons_self) 0, Lib.cell_of_heap (hF.at List.mem_cons_self) 1, Lib.cell_of_heap (hF.at List.mem_cons_self) 2⟩
    clear hb1 hF
    go_wp2
    all_goals first | (exfalso; omega) | skip
    all_goals
      go_ret2
      exact ⟨ret_pr Hx.out, hB⟩
  rw [if_neg h3] at hx
  have h31 : 0 ≤ d := by omega
  have h32 : d ≤ 65535 := by omega
  clear h3
  have Hx := Lib.hid (show x = (if fl = true then ((0 : Int), (0 : Int)) else (-1, 6)) from hx.symm)
  clear hx
  go_enter Tryz.func13, Tryz.ntmps13
  go_wp2_with fail
  (with_reducible refine (fits_ k true Hcp _).mono ?_); rintro e w' ⟨rfl, rfl⟩
  go_wp2_with fail
  (with_reducible refine (Hwr.out).mono ?_); rintro e w1 ⟨rfl, hb1⟩
  have hF := ((Fr.start w).newN rfl (repO A l.length c o d)).go hb1
  have hB := hF.bel
  obtain ⟨c0, c1, c2⟩ : w1.cell? ⟨w.heap.size, 0, none⟩ = some (.slice A l.length c) ∧ w1.cell? ⟨w.heap.size, 1, none⟩ = some (.bool o) ∧ w1.cell? ⟨w.heap.size, 2, none⟩ = some (.int .i64 d) := ⟨Lib.cell_of_heap (hF.at List.mem_cons_self) 0, Lib.cell_of_heap (hF.at List.mem_cons_self) 1, Lib.cell_of_heap (hF.at List.mem_cons_self) 2⟩
  clear hb1 hF
  go_wp2_with fail
  (with_reducible refine (flagged_ o d l.length k fl Hfl _).mono ?_); rintro e w' ⟨rfl, rfl⟩
  cases fl with
  | true =>
    go_wp2
    go_ret2
    exact ⟨ret_pr Hx.out, hB⟩
  | false =>
    go_wp2
    go_ret2
    exact ⟨ret_pr Hx.out, hB⟩
abbrev AsT (w : World) (b off j m : Nat) (E I E' I' : Int) (w' : World) : Prop :=
  (Below w.heap.size w w' ∧ b < w'.heap.size) ∧ w'.cell? ⟨b, off + j * 2, none⟩ = some (.int .i64 E') ∧ w'.cell? ⟨b, off + j * 2 + 1, none⟩ = some (.int .i64 I') ∧ w'.cell? ⟨b, off + m * 2, none⟩ = some (.int .i64 E) ∧ w'.cell? ⟨b, off + m * 2 + 1, none⟩ = some (.int .i64 I)
section
variable {w w1 w2 : World} {b off j m : Nat} {E I E' I' : Int}
theorem AsT.drew (h : AsT w b off j m E I E' I' w1) : AsT w b off j m E I E' I' w1.drew := ⟨⟨h.1.1.drew, h.1.2⟩, h.2⟩
theorem AsT.go (h : AsT w b off j m E I E' I' w1) (hb : Below w1.heap.size w1 w2) : AsT w b off j m E I E' I' w2 :=
  ⟨⟨bt h.1.1 hb, Nat.lt_of_lt_of_le h.1.2 hb.size⟩, (hb.cell (p := ⟨b, off + j * 2, none⟩) h.1.2).trans h.2.1, (hb.cell (p := ⟨b, off + j * 2 + 1, none⟩) h.1.2).trans h.2.2.1, (hb.cell (p := ⟨b, off + m * 2, none⟩) h.1.2).trans h.2.2.2.1, (hb.cell (p := ⟨b, off + m * 2 + 1, none⟩) h.1.2).trans h.2.2.2.2⟩
theorem AsT.bel (h : AsT w b off j m E I E' I' w1) : Below w.heap.size w w1 := h.1.1
end
def hitAt (l : List Hit) (k : Nat) : Hit := l.getD k (0, 0)
theorem hitAt_of {l : List Hit} {k : Nat} {h : Hit} (hd : Hid (l.drop k = h :: l.drop (k + 1))) : hitAt l k = h := by
  unfold hitAt
  have := congrArg (fun m => m[0]?) hd.out
  simp at this
  rw [List.getD_eq_getElem?_getD, this]; rfl
set_option maxRecDepth 100000 in
set_option maxHeartbeats 2000000 in
theorem ascends_ (w : World) (A : Option Addr) (c : Nat) (l : List Hit) (h : Reads w w.heap.size 2 A l.length (hits l)) (hl : l.length ≤ 9223372036854775807) (k : Nat) (hlt : k < l.length) :
    Calls Tryz.prog 36 #[.slice A l.length c, .int .i64 k] w fun e w' => e = .returned (.int .i64 (hitErr (prevH l k) (hitAt l k))) ∧ Below w.heap.size w w' := by
  obtain ⟨b, off, E, I, rfl, hb, d1, d2, hd⟩ := htAt h hlt
  rw [hitAt_of hd]
  have k2 : (0 : Int) ≤ (k : Int) := by omega
  have k3 : (k : Int) < (l.length : Int) := by omega
  by_cases ho : okH (E, I) = true
  · have Ho := Lib.hid ho.symm
    by_cases hk0 : k = 0
    · subst hk0
      have HX := Lib.hid (show hitErr (prevH l 0) (E, I) = 0 from hitErr_first ho)
      rw [Nat.zero_mul, Nat.add_zero] at d1 d2
      rw [show ((0 : Nat) : Int) = 0 from rfl] at *
      clear ho hd
      go_enter Tryz.func36, Tryz.ntmps36
      go_wp2_with fail
      (with_reducible refine (valid_ (E, I) true Ho _).mono ?_); rintro e w1 ⟨rfl, hb1⟩
      go_wp2_with fail
      go_quiet (fail)
      go_wp2
      go_ret
      exact ⟨ret_int HX.out.symm, hb1.trans (drewN_below _ _)⟩
    · obtain ⟨j, hj⟩ : ∃ j, k = j + 1 := ⟨k - 1, by omega⟩
      obtain ⟨b', off', E', I', hA, hb', d1', d2', hd'⟩ := htAt h (show j < l.length by omega)
      injection hA with hA; injection hA with hA1 hA2; subst hA1 hA2
      have hp := prevH_succ hd'
      rw [← hj] at hp
      have i1 : IntKind.i64.wrap ((k : Int) - 1) = (k : Int) - 1 := IntWalk.i64_in _ (by omega)
      have i2 : (0 : Int) ≤ (k : Int) - 1 := by omega
      have i2' : (1 : Int) ≤ (k : Int) := by omega
      have i3 : (k : Int) - 1 < (l.length : Int) := by omega
      have i4 : ((k : Int) - 1).toNat = j := by omega
      have i6 : 0 < k := by omega
      have i5 : decide (0 < k) = true := by simpa using i6
      have HJ := Lib.hid hj
      clear hj hk0
      obtain ⟨av, hav⟩ : ∃ av, av = abv (E, I) (E', I') := ⟨_, rfl⟩
      have HX := Lib.hid (show hitErr (prevH l k) (E, I) = if av then 0 else 6 by
        rw [hp, hav]
        cases ha : abv (E, I) (E', I') with
        | true => rw [hitErr_ok ho ha]; rfl
        | false => rw [hitErr_form ho ha]; rfl)
      have Hav := Lib.hid hav
      clear hav hp ho hd hd'
      go_enter Tryz.func36, Tryz.ntmps36
      go_wp2_with fail
      (with_reducible refine (valid_ (E, I) true Ho _).mono ?_); rintro e w1 ⟨rfl, hb1⟩
      have hT : AsT w b off j k E I E' I' w1 := ⟨⟨hb1, Nat.lt_of_lt_of_le hb hb1.size⟩, (hb1.cell (p := ⟨b, off + j * 2, none⟩) hb).trans d1', (hb1.cell (p := ⟨b, off + j * 2 + 1, none⟩) hb).trans d2', (hb1.cell (p := ⟨b, off + k * 2, none⟩) hb).trans d1, (hb1.cell (p := ⟨b, off + k * 2 + 1, none⟩) hb).trans d2⟩
      clear d1 d2 d1' d2' hb1
      cases av with
      | true =>
        go_wp2_with fail
        go_region_held3 (fun w' => AsT w b off j k E I E' I' w')
          (with_reducible (first | exact AsT.drew hT | exact AsT.go (by assumption) hb2))
          ((go_at_call 48; refine (above_ (E, I) (E', I') true Hav _).mono ?_; rintro e w2 ⟨rfl, hb2⟩))
        have hB : Below w.heap.size w w2 := by with_reducible exact AsT.bel (by assumption)
        clear hT
        go_wp2
        go_ret
        exact ⟨ret_int HX.out.symm, hB⟩
      | false =>
        go_wp2_with fail
        go_region_held3 (fun w' => AsT w b off j k E I E' I' w')
          (with_reducible (first | exact AsT.drew hT | exact AsT.go (by assumption) hb2))
          ((go_at_call 48; refine (above_ (E, I) (E', I') false Hav _).mono ?_; rintro e w2 ⟨rfl, hb2⟩))
        have hB : Below w.heap.size w w2 := by with_reducible exact AsT.bel (by assumption)
        clear hT
        go_wp2
        go_ret
        exact ⟨ret_int HX.out.symm, hB⟩
  · have ho' : okH (E, I) = false := by simpa using ho
    have Ho := Lib.hid ho'.symm
    have HX := Lib.hid (show hitErr (prevH l k) (E, I) = 7 from hitErr_range ho')
    clear ho ho' hd
    go_enter Tryz.func36, Tryz.ntmps36
    go_wp2_with fail
    (with_reducible refine (valid_ (E, I) false Ho _).mono ?_); rintro e w1 ⟨rfl, hb1⟩
    go_wp2
    go_ret
    exact ⟨ret_int HX.out.symm, hb1⟩
end Go.Proofs.YtaainkjgnljihaaGreatDoor
