/- Hits: compared, checked, of the program and of its reference. -/
import Derived.Test.YtokcbdaoofjbgaaDoorFr
import Derived.Test.YtokcbdaoofjbgaaDoorCmp
namespace Go.Proofs.YtokcbdaoofjbgaaDoor
open Go.RowKit
abbrev Hit := Int × Int
def hE (h : Hit) : Value := .int .i64 h.1
def hI (h : Hit) : Value := .int .i64 h.2
abbrev hits (l : List Hit) : List Value := flat2 hE hI l
def okH (h : Hit) : Bool := decide (1 ≤ h.1) && decide (h.1 ≤ 1000000) && decide (1 ≤ h.2) && decide (h.2 ≤ 1000)
/-- a is above b -/
def abv (a b : Hit) : Bool := decide (b.1 < a.1) || (decide (a.1 = b.1) && decide (b.2 < a.2))
def hitErr (p : Option Hit) (h : Hit) : Int := if okH h then (match p with | some q => if abv h q then 0 else 6 | none => 0) else 7
def wrgF (i : Nat) (p : Option Hit) : List Hit → Int × Int
  | [] => (-1, 0)
  | h :: r => if hitErr p h = 0 then wrgF (i + 1) (some h) r else (i, hitErr p h)
def wrg (l : List Hit) : Int × Int := wrgF 0 none l
def prevH (l : List Hit) (k : Nat) : Option Hit := if k = 0 then none else l[k - 1]?
def WrgRel (l : List Hit) (k : Nat) : Prop := wrgF k (prevH l k) (l.drop k) = wrg l
theorem WrgRel.start (l : List Hit) : WrgRel l 0 := rfl
theorem prevH_succ {l : List Hit} {k : Nat} {h : Hit} (hd : Hid (l.drop k = h :: l.drop (k + 1))) : prevH l (k + 1) = some h := by
  unfold prevH
  rw [if_neg (by omega), Nat.add_sub_cancel]
  have := congrArg (fun m => m[0]?) hd.out
  simpa using this
theorem WrgRel.step {l : List Hit} {k : Nat} {h : Hit} (hr : WrgRel l k) (hd : Hid (l.drop k = h :: l.drop (k + 1))) (e : hitErr (prevH l k) h = 0) : WrgRel l (k + 1) := by
  unfold WrgRel at *
  rw [hd.out, wrgF, if_pos e] at hr
  rw [prevH_succ hd]
  exact hr
theorem WrgRel.stop {l : List Hit} {k : Nat} {h : Hit} {n : Int} (hr : WrgRel l k) (hd : Hid (l.drop k = h :: l.drop (k + 1))) (e : hitErr (prevH l k) h = n) (hn : n ≠ 0) : wrg l = ((k : Int), n) := by
  unfold WrgRel at hr
  rw [hd.out, wrgF, if_neg (by rw [e]; exact hn), e] at hr
  exact hr.symm
theorem WrgRel.done {l : List Hit} {k : Nat} (hr : WrgRel l k) (hk : l.length ≤ k) : wrg l = (-1, 0) := by
  unfold WrgRel at hr
  rw [List.drop_eq_nil_of_le hk] at hr
  exact hr.symm
theorem hitErr_range {p : Option Hit} {h : Hit} (e : okH h = false) : hitErr p h = 7 := by unfold hitErr; rw [e]; rfl
theorem hitErr_first {h : Hit} (e : okH h = true) : hitErr none h = 0 := by unfold hitErr; rw [e]; rfl
theorem hitErr_form {q h : Hit} (e : okH h = true) (a : abv h q = false) : hitErr (some q) h = 6 := by unfold hitErr; rw [e]; simp [a]
theorem hitErr_ok {q h : Hit} (e : okH h = true) (a : abv h q = true) : hitErr (some q) h = 0 := by unfold hitErr; rw [e]; simp [a]
theorem htAt {w : World} {B k : Nat} {A : Option Addr} {l : List Hit} (h : Reads w B 2 A l.length (hits l)) (hk : k < l.length) :
    ∃ b off E I, A = some ⟨b, off, none⟩ ∧ b < B ∧ w.cell? ⟨b, off + k * 2, none⟩ = some (.int .i64 E) ∧ w.cell? ⟨b, off + k * 2 + 1, none⟩ = some (.int .i64 I) ∧
      Hid (l.drop k = (E, I) :: l.drop (k + 1)) := by
  obtain ⟨b, off, e, hb, c1, c2⟩ := h.at2 rfl hk
  exact ⟨b, off, _, _, e, hb, c1, c2, List.drop_eq_getElem_cons hk⟩
def cmpI (a b : Int) : Int := if a < b then -1 else if b < a then 1 else 0
def cmpH (a b : Hit) : Int := if cmpI a.1 b.1 ≠ 0 then cmpI a.1 b.1 else cmpI a.2 b.2
theorem cmpH_ge (a b : Hit) : (0 ≤ cmpH a b) ↔ abv b a = false := by
  unfold cmpH cmpI abv
  by_cases h1 : a.1 < b.1
  · simp [h1]
  · by_cases h2 : b.1 < a.1
    · simp [h1, h2]; omega
    · have h3 : b.1 = a.1 := by omega
      by_cases h4 : a.2 < b.2
      · simp [h3, h4]
      · by_cases h5 : b.2 < a.2 <;> simp [h3, h4, h5]
theorem isNaN_ (a : Int) (w : World) : Calls Tryd.prog 51 #[.int .i64 a] w fun e w' => e = .returned (.bool false) ∧ w = w' := by
  have e : (a != a) = false := by simp
  go_enter Tryd.func51, Tryd.ntmps51
  go_wp2
  go_ret
  exact ⟨rfl, rfl⟩
theorem compare_ (a b : Int) (w : World) : Calls Tryd.prog 48 #[.int .i64 a, .int .i64 b] w fun e w' => e = .returned (.int .i64 (cmpI a b)) ∧ w = w' := by
  go_enter Tryd.func48, Tryd.ntmps48
  go_wp2_with (go_at_call 51; refine (isNaN_ _ _).mono ?_; rintro e w' ⟨rfl, rfl⟩)
  all_goals
    go_ret
    go_light
    exact ⟨ret_int (by unfold cmpI; first | (rw [if_pos (by omega)]; done) | (rw [if_neg (by omega), if_pos (by omega)]; done) | (rw [if_neg (by omega), if_neg (by omega)]; done)), rfl⟩
theorem or_ (a b z : Int) (Hz : Hid ((if a ≠ 0 then a else b) = z)) (w : World) (g : Nat) (h : w.heap[g]? = some (.cells #[.int .i64 a, .int .i64 b] 3 (0, 0))) :
    Calls Tryd.prog 47 #[.slice (some ⟨g, 0, none⟩) 2 2] w fun e w' => e = .returned (.int .i64 z) ∧ w = w' := by
  have c0 : w.cell? ⟨g, 0, none⟩ = some (.int .i64 a) := Lib.cell_of_heap h 0
  have c1 : w.cell? ⟨g, 1, none⟩ = some (.int .i64 b) := Lib.cell_of_heap h 1
  clear h
  go_enter Tryd.func47, Tryd.ntmps47
  go_wp2
  go_loop [8] (fun i => ∃ k : Nat, k ≤ 2 ∧ i = .int .i64 k ∧ Hid ((0 < k → a = 0) ∧ (1 < k → b = 0))) (fun i => 2 - (intOf i).toNat)
  case atStart => exact ⟨0, by omega, rfl, ⟨fun h => absurd h (by omega), fun h => absurd h (by omega)⟩⟩
  case round =>
    obtain ⟨k, hk, rfl, hh⟩ := hrel
    rcases (show k = 0 ∨ k = 1 ∨ k = 2 by omega) with rfl | rfl | rfl
    · by_cases ha : a = 0
      · have e : (a != 0) = false := by simp [ha]
        have Ha := Lib.hid ha
        clear ha
        go_wp2
        go_round
        case rel => exact ⟨1, by omega, rfl, ⟨fun _ => Ha.out, fun h => absurd h (by omega)⟩⟩
        case measure => simp [intOf]
      · have e : (a != 0) = true := by simp [ha]
        have Ha := Lib.hid ha
        clear ha
        go_wp2
        go_ret
        exact ⟨ret_int (by rw [← Hz.out, if_pos Ha.out]), rfl⟩
    · by_cases hb : b = 0
      · have e : (b != 0) = false := by simp [hb]
        have Hb := Lib.hid hb
        clear hb
        go_wp2
        go_round
        case rel => exact ⟨2, by omega, rfl, ⟨fun _ => hh.out.1 (by omega), fun _ => Hb.out⟩⟩
        case measure => simp [intOf]
      · have e : (b != 0) = true := by simp [hb]
        have Hb := Lib.hid hb
        clear hb
        go_wp2
        go_ret
        exact ⟨ret_int (by rw [← Hz.out, if_neg (by simpa using hh.out.1 (by omega))]), rfl⟩
    · go_wp2
      go_ret
      exact ⟨ret_int (by rw [← Hz.out, if_neg (by simpa using hh.out.1 (by omega)), hh.out.2 (by omega)]), rfl⟩
abbrev hitV (h : Hit) : Value := .agg #[.int .i64 h.1, .int .i64 h.2]
abbrev hitO (h : Hit) : Obj := .cells #[.int .i64 h.1, .int .i64 h.2] 48 (0, 0)
abbrev Ht2 (w : World) (a b : Hit) (w' : World) : Prop :=
  Fr w [(w.heap.size + 1, hitO b), (w.heap.size, hitO a)] w' ∧ w'.cell? ⟨w.heap.size, 0, none⟩ = some (.int .i64 a.1) ∧ w'.cell? ⟨w.heap.size, 1, none⟩ = some (.int .i64 a.2) ∧ w'.cell? ⟨w.heap.size + 1, 0, none⟩ = some (.int .i64 b.1) ∧ w'.cell? ⟨w.heap.size + 1, 1, none⟩ = some (.int .i64 b.2)
theorem Ht2.of {w w1 : World} {a b : Hit} (h : Fr w [(w.heap.size + 1, hitO b), (w.heap.size, hitO a)] w1) : Ht2 w a b w1 :=
  ⟨h, Lib.cell_of_heap (h.at (g := w.heap.size) (o := hitO a) (by simp)) 0, Lib.cell_of_heap (h.at (g := w.heap.size) (o := hitO a) (by simp)) 1, Lib.cell_of_heap (h.at (g := w.heap.size + 1) (o := hitO b) (by simp)) 0, Lib.cell_of_heap (h.at (g := w.heap.size + 1) (o := hitO b) (by simp)) 1⟩
theorem Ht2.drew {w w1 : World} {a b : Hit} (h : Ht2 w a b w1) : Ht2 w a b w1.drew := .of h.1.drew
theorem Ht2.al {w w1 : World} {a b : Hit} (h : Ht2 w a b w1) (o : Obj) : Ht2 w a b (w1.alloc o) := .of (h.1.al o)
theorem Ht2.bel {w w1 : World} {a b : Hit} (h : Ht2 w a b w1) : Below w.heap.size w w1 := h.1.bel
theorem frHt2 (w : World) (a b : Hit) : Fr w [(w.heap.size + 1, hitO b), (w.heap.size, hitO a)] ((w.alloc (hitO a)).alloc (hitO b)) := ((Fr.start w).newN rfl (hitO a)).newN (by simp) (hitO b)
set_option maxRecDepth 100000 in
set_option maxHeartbeats 1000000 in
theorem rcompare (a b : Hit) (w : World) : Calls Tryd.prog 43 #[hitV a, hitV b] w fun e w' => e = .returned (.int .i64 (cmpH a b)) ∧ Below w.heap.size w w' := by
  obtain ⟨a1, a2⟩ := a
  obtain ⟨b1, b2⟩ := b
  have Hc := Lib.hid (show (if cmpI a1 b1 ≠ 0 then cmpI a1 b1 else cmpI a2 b2) = cmpH (a1, a2) (b1, b2) from rfl)
  go_enter Tryd.func43, Tryd.ntmps43
  go_wp2
  have hT := Ht2.of (frHt2 w (a1, a2) (b1, b2))
  go_region_held3 (fun w' => Ht2 w (a1, a2) (b1, b2) w')
    (with_reducible (first | exact Ht2.drew hT | exact Ht2.drew (Ht2.al hT _) | assumption))
    ((first
      | (go_at_call 48; refine (compare_ _ _ _).mono ?_; rintro e w' ⟨rfl, rfl⟩)
      | (go_at_call 47; refine (or_ _ _ _ Hc _ _ (by exact alloc3_new _ _ _ _)).mono ?_; rintro e w' ⟨rfl, rfl⟩)))
  have hB : Below w.heap.size w _ := Ht2.bel (by assumption)
  go_wp2
  go_ret
  exact ⟨rfl, hB⟩
set_option maxRecDepth 100000 in
theorem above_ (a b : Hit) (v : Bool) (hv : Hid (v = abv a b)) (w : World) : Calls Tryd.prog 30 #[hitV a, hitV b] w fun e w' => e = .returned (.bool v) ∧ Below w.heap.size w w' := by
  obtain ⟨a1, a2⟩ := a
  obtain ⟨b1, b2⟩ := b
  go_enter Tryd.func30, Tryd.ntmps30
  go_wp2
  all_goals
    go_ret
    go_light
    exact ⟨ret_bool (by rw [hv.out, Bool.eq_iff_iff]; simp [abv]; try omega), ba (ba (Below.refl _ _) _) _⟩
set_option maxRecDepth 100000 in
theorem valid_ (h : Hit) (v : Bool) (hv : Hid (v = okH h)) (w : World) : Calls Tryd.prog 44 #[hitV h] w fun e w' => e = .returned (.bool v) ∧ Below w.heap.size w w' := by
  obtain ⟨a1, a2⟩ := h
  go_enter Tryd.func44, Tryd.ntmps44
  go_wp2
  all_goals
    go_ret
    go_light
    exact ⟨ret_bool (by rw [hv.out, Bool.eq_iff_iff]; simp [okH]; try omega), ba (Below.refl _ _) _⟩
end Go.Proofs.YtokcbdaoofjbgaaDoor
