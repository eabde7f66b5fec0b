/- ReportCuts: Make has the first hits, and Merge of the reports of parts is the list. -/
import Derived.Test.YtokcbdaoofjbgaaDoorR19
import Derived.Test.YtokcbdaoofjbgaaDoorR16
import Derived.Test.YtokcbdaoofjbgaaDoorR10
import Derived.Test.YtokcbdaoofjbgaaDoorOpenReps
import Derived.Deep.DeepCutAuto
namespace Go.Proofs.YtokcbdaoofjbgaaDoor
open Go.RowKit
theorem rpEl : Elem Tryd.prog 31 24 (.agg #[.slice none 0 0, .bool false, .int .i64 0]) 3 40 := ⟨Tryd.underlying31, by kernel_rfl, rfl, by decide⟩
def okRp (k : Int) (r : Rp) : Prop := rpE k r = 0 ∧ r.d = 0
theorem reps_app (L M : List Rp) : reps (L ++ M) = reps L ++ reps M := flat3_append L M
theorem chkF_zero {k : Int} : ∀ {L : List Rp}, (∀ r ∈ L, okRp k r) → chkF k L = 0
  | [], _ => rfl
  | r :: R, h => by rw [chkF_step (h r List.mem_cons_self).1]; exact chkF_zero fun x hx => h x (List.mem_cons_of_mem _ hx)
theorem dropF_zero {k : Int} : ∀ {L : List Rp}, (∀ r ∈ L, okRp k r) → dropF 0 L = 0
  | [], _ => rfl
  | r :: R, h => by
    rw [dropF, (h r List.mem_cons_self).2]
    exact dropF_zero fun x hx => h x (List.mem_cons_of_mem _ hx)
/-- the reports of the parts up to place i; each has hits of the call's own -/
structure CutsR (w : World) (l : List Hit) (K j i : Nat) (v : Value) (L : List Rp) (w' : World) : Prop where
  own : w'.ownsRow w.heap.size 24 3 v (2 * j) (reps L)
  bel : Below w.heap.size w w'
  el : ∀ r ∈ L, w'.ownsRow w.heap.size 48 2 (.slice r.A r.l.length r.c) r.l.length (hits r.l) ∧ r.l.length ≤ 9223372036854775807 ∧ (-9223372036854775808 ≤ r.d ∧ r.d ≤ 9223372036854775807)
  all : allH L = l.take i
  ok : ∀ r ∈ L, okRp K r
  len : L.length = 2 * j
  ij : i = j * K
theorem CutsR.start (w w' : World) (l : List Hit) (K : Nat) (hb : Below w.heap.size w w') : CutsR w l K 0 0 (.slice none 0 0) [] w' :=
  ⟨World.ownsRow_nil _ _ _ _, hb, (fun r hr => by cases hr), rfl, (fun r hr => by cases hr), rfl, by simp⟩
theorem CutsR.go {w w1 w2 : World} {l : List Hit} {K j i : Nat} {v : Value} {L : List Rp} (h : CutsR w l K j i v L w1) (hb : Below w1.heap.size w1 w2) : CutsR w l K j i v L w2 :=
  ⟨own_below h.own hb, bt h.bel hb, fun r hr => ⟨own_below (h.el r hr).1 hb, (h.el r hr).2⟩, h.all, h.ok, h.len, h.ij⟩
/-- one part more -/
theorem CutsR.step {w w1 w2 : World} {l m : List Hit} {K j i n : Nat} {v v' A c : _} {L : List Rp} (h : CutsR w l K j i v L w1) (hown : w1.ownsRow w.heap.size 48 2 (.slice A m.length c) m.length (hits m))
    (hO : w2.ownsRow w.heap.size 24 3 v' n (reps L ++ [.slice A m.length c, .bool false, .int .i64 0, .slice none 0 0, .bool false, .int .i64 0])) (hn : n = 2 * (j + 1)) (hb : Below w.heap.size w w2) (hg : w1.grownBy w2 v.ownBlock)
    (hm : m = (l.drop i).take K) (hml : m.length ≤ 9223372036854775807) (hok : rpE K ⟨A, c, m, false, 0⟩ = 0) (hok0 : rpE K ⟨none, 0, [], false, 0⟩ = 0) : CutsR w l K (j + 1) (i + K) v' (L ++ [⟨A, c, m, false, 0⟩, ⟨none, 0, [], false, 0⟩]) w2 := by
  have hgr : ∀ {A' c' n' xs}, w1.ownsRow w.heap.size 48 2 (.slice A' n' c') n' xs → w2.ownsRow w.heap.size 48 2 (.slice A' n' c') n' xs := fun ho => own_grown ho hg (own_own_ne ho h.own (by decide))
  refine ⟨?_, hb, ?_, ?_, ?_, ?_, by rw [h.ij]; rw [Nat.succ_mul]⟩
  · subst hn
    rw [reps_app]
    exact hO
  · intro r hr
    rcases List.mem_append.1 hr with hr | hr
    · exact ⟨hgr (h.el r hr).1, (h.el r hr).2⟩
    · rcases List.mem_cons.1 hr with rfl | hr
      · exact ⟨hgr hown, hml, show (-9223372036854775808 : Int) ≤ 0 ∧ (0 : Int) ≤ 9223372036854775807 by decide⟩
      · rw [List.mem_singleton.1 hr]
        exact ⟨World.ownsRow_nil _ _ _ _, by simp, show (-9223372036854775808 : Int) ≤ 0 ∧ (0 : Int) ≤ 9223372036854775807 by decide⟩
  · rw [allH_app, h.all, List.take_add, hm]
    simp [allH]
  · intro r hr
    rcases List.mem_append.1 hr with hr | hr
    · exact h.ok r hr
    · rcases List.mem_cons.1 hr with rfl | hr
      · exact ⟨hok, rfl⟩
      · rw [List.mem_singleton.1 hr]; exact ⟨hok0, rfl⟩
  · rw [List.length_append, h.len]; simp; omega
theorem CutsR.reps {w w1 : World} {l : List Hit} {K j i n c : Nat} {A : Option Addr} {L : List Rp} (h : CutsR w l K j i (.slice A n c) L w1) (hr : Reads w1 w1.heap.size 3 A (2 * j) (reps L)) : IsReps w1 A L :=
  ⟨by rw [h.len]; exact hr, fun r hr => ⟨Reads.of_own (h.el r hr).1, (h.el r hr).2⟩⟩
/-- Merge of the parts -/
theorem cuts_merge {l : List Hit} {k : Int} {L : List Rp} (hk : capK k = true) (hw : wE none l = 0) (hL : L.length ≤ 1000) (hall : allH L = l) (hok : ∀ r ∈ L, okRp k r) : mgE L k = 0 ∧ mgL L k = l ∧ mgD L k = 0 := by
  have hE : mgE L k = 0 := by
    unfold mgE
    rw [hk, if_neg (by decide), if_neg (by omega), chkF_zero hok, if_neg (by decide), hall, wrg_two, hw]
  exact ⟨hE, by unfold mgL; rw [if_pos hE, hall], by unfold mgD; rw [if_pos hE]; exact dropF_zero hok⟩
/-- the reports of a part -/
theorem part_ok {l : List Hit} {K : Nat} {k : Int} (hkk : k = K) (hk : capK k = true) (hw : wE none l = 0) (hl : l.length ≤ 300) (i : Nat) : mkE ((l.drop i).take K) k = 0 ∧ mkL ((l.drop i).take K) k = (l.drop i).take K ∧ mkO ((l.drop i).take K) k = false ∧ mkD ((l.drop i).take K) k = 0 ∧ ∀ A c, rpE k ⟨A, c, (l.drop i).take K, false, 0⟩ = 0 := by
  subst hkk
  have hwp := wE_take (wE_drop hw i) K
  have hlen : ((l.drop i).take K).length ≤ K := by rw [List.length_take]; omega
  have hE : mkE ((l.drop i).take K) K = 0 := mkE_iff.2 ⟨hk, by rw [List.length_take, List.length_drop]; omega, hwp⟩
  obtain ⟨m1, m2⟩ := mk_yes hE
  rw [Int.toNat_natCast] at m1 m2
  have hD : mkD ((l.drop i).take K) (K : Int) = 0 := by rw [m2]; omega
  refine ⟨hE, by rw [m1, List.take_of_length_le hlen], by unfold mkO; rw [hD]; rfl, hD, fun A c => ?_⟩
  unfold rpE
  rw [chkR_yes hk (by simp only; omega) (by rw [wrg_two]; exact hwp) (show (0 : Int) ≤ 0 ∧ (0 : Int) ≤ 65535 by decide) (by rfl)]
theorem empty_ok {k : Int} (hk : capK k = true) : rpE k ⟨none, 0, [], false, 0⟩ = 0 := by
  have := capK_iff.1 hk
  unfold rpE
  rw [chkR_yes hk (by simp; omega) (by rfl) (by decide) (by rfl)]
set_option maxRecDepth 100000 in
set_option maxHeartbeats 2000000 in
theorem reportCuts_no (w : World) (A : Option Addr) (c : Nat) (l : List Hit) (h : Reads w w.heap.size 2 A l.length (hits l)) (hl : l.length ≤ 9223372036854775807) (k : Int) (at_ : Int) (hP : Pow w)
    (hbad : 300 < l.length ∨ (l.length ≤ 300 ∧ mkE l k ≠ 0)) :
    Calls Tryd.prog 5 #[.slice A l.length c, .int .i64 k, .int .u16 at_] w fun e w' => e = .returned (.bool true) ∧ Below w.heap.size w w' := by
  have HP := Lib.hid hP
  clear hP
  rcases hbad with h3 | ⟨h3, hE⟩
  · clear h
    go_enter Tryd.func5, Tryd.ntmps5
    go_wp2_with fail
    (with_reducible refine (shown_ _ HP.out).mono ?_); rintro e w1 ⟨rfl, hb1⟩
    go_wp2
    go_ret
    exact ⟨rfl, hb1⟩
  · obtain ⟨m1, m2, m3⟩ := mk_no hE
    have hm := make_any w A c l h hl k
    rw [m1, m2, m3] at hm
    generalize mkE l k = E at *
    have e1 : (E != 0) = true := by simpa using hE
    have Hm := Lib.hid hm
    clear m1 m2 m3 hm hE h
    go_enter Tryd.func5, Tryd.ntmps5
    go_wp2_with fail
    (with_reducible refine (Hm.out).mono ?_); rintro e w1 ⟨A1, c1, rfl, hb1, _, _, _⟩
    have hF1 : Fr w [(w1.heap.size, repO A1 0 c1 false 0)] (w1.alloc (repO A1 0 c1 false 0)) := (Fr.nil hb1).new _
    have k0 : (w1.alloc (repO A1 0 c1 false 0)).cell? ⟨w1.heap.size, 0, none⟩ = some (.slice A1 0 c1) := Lib.cell_of_heap (hF1.at List.mem_cons_self) 0
    have HF1 := Lib.hid hF1
    clear hb1 hF1 Hm
    go_wp2_with fail
    (with_reducible refine (shown_ _ (by exact HP.out.below HF1.out.bel)).mono ?_); rintro e w2 ⟨rfl, hb2⟩
    have hB := (HF1.out.go hb2).bel
    go_wp2
    go_ret
    exact ⟨rfl, hB⟩
/-- l[lo:hi] of hits -/
theorem sl_part (g off N C : Nat) (lo hi : Int) (n m : Nat) (h0 : 0 ≤ lo) (h1 : lo ≤ hi) (h2 : hi ≤ (C : Int)) (hn : hi - lo = n) (hm : (C : Int) - lo = m) (hpos : 0 < m) (W : World) :
    (Instr.sliceAt 22 (.slice (some ⟨g, off, none⟩) N C) (some (.int .i64 lo)) (some (.int .i64 hi)) none).run Tryd.prog W = .ok (.slice (some ⟨g, off + lo.toNat * 2, none⟩) n m) W := by
  have he : Tryd.prog.elem 22 = 48 := by kernel_rfl
  have ht : Tryd.prog.underlying 22 = some (.slice (Tryd.prog.elem 22)) := by rw [he]; exact Tryd.underlying22
  obtain ⟨i, hi', _, hs, _⟩ := info_parts htEl.hi
  rw [run_sliceAt_slice W _ _ _ _ _ ht, run_slice_lh W _ _ N C ht .i64 .i64 lo hi h0 h1 h2, he]
  have hz : ((sizeOf 48).run Tryd.prog W) = .ok 2 W := by simp [sizeOf, typeInfo, hi', hs]
  rw [hz]
  have e1 : hi.toNat - lo.toNat = n := by omega
  have e2 : C - lo.toNat = m := by omega
  have e3 : ¬ (C = lo.toNat) := by omega
  simp [Result.andThen, sliced, e1, e2, e3, add_lit]
theorem rd_part {w : World} {Bk b off : Nat} {l : List Hit} (h : Reads w Bk 2 (some ⟨b, off, none⟩) l.length (hits l)) {lo n : Nat} (hn : lo + n ≤ l.length) : Reads w Bk 2 (some ⟨b, off + lo * 2, none⟩) n (hits ((l.drop lo).take n)) := by
  have h1 := (h.cut (k := lo) (cap := l.length + 1) (by omega) (by omega)).firsts (k := n) (by omega)
  rw [if_neg (by omega), Option.map_some, add_lit, flat2_drop, flat2_take] at h1
  exact h1
abbrev CuT (w : World) (g : Nat) (A1 : Option Addr) (N c1 : Nat) (O : Bool) (D : Int) (m : List Hit) (w' : World) : Prop :=
  (Fr w [(g, repO A1 N c1 O D)] w' ∧ Reads w' w'.heap.size 2 A1 m.length (hits m)) ∧ w'.cell? ⟨g, 0, none⟩ = some (.slice A1 N c1) ∧ w'.cell? ⟨g, 1, none⟩ = some (.bool O) ∧ w'.cell? ⟨g, 2, none⟩ = some (.int .i64 D)
section
variable {w w1 w2 : World} {g N c1 : Nat} {A1 : Option Addr} {O : Bool} {D : Int} {m : List Hit}
theorem CuT.of (h : Fr w [(g, repO A1 N c1 O D)] w1) (hr : Reads w1 w1.heap.size 2 A1 m.length (hits m)) : CuT w g A1 N c1 O D m w1 :=
  ⟨⟨h, hr⟩, Lib.cell_of_heap (h.at List.mem_cons_self) 0, Lib.cell_of_heap (h.at List.mem_cons_self) 1, Lib.cell_of_heap (h.at List.mem_cons_self) 2⟩
theorem CuT.drew (h : CuT w g A1 N c1 O D m w1) : CuT w g A1 N c1 O D m w1.drew := .of h.1.1.drew h.1.2
theorem CuT.go (h : CuT w g A1 N c1 O D m w1) (hb : Below w1.heap.size w1 w2) : CuT w g A1 N c1 O D m w2 := .of (h.1.1.go hb) (h.1.2.go hb)
/-- the comparison of the kept hits with the first ones -/
theorem CuT.same (h : CuT w g A1 N c1 O D m w1) {A : Option Addr} {l : List Hit} {c K : Nat} (hR : Reads w w.heap.size 2 A l.length (hits l)) (hm : m = l.take K) (hN : m.length = N) (hl : N ≤ l.length) (h3 : l.length ≤ 300) :
    Calls Tryd.prog 19 #[.slice A1 N c1, .slice A N c] w1 fun e w' => e = .returned (.bool true) ∧ Below w1.heap.size w1 w' := by
  have hr := (hR.go h.1.1.bel).firsts hl
  rw [flat2_take] at hr
  have e : l.take N = m := by
    rw [hm] at hN ⊢
    rw [List.length_take] at hN
    rcases Nat.le_total K l.length with hh | hh
    · rw [show N = K by omega]
    · rw [List.take_of_length_le (by omega), List.take_of_length_le hh]
  rw [e] at hr
  have hr2 : Reads w1 w1.heap.size 2 A m.length (hits m) := by rw [hN]; exact hr
  have hs := same_any w1 _ _ A1 A c1 c m m h.1.2 hr2 (by omega)
  rw [decide_eq_true rfl, hN] at hs
  exact hs
end
set_option maxRecDepth 100000 in
set_option maxHeartbeats 4000000 in
theorem reportCuts_yes (w : World) (A : Option Addr) (c : Nat) (l : List Hit) (h : Reads w w.heap.size 2 A l.length (hits l)) (hc : l.length ≤ c ∧ c ≤ 9223372036854775807) (k : Int) (at_ : Int) (hat : 0 ≤ at_ ∧ at_ ≤ 65535) (hP : Pow w)
    (h3 : l.length ≤ 300) (hE : mkE l k = 0) :
    Calls Tryd.prog 5 #[.slice A l.length c, .int .i64 k, .int .u16 at_] w fun e w' => e = .returned (.bool true) ∧ Below w.heap.size w w' := by
  have HP := Lib.hid hP
  obtain ⟨hcp, _, hw⟩ := mkE_iff.1 hE
  obtain ⟨hk1, hk2⟩ := capK_iff.1 hcp
  obtain ⟨K, hK⟩ : ∃ K : Nat, k = K := ⟨k.toNat, by omega⟩
  subst hK
  obtain ⟨m1, m2⟩ := mk_yes hE
  have m3 : mkO l (K : Int) = decide (K < l.length) := by unfold mkO; rw [m2]; exact decide_eq_decide.2 (by omega)
  rw [Int.toNat_natCast] at m1 m2
  have hm := make_any w A c l h (by omega) K
  rw [m1, m2, m3, hE] at hm
  have Hm := Lib.hid hm
  have HR := Lib.hid h
  have Hw := Lib.hid hw
  have Hcp := Lib.hid hcp
  obtain ⟨hat0, hat1⟩ := hat
  clear hP hE m1 m2 m3 hm h hw hcp
  obtain ⟨N, O, D, hN, hlen, hO, hD, hcs⟩ : ∃ (N : Nat) (O : Bool) (D : Int), N ≤ l.length ∧ (l.take K).length = N ∧ decide (K < l.length) = O ∧ (((l.length - K : Nat) : Int)) = D ∧ ((K < l.length ∧ N = K ∧ O = true ∧ D = (l.length : Int) - K) ∨ (l.length ≤ K ∧ N = l.length ∧ O = false ∧ D = 0)) := by
    refine ⟨_, _, _, ?_, rfl, rfl, rfl, ?_⟩
    · rw [List.length_take]; omega
    · by_cases hh : K < l.length
      · exact .inl ⟨hh, by rw [List.length_take]; omega, by simp [hh], by omega⟩
      · exact .inr ⟨by omega, by rw [List.length_take]; omega, by simp; omega, by omega⟩
  rw [hO, hD] at Hm
  have Hlen := Lib.hid hlen
  have Hcs := Lib.hid hcs
  clear hO hD hlen hcs
  obtain ⟨nn, hnn⟩ : ∃ nn : Nat, at_ % ((l.length : Int) + 1) = nn := ⟨(at_ % ((l.length : Int) + 1)).toNat, by have := Int.emod_nonneg at_ (show (l.length : Int) + 1 ≠ 0 by omega); omega⟩
  have hnl : nn ≤ l.length := by have := Int.emod_lt_of_pos at_ (show (0 : Int) < (l.length : Int) + 1 by omega); omega
  have hwat : IntKind.i64.wrap at_ = at_ := IntWalk.i64_in _ (by omega)
  have Hnn := Lib.hid hnn
  clear hnn
  go_enter Tryd.func5, Tryd.ntmps5
  go_wp2_with fail
  (with_reducible refine (Hm.out).mono ?_); rintro e w1 ⟨A1, c1, rfl, hb1, hr1, hc1, hc1'⟩
  rw [Hlen.out] at hr1 hc1 ⊢
  have HF1 := Lib.hid ((Fr.nil hb1).new (repO A1 N c1 O D))
  have Hr1 : Hid (Reads (w1.alloc (repO A1 N c1 O D)) (w1.alloc (repO A1 N c1 O D)).heap.size 2 A1 (l.take K).length (hits (l.take K))) := Lib.hid (by rw [Hlen.out]; exact hr1.al (repO A1 N c1 O D))
  clear hb1 hr1 hc1 hc1' Hm
  have g1 := HF1.out.at List.mem_cons_self
  have k10 := Lib.cell_of_heap g1 0
  have k11 := Lib.cell_of_heap g1 1
  have k12 := Lib.cell_of_heap g1 2
  clear g1
  go_upto_if 80 with (fail)
  go_cut [80] (fun s wx => s = .bool false ∧ Fr w [(w1.heap.size, repO A1 N c1 O D)] wx ∧ Reads wx wx.heap.size 2 A1 (l.take K).length (hits (l.take K)))
  case first =>
    have hs : ∀ W : World, (Instr.sliceAt 22 (.slice A l.length c) none (some (.int .i64 N)) none).run Tryd.prog W = .ok (.slice A N c) W :=
      fun W => sl_to htEl (by kernel_rfl) A l.length c N N rfl hN hc.1 W
    have hT := CuT.of HF1.out Hr1.out
    have hsm : ∀ W, CuT w w1.heap.size A1 N c1 O D (l.take K) W → _ := fun W h => CuT.same (c := c) h HR.out rfl Hlen.out hN h3
    have Hsm := Lib.hid hsm
    clear hsm
    rcases Hcs.out with ⟨e0, rfl, rfl, rfl⟩ | ⟨e0, rfl, rfl, rfl⟩
    · have e1 : ¬ (l.length < N) := by omega
      have hw1 : IntKind.i64.wrap ((l.length : Int) - N) = (l.length : Int) - N := IntWalk.i64_in _ (by omega)
      have g1 : decide ((N : Int) < 1) = false := by simp; omega
      have g2 : min (N : Int) (l.length : Int) = N := by omega
      have g3 : decide ((N : Int) < (l.length : Int)) = true := by simp; omega
      go_region_held3 (fun w' => CuT w w1.heap.size A1 N c1 true ((l.length : Int) - N) (l.take N) w')
        (with_reducible (first | exact CuT.drew hT | exact CuT.go (by assumption) hb2))
        ((go_at_call 19; (with_reducible refine (Hsm.out _ (by assumption)).mono ?_); rintro e w2 ⟨rfl, hb2⟩))
      all_goals
        have hX : CuT w w1.heap.size A1 N c1 true ((l.length : Int) - N) (l.take N) w2 := by assumption
        go_wp2_with fail
        go_meet
        exact ⟨rfl, hX.1⟩
    · have hw1 : IntKind.i64.wrap ((l.length : Int) - l.length) = 0 := by rw [Int.sub_self]; rfl
      have g1 : decide ((K : Int) < 1) = false := by simp; omega
      have g2 : min (K : Int) (l.length : Int) = l.length := by omega
      have g3 : decide ((K : Int) < (l.length : Int)) = false := by simp; omega
      go_region_held3 (fun w' => CuT w w1.heap.size A1 l.length c1 false 0 (l.take K) w')
        (with_reducible (first | exact CuT.drew hT | exact CuT.go (by assumption) hb2))
        ((go_at_call 19; (with_reducible refine (Hsm.out _ (by assumption)).mono ?_); rintro e w2 ⟨rfl, hb2⟩))
      all_goals
        have hX : CuT w w1.heap.size A1 l.length c1 false 0 (l.take K) w2 := by assumption
        go_wp2_with fail
        go_meet
        have g4 : decide (K < l.length) = false := by simp; omega
        exact ⟨by rw [g4]; rfl, hX.1⟩
  case rest =>
    obtain ⟨rfl, hF2, hr2⟩ := hcut
    clear HF1 Hr1 k10 k11 k12
    generalize wc = w2 at *
    have hs2 : ∀ W : World, (Instr.sliceAt 22 (.slice A l.length c) none (some (.int .i64 nn)) none).run Tryd.prog W = .ok (.slice A nn c) W :=
      fun W => sl_to htEl (by kernel_rfl) A l.length c nn nn rfl hnl hc.1 W
    have hrn := (HR.out.go hF2.bel).firsts hnl
    rw [flat2_take] at hrn
    have hln : (l.take nn).length = nn := by rw [List.length_take]; omega
    have hEn : mkE (l.take nn) (K : Int) = 0 := mkE_iff.2 ⟨Hcp.out, by rw [hln]; omega, wE_take Hw.out nn⟩
    obtain ⟨n1, n2⟩ := mk_yes hEn
    rw [Int.toNat_natCast] at n1
    have hmn := make_any w2 A c (l.take nn) (by rw [hln]; exact hrn) (by omega) K
    rw [hEn, n1, hln] at hmn
    generalize mkO (l.take nn) (K : Int) = O2 at *
    generalize mkD (l.take nn) (K : Int) = D2 at *
    have hnn := Hnn.out
    have Hmn := Lib.hid hmn
    have Hln := Lib.hid hln
    clear hmn hEn n1 n2 hrn hln
    go_wp2_with fail
    (with_reducible refine (Hmn.out).mono ?_); rintro e w3 ⟨A3, c3, rfl, hb3, hr3, hc3, hm3⟩
    obtain ⟨N3, hN3⟩ : ∃ N3, N3 = ((l.take nn).take K).length := ⟨_, rfl⟩
    have HF3 := Lib.hid ((hF2.go hb3).new (repO A3 ((l.take nn).take K).length c3 O2 D2))
    have Hr3 := Lib.hid (hr3.al (repO A3 ((l.take nn).take K).length c3 O2 D2))
    have Hr2 := Lib.hid ((hr2.go hb3).al (repO A3 ((l.take nn).take K).length c3 O2 D2))
    clear hb3 hr3 hr2 hc3 hm3 hF2 hs2 hnn hwat
    rw [← hN3] at HF3 Hr3 Hr2 ⊢
    have HN3 := Lib.hid hN3
    clear hN3
    have g1 := HF3.out.at (List.mem_cons_of_mem _ List.mem_cons_self)
    have g2 := HF3.out.at List.mem_cons_self
    have k10 := Lib.cell_of_heap g1 0
    have k20 := Lib.cell_of_heap g2 0
    clear g1 g2
    go_upto_region 10 with fail
    go_cut [109] (fun s wx => s = .bool false ∧ Below w.heap.size w wx)
    case first =>
      by_cases hnk : nn < K
      · have hB := HF3.out.bel
        have hq1 : at_ % ((l.length : Int) + 1) < (K : Int) := by rw [Hnn.out]; omega
        go_wp2
        go_meet
        exact ⟨rfl, hB⟩
      · have e : (l.take nn).take K = l.take K := by rw [List.take_take, Nat.min_eq_left (by omega)]
        have hq1 : (K : Int) ≤ at_ % ((l.length : Int) + 1) := by rw [Hnn.out]; omega
        have hN3' : N3 = (l.take K).length := by rw [HN3.out, e]
        have hr3' := Hr3.out
        rw [e, hN3'] at hr3'
        have hsm := same_any (w3.alloc (repO A3 N3 c3 O2 D2)) _ _ A3 A1 c3 c1 (l.take K) (l.take K) (by rw [hN3']; exact hr3') Hr2.out (by rw [Hlen.out]; omega)
        clear hr3' hN3'
        rw [decide_eq_true rfl, Hlen.out] at hsm
        have hNN : N3 = N := by rw [HN3.out, e, Hlen.out]
        subst hNN
        have Hsm := Lib.hid hsm
        clear hsm e
        go_wp2_with fail
        (with_reducible refine (Hsm.out).mono ?_); rintro e w4 ⟨rfl, hb4⟩
        have hB := bt HF3.out.bel hb4
        clear hb4 k10 k20
        go_wp2
        go_meet
        exact ⟨rfl, hB⟩
    case rest =>
      obtain ⟨rfl, hB0⟩ := hcut
      clear HF3 Hr3 Hr2 k10 k20 HN3 Hmn Hln
      generalize wc = w4 at *
      have hC0 := CutsR.start w w4 l K hB0
      have hcap := hc.1
      clear hB0
      go_wp2_with fail
      go_loopw [12, 13] (fun vv iv wr => ∃ (j i : Nat) (L : List Rp), j ≤ i ∧ i < l.length + K ∧ iv = .int .i64 i ∧ CutsR w l K j i vv L wr) (fun _ iv _ => l.length + K - (intOf iv).toNat)
      case atStart => exact ⟨0, 0, [], Nat.le_refl _, by omega, rfl, hC0⟩
      case round =>
        obtain ⟨j, i, L, hji, hil, rfl, hC⟩ := hrel
        clear hC0
        by_cases hlt : i < l.length
        · obtain ⟨b, off, rfl, hb, _⟩ := HR.out.2 (by omega)
          obtain ⟨M, hM⟩ : ∃ M, M = ((l.drop i).take K).length := ⟨_, rfl⟩
          have hM2 : M = min K (l.length - i) := by rw [hM, List.length_take, List.length_drop]
          have hmin : min ((i : Int) + (K : Int)) (l.length : Int) = (i : Int) + M := by omega
          have hsum : IntKind.i64.wrap ((i : Int) + (K : Int)) = (i : Int) + K := IntWalk.i64_in _ (by omega)
          have hs3 : ∀ W : World, (Instr.sliceAt 22 (.slice (some ⟨b, off, none⟩) l.length c) (some (.int .i64 (i : Int))) (some (.int .i64 ((i : Int) + M))) none).run Tryd.prog W = .ok (.slice (some ⟨b, off + i * 2, none⟩) M (c - i)) W := fun W => by
            have := sl_part b off l.length c (i : Int) ((i : Int) + M) M (c - i) (by omega) (by omega) (by omega) (by omega) (by omega) (by omega) W
            rw [Int.toNat_natCast] at this
            exact this
          obtain ⟨pE, pL, pO, pD, pR⟩ := part_ok (k := (K : Int)) rfl Hcp.out Hw.out h3 i
          have hrd : Reads wr wr.heap.size 2 (some ⟨b, off + i * 2, none⟩) M (hits ((l.drop i).take K)) := by
            have := rd_part (HR.out.go hC.bel) (lo := i) (n := M) (by omega)
            have e : (l.drop i).take M = (l.drop i).take K := by
              rcases Nat.le_total K (l.length - i) with hh | hh
              · rw [show M = K by omega]
              · rw [List.take_of_length_le (by rw [List.length_drop]; omega), List.take_of_length_le (by rw [List.length_drop]; omega)]
            rw [e] at this
            exact this
          have hmk := make_yesO wr (some ⟨b, off + i * 2, none⟩) (c - i) ((l.drop i).take K) (by rw [← hM]; exact hrd) K pE
          rw [pL, pO, pD, pE, ← hM] at hmk
          have Hmk := Lib.hid hmk
          have HM := Lib.hid hM.symm
          have HpR := Lib.hid pR
          clear hmk pE pL pO pD pR hrd hM hM2
          go_wp2_with fail
          (with_reducible refine (Hmk.out).mono ?_); rintro e w5 ⟨A5, c5, rfl, hb5, ho5, hc5, hm5⟩
          obtain ⟨m, hm⟩ : ∃ m, m = (l.drop i).take K := ⟨_, rfl⟩
          rw [← hm] at HM HpR ho5 hc5 ⊢
          rw [HM.out] at ho5 hc5 ⊢
          have Hm := Lib.hid hm
          have HC6 := Lib.hid ((hC.go hb5).go ((Below.refl _ _).alloc (Nat.le_refl _) (repO A5 M c5 false 0)))
          have Ho6 := Lib.hid ((own_base ho5 hC.bel.size).alloc (repO A5 M c5 false 0))
          have hF6 := (Fr.nil (bt hC.bel hb5)).new (repO A5 M c5 false 0)
          have k0 := Lib.cell_of_heap (hF6.at List.mem_cons_self) 0
          have k1 := Lib.cell_of_heap (hF6.at List.mem_cons_self) 1
          have k2 := Lib.cell_of_heap (hF6.at List.mem_cons_self) 2
          have hown6 := HC6.out.own
          have hbel6 := HC6.out.bel
          clear hm hb5 ho5 hC hF6 hs3 hmin
          go_wp2_with (at_builtin; refine wpList_ap rpEl (w0 := w) (hown6.alloc _) (ba hbel6 _) [.slice A5 M c5, .bool false, .int .i64 0, .slice none 0 0, .bool false, .int .i64 0] (by exact alloc2_new w5 _ _) ?_)
          intro g7 cap7 w7 hO7 hb7 hg7
          have hC7 := HC6.out.go ((Below.refl _ _).alloc (Nat.le_refl _) (.cells #[.slice A5 M c5, .bool false, .int .i64 0, .slice none 0 0, .bool false, .int .i64 0] 24))
          have hM3 := HM.out
          subst hM3
          have hC8 := hC7.step (Ho6.out.alloc (.cells #[.slice A5 m.length c5, .bool false, .int .i64 0, .slice none 0 0, .bool false, .int .i64 0] 24)) hO7 (by omega) hb7 hg7 Hm.out (by omega) (HpR.out A5 c5) (empty_ok Hcp.out)
          have HC8 := Lib.hid hC8
          clear hO7 hb7 hg7 hC7 hC8 hown6 hbel6 k0 k1 k2
          go_wp2
          go_roundw
          case rel => exact ⟨j + 1, i + K, _, by omega, by omega, by first | rfl | go_num, HC8.out⟩
          case measure => simp [intOf]; omega
        · have hall : allH L = l := by rw [hC.all, List.take_of_length_le (by omega)]
          have hlen := hC.len
          obtain ⟨e1, e2, e3⟩ := cuts_merge Hcp.out Hw.out (by omega) hall hC.ok
          obtain ⟨A9, c9, rfl, hrd, hc9, hm9⟩ := own_sl hC.own
          have hmg := merge_ wr A9 c9 L (hC.reps hrd) (by omega) K
          rw [e1, e2, e3, hlen] at hmg
          have Hmg := Lib.hid hmg
          have HB := Lib.hid hC.bel
          clear hall hlen e1 e2 e3 hrd hc9 hm9 hmg hC
          go_wp2_with fail
          (with_reducible refine (Hmg.out).mono ?_); rintro e w5 ⟨A5, c5, rfl, hb5, hr5, hc5, hm5⟩
          have HB5 := Lib.hid (bt HB.out hb5)
          have hsm := same_any w5 _ _ A5 A c5 c l l hr5 (HR.out.go HB5.out) (by omega)
          rw [decide_eq_true rfl] at hsm
          have Hsm := Lib.hid hsm
          clear hb5 hr5 hc5 hm5 hsm HB
          go_wp2_with fail
          (with_reducible refine (Hsm.out).mono ?_); rintro e w6 ⟨rfl, hb6⟩
          have HB6 := Lib.hid (bt HB5.out hb6)
          clear hb6
          go_wp2_with fail
          (with_reducible refine (shown_ _ (by exact HP.out.below HB6.out)).mono ?_); rintro e w7 ⟨rfl, hb7⟩
          have hB7 := bt HB6.out hb7
          go_wp2
          go_ret
          exact ⟨rfl, hB7⟩
theorem reportCuts_walk (w : World) (A : Option Addr) (c : Nat) (l : List Hit) (h : Reads w w.heap.size 2 A l.length (hits l)) (hc : l.length ≤ c ∧ c ≤ 9223372036854775807) (k : Int) (_hk : (Lit.int .i64 k).wf = true) (at_ : Int) (hat : 0 ≤ at_ ∧ at_ ≤ 65535) (hP : Pow w) :
    Calls Tryd.prog 5 #[.slice A l.length c, .int .i64 k, .int .u16 at_] w fun e w' => e = .returned (.bool true) ∧ Below w.heap.size w w' := by
  by_cases h3 : 300 < l.length
  · exact reportCuts_no w A c l h (Nat.le_trans hc.1 hc.2) k at_ hP (.inl h3)
  by_cases hE : mkE l k = 0
  · exact reportCuts_yes w A c l h hc k at_ hat hP (by omega) hE
  · exact reportCuts_no w A c l h (Nat.le_trans hc.1 hc.2) k at_ hP (.inr ⟨by omega, hE⟩)
end Go.Proofs.YtokcbdaoofjbgaaDoor
