/- Syntax: Same and All of the reference. No condition. Syntax: All of the reference. No condition. Syntax: what every law looks at (shown). No condition. -/
import Derived.Test.YtcopnpllaoahaaaGreatDoorE13
import Derived.Test.YtcopnpllaoahaaaGreatDoorJ13
import Derived.Test.YtcopnpllaoahaaaGreatDoorG7
import Derived.Test.YtcopnpllaoahaaaGreatDoorE17
import Derived.Test.YtcopnpllaoahaaaGreatDoorE11
namespace Go.Proofs.YtcopnpllaoahaaaGreatDoor
open Go.RowKit
theorem e8Q_el (x y : El) : e8Q (x.1, x.2.1, ((wK x.2.2.1 0 : Nat) : Int), ((wK x.2.2.1 1 : Nat) : Int), ((wK x.2.2.1 2 : Nat) : Int), ((wK x.2.2.1 3 : Nat) : Int), x.2.2.2.1, x.2.2.2.2) (y.1, y.2.1, ((wK y.2.2.1 0 : Nat) : Int), ((wK y.2.2.1 1 : Nat) : Int), ((wK y.2.2.1 2 : Nat) : Int), ((wK y.2.2.1 3 : Nat) : Int), y.2.2.2.1, y.2.2.2.2) = elQ x y := by
  rw [Bool.eq_iff_iff, e8Q_iff, elQ_iff, ← sQ_int x.2.2.1 y.2.2.1, decide_eq_true_eq]
  constructor
  · rintro ⟨a, b, c, d, e⟩; exact ⟨a, b, d, e, c⟩
  · rintro ⟨a, b, d, e, c⟩; exact ⟨a, b, c, d, e⟩
theorem elsQ_len : ∀ {l m : List El}, l.length ≠ m.length → elsQ l m = false
  | [], [], h => absurd rfl h
  | [], _ :: _, _ => rfl
  | _ :: _, [], _ => rfl
  | x :: l, y :: m, h => by rw [elsQ, elsQ_len (l := l) (m := m) (by simpa using h), Bool.and_false]
theorem elsQ_at {l m : List El} {k : Nat} (h1 : k < l.length) (h2 : k < m.length) : elsQ (l.drop k) (m.drop k) = (elQ l[k] m[k] && elsQ (l.drop (k + 1)) (m.drop (k + 1))) := by
  rw [List.drop_eq_getElem_cons h1, List.drop_eq_getElem_cons h2, elsQ]
theorem rusQ_len : ∀ {l m : List Ru}, l.length ≠ m.length → rusQ l m = false
  | [], [], h => absurd rfl h
  | [], _ :: _, _ => rfl
  | _ :: _, [], _ => rfl
  | x :: l, y :: m, h => by rw [rusQ, rusQ_len (l := l) (m := m) (by simpa using h), Bool.and_false]
theorem rusQ_at {l m : List Ru} {k : Nat} (h1 : k < l.length) (h2 : k < m.length) : rusQ (l.drop k) (m.drop k) = (ruQ l[k] m[k] && rusQ (l.drop (k + 1)) (m.drop (k + 1))) := by
  rw [List.drop_eq_getElem_cons h1, List.drop_eq_getElem_cons h2, rusQ]
abbrev ruW (r : Rm) : Value := .agg #[.int .i64 r.1, .slice r.2.1 r.2.2.2.length r.2.2.1]
abbrev byO (id : Int) (A : Option Addr) (n c : Nat) : Obj := .cells #[.int .i64 id, .slice A n c] 42 (0, 0)
set_option maxRecDepth 100000 in
set_option maxHeartbeats 4000000 in
theorem sameR_ (a b : Rm) (w : World) (ha : IsRu w a) (hb : IsRu w b) (q : Bool) (hq : Hid (ruQ (rm a) (rm b) = q)) (hla : a.2.2.2.length ≤ 9223372036854775807) :
    Calls Tryz.prog 21 #[ruW a, ruW b] w fun e w' => e = .returned (.bool q) ∧ Below w.heap.size w w' := by
  obtain ⟨id, A, c, l⟩ := a
  obtain ⟨id', A', c', m⟩ := b
  simp only at hla
  have HRa := Lib.hid (show Reads w w.heap.size 8 A l.length (els l) from ha.rd)
  have HRb := Lib.hid (show Reads w w.heap.size 8 A' m.length (els m) from hb.rd)
  have hq1 : (decide (id = id') && elsQ l m) = q := hq.out
  have hF0 : Fr w [(w.heap.size, byO id A l.length c), (w.heap.size + 1, byO id' A' m.length c')] ((w.alloc (byO id A l.length c)).alloc (byO id' A' m.length c')) :=
    (((Fr.start w).newN (g := w.heap.size) rfl _).newN (g := w.heap.size + 1) (by simp) _).sub (by simp)
  have HF0 := Lib.hid hF0
  clear ha hb hq hF0
  by_cases h1 : id = id'
  case neg =>
    have HN := Lib.hid (show false = q by rw [← hq1, decide_eq_false h1]; rfl)
    have e1 : (id != id') = true := by rw [bne_iff_ne]; exact h1
    clear h1 hq1
    go_enter Tryz.func21, Tryz.ntmps21
    go_wp2
    go_ret
    exact ⟨ret_bool HN.out, HF0.out.bel⟩
  subst h1
  have e1 : (id != id) = false := by simp
  rw [decide_eq_true rfl, Bool.true_and] at hq1
  by_cases h2 : l.length = m.length
  case neg =>
    have HN := Lib.hid (show false = q by rw [← hq1, elsQ_len h2])
    have e2 : ((l.length : Int) != (m.length : Int)) = true := by rw [bne_iff_ne]; omega
    clear h2 hq1
    go_enter Tryz.func21, Tryz.ntmps21
    go_wp2
    go_ret
    exact ⟨ret_bool HN.out, HF0.out.bel⟩
  have e2 : ((l.length : Int) != (m.length : Int)) = false := by rw [h2]; simp
  have HL := Lib.hid h2
  have HQ := Lib.hid hq1
  clear h2 hq1
  go_enter Tryz.func21, Tryz.ntmps21
  go_upto_region 3 with fail
  generalize (w.alloc (byO id A l.length c)).alloc (byO id A' m.length c') = W2 at *
  go_wp2
  go_loopw [5] (fun i wr => ∃ k : Nat, k ≤ l.length ∧ i = .int .i64 (k : Int) ∧ Fr w [(w.heap.size, byO id A l.length c), (w.heap.size + 1, byO id A' m.length c')] wr ∧ Hid (elsQ (l.drop k) (m.drop k) = q)) (fun i _ => l.length - (intOf i).toNat)
  case atStart => exact ⟨0, Nat.zero_le _, rfl, HF0.out, Lib.hid (by rw [List.drop_zero, List.drop_zero]; exact HQ.out)⟩
  case round =>
    obtain ⟨k, hk, rfl, hF, hX⟩ := hrel
    obtain ⟨⟨b0, b1⟩, _, l1⟩ := bx2 (hF.at (g := w.heap.size) (o := byO id A l.length c) (by simp))
    obtain ⟨⟨b2, b3⟩, _, l2⟩ := bx2 (hF.at (g := w.heap.size + 1) (o := byO id A' m.length c') (by simp))
    by_cases hlt : k < l.length
    case neg =>
      obtain rfl : k = l.length := by omega
      have i1 : ¬ ((l.length : Int) < (l.length : Int)) := by omega
      have HN := Lib.hid (show true = q by rw [← hX.out, List.drop_of_length_le (Nat.le_refl _), List.drop_of_length_le (by have := HL.out; omega)]; rfl)
      have hB := hF.bel
      clear hX hF
      go_wp2
      go_ret
      exact ⟨ret_bool HN.out, hB⟩
    have i1 : (k : Int) < (l.length : Int) := by omega
    have i0 : (0 : Int) ≤ (k : Int) := by omega
    have hkm : k < m.length := by have := HL.out; omega
    have i2 : (k : Int) < (m.length : Int) := by omega
    have hst := elsQ_at hlt hkm
    rw [hX.out] at hst
    obtain ⟨bk, off, rfl, hbk, c0, c1, c2, c3, c4, c5, c6, c7⟩ := (HRa.out.below hF.bel).at8 rfl hlt
    obtain ⟨bk', off', rfl, hbk', d0, d1, d2, d3, d4, d5, d6, d7⟩ := (HRb.out.below hF.bel).at8 rfl hkm
    have hel := e8Q_el l[k] m[k]
    obtain ⟨⟨K, S, f, lo, hi⟩, hx⟩ : ∃ x, l[k] = x := ⟨_, rfl⟩
    obtain ⟨⟨K', S', f', lo', hi'⟩, hy⟩ : ∃ x, m[k] = x := ⟨_, rfl⟩
    rw [hx] at c0 c1 c2 c3 c4 c5 c6 c7 hst hel
    rw [hy] at d0 d1 d2 d3 d4 d5 d6 d7 hst hel
    simp only at c0 c1 c2 c3 c4 c5 c6 c7 d0 d1 d2 d3 d4 d5 d6 d7 hel
    have HF := Lib.hid hF
    rcases hz : elQ (K, S, f, lo, hi) (K', S', f', lo', hi') with _ | _
    · rw [hz] at hst hel
      have HN := Lib.hid (show false = q by rw [hst]; rfl)
      clear hst hX hF hx hy hz
      go_wp2
      go_quiet (fail)
      go_wp2
      go_ret
      exact ⟨ret_bool HN.out, bd HF.out.bel _⟩
    · rw [hz] at hst hel
      have HX := Lib.hid (show elsQ (l.drop (k + 1)) (m.drop (k + 1)) = q by rw [hst, Bool.true_and])
      clear hst hX hF hx hy hz
      go_wp2
      go_quiet (fail)
      go_wp2
      go_roundw
      case rel => exact ⟨k + 1, by omega, by go_num, HF.out.drewN _, HX⟩
      case measure => (simp [intOf]) <;> omega
end Go.Proofs.YtcopnpllaoahaaaGreatDoor
namespace Go.Proofs.YtcopnpllaoahaaaGreatDoor
open Go.RowKit
set_option maxRecDepth 100000 in
set_option maxHeartbeats 4000000 in
theorem allR_ (L M : List Rm) (w : World) (A A' : Option Addr) (c c' : Nat) (hI : IsRus w A L) (hJ : IsRus w A' M) (hl : L.length ≤ 9223372036854775807) (q : Bool) (hq : Hid (rusQ (L.map rm) (M.map rm) = q)) :
    Calls Tryz.prog 11 #[.slice A L.length c, .slice A' M.length c'] w fun e w' => e = .returned (.bool q) ∧ Below w.heap.size w w' := by
  have hL1 : (L.map rm).length = L.length := List.length_map ..
  have hM1 : (M.map rm).length = M.length := List.length_map ..
  by_cases h2 : L.length = M.length
  case neg =>
    have HN := Lib.hid (show false = q by rw [← hq.out, rusQ_len (by rw [hL1, hM1]; exact h2)])
    have e2 : ((L.length : Int) != (M.length : Int)) = true := by rw [bne_iff_ne]; omega
    clear h2 hq hI hJ hL1 hM1
    go_enter Tryz.func11, Tryz.ntmps11
    go_wp2
    go_ret
    exact ⟨ret_bool HN.out, Below.refl _ _⟩
  have e2 : ((L.length : Int) != (M.length : Int)) = false := by rw [h2]; simp
  have HL := Lib.hid h2
  have HI := Lib.hid hI
  have HJ := Lib.hid hJ
  clear h2 hI hJ
  go_enter Tryz.func11, Tryz.ntmps11
  go_wp2
  go_loopw [5] (fun i wr => ∃ k : Nat, k ≤ L.length ∧ i = .int .i64 (k : Int) ∧ Below w.heap.size w wr ∧ Hid (rusQ ((L.map rm).drop k) ((M.map rm).drop k) = q)) (fun i _ => L.length - (intOf i).toNat)
  case atStart => exact ⟨0, Nat.zero_le _, rfl, Below.refl _ _, Lib.hid (by rw [List.drop_zero, List.drop_zero]; exact hq.out)⟩
  case round =>
    obtain ⟨k, hk, rfl, hbl, hX⟩ := hrel
    clear hq
    by_cases hlt : k < L.length
    case neg =>
      obtain rfl : k = L.length := by omega
      have i1 : ¬ ((L.length : Int) < (L.length : Int)) := by omega
      have HN := Lib.hid (show true = q by rw [← hX.out, List.drop_of_length_le (by omega), List.drop_of_length_le (by have := HL.out; omega)]; rfl)
      clear hX
      go_wp2
      go_ret
      exact ⟨ret_bool HN.out, hbl⟩
    have i1 : (k : Int) < (L.length : Int) := by omega
    have i0 : (0 : Int) ≤ (k : Int) := by omega
    have hkm : k < M.length := by have := HL.out; omega
    have i2 : (k : Int) < (M.length : Int) := by omega
    have hst := rusQ_at (l := L.map rm) (m := M.map rm) (k := k) (by omega) (by omega)
    rw [hX.out, List.getElem_map, List.getElem_map] at hst
    obtain ⟨bk, off, rfl, hbk, c0, c1, hr1⟩ := (HI.out.go hbl).at hlt
    obtain ⟨bk', off', rfl, hbk', d0, d1, hr2⟩ := (HJ.out.go hbl).at hkm
    obtain ⟨⟨id, A1, c1', l⟩, hx⟩ : ∃ x, L[k] = x := ⟨_, rfl⟩
    obtain ⟨⟨id', A2, c2', m⟩, hy⟩ : ∃ x, M[k] = x := ⟨_, rfl⟩
    rw [hx] at c0 c1 hr1 hst
    rw [hy] at d0 d1 hr2 hst
    simp only at c0 c1 d0 d1
    have HBe := Lib.hid hbl
    have hcl : l.length ≤ 9223372036854775807 := Nat.le_trans hr1.cl hr1.cm
    rcases hz : ruQ (rm (id, A1, c1', l)) (rm (id', A2, c2', m)) with _ | _
    · rw [hz] at hst
      have HN := Lib.hid (show false = q by rw [hst]; rfl)
      have HS := Lib.hid (fun (W : World) (hW : Below wr.heap.size wr W) => sameR_ (id, A1, c1', l) (id', A2, c2', m) W (hr1.go hW) (hr2.go hW) false (Lib.hid hz) hcl)
      clear hst hX hx hy hz hr1 hr2
      go_upto_region 6 with fail
      go_region_with ((go_at_call 21; (with_reducible refine (HS.out _ (Below.refl wr.heap.size wr).drew).mono ?_); rintro e w3 ⟨rfl, hb3⟩; have HB3 := Lib.hid (bt HBe.out.drew hb3)))
      all_goals
        go_wp2
        go_ret
        exact ⟨ret_bool HN.out, HB3.out⟩
    · rw [hz, Bool.true_and] at hst
      have HX := Lib.hid hst.symm
      have HS := Lib.hid (fun (W : World) (hW : Below wr.heap.size wr W) => sameR_ (id, A1, c1', l) (id', A2, c2', m) W (hr1.go hW) (hr2.go hW) true (Lib.hid hz) hcl)
      clear hst hX hx hy hz hr1 hr2
      go_upto_region 6 with fail
      go_region_with ((go_at_call 21; (with_reducible refine (HS.out _ (Below.refl wr.heap.size wr).drew).mono ?_); rintro e w3 ⟨rfl, hb3⟩; have HB3 := Lib.hid (bt HBe.out.drew hb3)))
      all_goals
        go_wp2
        go_roundw
        case rel => exact ⟨k + 1, by omega, by go_num, HB3.out, HX⟩
        case measure => (simp [intOf]) <;> omega
end Go.Proofs.YtcopnpllaoahaaaGreatDoor
namespace Go.Proofs.YtcopnpllaoahaaaGreatDoor
open Go.RowKit
/-- what the calls want of the world: the tables -/
structure SyW (w : World) : Prop where
  lx : LxW w
  hd : Hd w
  ml : ML w
theorem SyW.below {w w' : World} (h : SyW w) (hb : Below w.heap.size w w') : SyW w' := ⟨h.lx.below hb, h.hd.below hb, h.ml.below hb⟩
theorem of_snd {α β : Type} {x : α × β} {b : β} (h : x.2 = b) : x = (x.1, b) := by rw [← h]
/-- Parse, as the laws use it -/
def PsR (w : World) (l : List Ru) (p : Nat) (q er : Int) (e : Ending) (w' : World) : Prop :=
  ∃ A c Rs, e = .returned (.tuple #[.slice A Rs.length c, .int .i64 (p : Int), .int .i64 q, .int .i64 er]) ∧ Below w.heap.size w w' ∧ IsRus w' A Rs ∧ Rs.map rm = l ∧ Rs.length = l.length ∧ l.length ≤ c ∧ c ≤ 9223372036854775807
theorem ps_ (s : ByteArray) (L : List UInt8) (hL : s.data.toList = L) (hs : s.size ≤ 140737488351232) (l : List Ru) (p : Nat) (q er : Int) (h : Hid (psK L = (l, p, q, er))) (w : World) (hW : SyW w) :
    Calls Tryz.prog 9 #[.string s] w (PsR w l p q er) := by
  subst hL
  refine (parse_ s (l, p, q, er) h hs w hW.lx.esc hW.ml hW.hd).mono ?_
  rintro e w' ⟨A, c, Rs, he, hb, hI, hm, h1, h2⟩
  have hl : Rs.length = l.length := by have := congrArg List.length hm; rwa [List.length_map] at this
  exact ⟨A, c, Rs, by rw [hl]; exact he, hb, hI, hm, hl, h1, h2⟩
abbrev tx1 : ByteArray := ⟨#[114, 117, 108, 101, 32, 55, 32, 34, 97, 98, 34, 32, 103, 97, 112, 32, 48, 32, 51, 32, 91, 120, 45, 122, 93, 10]⟩
abbrev tx2 : ByteArray := ⟨#[114, 117, 108, 101, 32, 49, 32, 103, 97, 112, 32, 50, 32, 46, 10]⟩
abbrev tx3 : ByteArray := ⟨#[10, 114, 117, 108, 101, 32, 49, 10]⟩
theorem ps1 : ∃ l, psK [114, 117, 108, 101, 32, 55, 32, 34, 97, 98, 34, 32, 103, 97, 112, 32, 48, 32, 51, 32, 91, 120, 45, 122, 93, 10] = (l, 0, 0, 0) ∧ rusQ l [exR] = true :=
  ⟨_, of_snd sy1, sy2⟩
theorem ps2 : ∃ l, psK [114, 117, 108, 101, 32, 49, 32, 103, 97, 112, 32, 50, 32, 46, 10] = (l, 1, 13, 6) := ⟨_, of_snd sy4⟩
theorem ps3 : ∃ l, psK [10, 114, 117, 108, 101, 32, 49, 10] = (l, 2, 6, 6) := ⟨_, of_snd sy5⟩
set_option maxRecDepth 100000 in
set_option maxHeartbeats 8000000 in
theorem shown_ (w : World) (hW : SyW w) : Calls Tryz.prog 8 #[] w fun e w' => e = .returned (.bool true) ∧ Below w.heap.size w w' := by
  have HW := Lib.hid hW
  clear hW
  obtain ⟨l1, h1, q1⟩ := ps1
  obtain ⟨l2, h2⟩ := ps2
  obtain ⟨l3, h3⟩ := ps3
  have HQ := Lib.hid q1
  have HP1 := Lib.hid (fun W (hW : SyW W) => ps_ tx1 _ rfl (by decide) l1 0 0 0 (Lib.hid h1) W hW)
  have HP2 := Lib.hid (fun W (hW : SyW W) => ps_ tx2 _ rfl (by decide) l2 1 13 6 (Lib.hid h2) W hW)
  have HP3 := Lib.hid (fun W (hW : SyW W) => ps_ tx3 _ rfl (by decide) l3 2 6 6 (Lib.hid h3) W hW)
  have HEx := Lib.hid example_
  clear h1 h2 h3 q1
  go_enter Tryz.func8, Tryz.ntmps8
  go_wp2_with fail
  (with_reducible refine (HP1.out _ HW.out).mono ?_); rintro e w1 ⟨A1, c1, R1, rfl, hb1, hI1, hm1, hl1, _, _⟩
  have HB1 := Lib.hid hb1
  have HI1 := Lib.hid hI1
  have HM1 := Lib.hid hm1
  have HL1 := Lib.hid hl1
  clear hb1 hI1 hm1 hl1
  go_wp2_with fail
  (with_reducible refine (HEx.out _).mono ?_); rintro e w2 ⟨g2, rfl, hb2, hr2⟩
  have hb3 := ba (bt HB1.out hb2) (.cells #[.int .i64 7, .slice (some ⟨g2, 0, none⟩) 3 3] 42 (0, 0))
  have hIs : IsRus (w2.alloc (.cells #[.int .i64 7, .slice (some ⟨g2, 0, none⟩) 3 3] 42 (0, 0))) (some ⟨w2.heap.size, 0, none⟩) [(7, some ⟨g2, 0, none⟩, 3, exR.2)] :=
    is_one (alloc1_new w2 _) (hr2.go ((Below.refl _ _).alloc (Nat.le_refl _) _))
  have hPr := sprint_ [(7, some ⟨g2, 0, none⟩, 3, exR.2)] _ _ 1 hIs (HW.out.hd.below hb3) (HW.out.lx.below hb3) _ 0 0 0 (Lib.hid (show prA [exR] = _ from sy3))
  have HPr : Hid (Calls Tryz.prog 10 #[.slice (some ⟨w2.heap.size, 0, none⟩) 1 1] (w2.alloc (.cells #[.int .i64 7, .slice (some ⟨g2, 0, none⟩) 3 3] 42 (0, 0))) fun e' w' => e' = .returned (.tuple #[.string tx1, .int .i64 0]) ∧ Below (w2.alloc (.cells #[.int .i64 7, .slice (some ⟨g2, 0, none⟩) 3 3] 42 (0, 0))).heap.size (w2.alloc (.cells #[.int .i64 7, .slice (some ⟨g2, 0, none⟩) 3 3] 42 (0, 0))) w') := Lib.hid hPr
  have HB3 := Lib.hid hb3
  have HI3 := Lib.hid (HI1.out.go ((Below.refl _ _ : Below w1.heap.size w1 w1).trans (hb2) |> fun h => h))
  clear hb2 hr2 hb3 hIs hPr
  go_wp2_with fail
  (with_reducible refine (HPr.out).mono ?_); rintro e w3 ⟨rfl, hb4⟩
  have HB4 := Lib.hid (bt HB3.out hb4)
  have HI4 := Lib.hid (HI3.out.go ((Below.refl w2.heap.size w2).alloc (Nat.le_refl _) (.cells #[.int .i64 7, .slice (some ⟨g2, 0, none⟩) 3 3] 42 (0, 0))) |>.go hb4)
  clear hb4
  go_wp2_with fail
  (with_reducible refine (HP2.out _ (HW.out.below HB4.out)).mono ?_); rintro e w5 ⟨A5, c5, R5, rfl, hb5, _⟩
  have HB5 := Lib.hid (bt HB4.out hb5)
  have HI5 := Lib.hid (HI4.out.go hb5)
  clear hb5
  go_wp2_with fail
  (with_reducible refine (HP3.out _ (HW.out.below HB5.out)).mono ?_); rintro e w6 ⟨A6, c6, R6, rfl, hb6, _⟩
  have HB6 := Lib.hid (bt HB5.out hb6)
  have HI6 := Lib.hid (HI5.out.go hb6)
  clear hb6
  go_wp2_with fail
  (with_reducible refine (HEx.out _).mono ?_); rintro e w7 ⟨g7, rfl, hb7, hr7⟩
  have hb8 := ba (bt HB6.out hb7) (.cells #[.int .i64 7, .slice (some ⟨g7, 0, none⟩) 3 3] 42 (0, 0))
  have hIs8 : IsRus (w7.alloc (.cells #[.int .i64 7, .slice (some ⟨g7, 0, none⟩) 3 3] 42 (0, 0))) (some ⟨w7.heap.size, 0, none⟩) [(7, some ⟨g7, 0, none⟩, 3, exR.2)] :=
    is_one (alloc1_new w7 _) (hr7.go ((Below.refl _ _).alloc (Nat.le_refl _) _))
  have hI8 := (HI6.out.go hb7).go ((Below.refl w7.heap.size w7).alloc (Nat.le_refl _) (.cells #[.int .i64 7, .slice (some ⟨g7, 0, none⟩) 3 3] 42 (0, 0)))
  have hAl := allR_ R1 [(7, some ⟨g7, 0, none⟩, 3, exR.2)] _ _ _ c1 1 hI8 hIs8 (by rw [HL1.out]; omega) true (Lib.hid (by rw [HM1.out]; exact HQ.out))
  rw [List.length_singleton] at hAl
  have HAl := Lib.hid hAl
  have HB8 := Lib.hid hb8
  clear hb7 hr7 hb8 hIs8 hI8 hAl
  go_wp2_with fail
  (with_reducible refine (HAl.out).mono ?_); rintro e w9 ⟨rfl, hb9⟩
  have HB9 := Lib.hid (bt HB8.out hb9)
  clear hb9
  go_wp2
  go_ret
  exact ⟨rfl, HB9.out⟩
end Go.Proofs.YtcopnpllaoahaaaGreatDoor
