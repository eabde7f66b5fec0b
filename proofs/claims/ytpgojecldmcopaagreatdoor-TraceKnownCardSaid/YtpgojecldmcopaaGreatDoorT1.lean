/- Traces: plain words on steps. No condition. Traces: Check of the program and of its reference. Traces: Differ, SameEvents, Ints. -/
import Derived.Test.YtpgojecldmcopaaGreatDoorMem
import Derived.IntWalk
namespace Go.Proofs.YtpgojecldmcopaaGreatDoor
open Go.RowKit
abbrev Ev := Int × Int
def eK (x : Ev) : Value := .int .i32 x.1
def eA (x : Ev) : Value := .int .i32 x.2
abbrev evs (l : List Ev) : List Value := flat2 eK eA l
def In32 (n : Int) : Prop := -2147483648 ≤ n ∧ n ≤ 2147483647
def Ok32 (l : List Ev) : Prop := ∀ x ∈ l, In32 x.1 ∧ In32 x.2
theorem mem_dropE {α : Type} {l : List α} {k : Nat} {x : α} (h : Hid (l.drop k = x :: l.drop (k + 1))) : x ∈ l := List.mem_of_mem_drop (i := k) (by rw [h.out]; exact List.mem_cons_self)
theorem evAt {w : World} {B k : Nat} {A : Option Addr} {l : List Ev} (h : Reads w B 2 A l.length (evs l)) (hk : k < l.length) :
    ∃ b off K a, A = some ⟨b, off, none⟩ ∧ b < B ∧ w.cell? ⟨b, off + k * 2, none⟩ = some (.int .i32 K) ∧ w.cell? ⟨b, off + k * 2 + 1, none⟩ = some (.int .i32 a) ∧
      Hid (l.drop k = (K, a) :: l.drop (k + 1)) := by
  obtain ⟨b, off, e, hb, c1, c2⟩ := h.at2 rfl hk
  exact ⟨b, off, _, _, e, hb, c1, c2, List.drop_eq_getElem_cons hk⟩
theorem evs_one (l : List Ev) : ∀ u ∈ evs l, u.oneCell' = true := flat2_one l (fun _ => rfl) (fun _ => rfl)
theorem wrap_i32 {n : Int} (h : In32 n) : IntKind.i64.wrap n = n := IntWalk.i64_in _ (by obtain ⟨h1, h2⟩ := h; omega)
/-! Check -/
def goodE (cells : Int) (x : Ev) : Int := if x.1 = 1 ∨ x.1 = 2 then (if x.2 < 0 ∨ cells ≤ x.2 then 7 else 0) else 2
def chkF (cells : Int) (i : Nat) : List Ev → Int × Int
  | [] => (0, 0)
  | x :: r => if goodE cells x = 0 then chkF cells (i + 1) r else (i, goodE cells x)
def chkT (l : List Ev) (cells : Int) : Int × Int := if cells < 1 ∨ 65536 < cells then (-1, 7) else if 8388608 < l.length then (-1, 3) else chkF cells 0 l
def ChkRel (cells : Int) (l : List Ev) (k : Nat) : Prop := chkF cells k (l.drop k) = chkF cells 0 l
theorem ChkRel.start (cells : Int) (l : List Ev) : ChkRel cells l 0 := rfl
theorem ChkRel.step {cells : Int} {l : List Ev} {k : Nat} {x : Ev} (h : ChkRel cells l k) (hd : Hid (l.drop k = x :: l.drop (k + 1))) (e : goodE cells x = 0) : ChkRel cells l (k + 1) := by
  unfold ChkRel at *
  rw [hd.out, chkF, if_pos e] at h
  exact h
theorem ChkRel.stop {cells : Int} {l : List Ev} {k : Nat} {x : Ev} {n : Int} (h : ChkRel cells l k) (hd : Hid (l.drop k = x :: l.drop (k + 1))) (e : goodE cells x = n) (hn : n ≠ 0) : chkF cells 0 l = ((k : Int), n) := by
  unfold ChkRel at h
  rw [hd.out, chkF, if_neg (by rw [e]; exact hn), e] at h
  exact h.symm
theorem ChkRel.done {cells : Int} {l : List Ev} {k : Nat} (h : ChkRel cells l k) (hk : l.length ≤ k) : chkF cells 0 l = (0, 0) := by
  unfold ChkRel at h
  rw [List.drop_eq_nil_of_le hk] at h
  exact h.symm
/-! Differ -/
def difF (i : Nat) : List Ev → List Ev → Int
  | [], [] => -1
  | [], _ :: _ => i
  | _ :: _, [] => i
  | x :: a, y :: b => if x = y then difF (i + 1) a b else i
def dif (a b : List Ev) : Int := difF 0 a b
def DifRel (a b : List Ev) (k : Nat) : Prop := difF k (a.drop k) (b.drop k) = dif a b
theorem DifRel.start (a b : List Ev) : DifRel a b 0 := rfl
theorem DifRel.step {a b : List Ev} {k : Nat} {x y : Ev} (h : DifRel a b k) (hd : Hid (a.drop k = x :: a.drop (k + 1))) (hd' : Hid (b.drop k = y :: b.drop (k + 1))) (e : x = y) : DifRel a b (k + 1) := by
  unfold DifRel at *
  rw [hd.out, hd'.out, difF, if_pos e] at h
  exact h
theorem DifRel.stop {a b : List Ev} {k : Nat} {x y : Ev} (h : DifRel a b k) (hd : Hid (a.drop k = x :: a.drop (k + 1))) (hd' : Hid (b.drop k = y :: b.drop (k + 1))) (e : x ≠ y) : dif a b = k := by
  unfold DifRel at h
  rw [hd.out, hd'.out, difF, if_neg e] at h
  exact h.symm
theorem DifRel.same {a b : List Ev} {k : Nat} (h : DifRel a b k) (h1 : a.length ≤ k) (h2 : b.length ≤ k) : dif a b = -1 := by
  unfold DifRel at h
  rw [List.drop_eq_nil_of_le h1, List.drop_eq_nil_of_le h2] at h
  exact h.symm
theorem DifRel.left {a b : List Ev} {k : Nat} (h : DifRel a b k) (h1 : a.length ≤ k) (h2 : k < b.length) : dif a b = k := by
  unfold DifRel at h
  rw [List.drop_eq_nil_of_le h1, List.drop_eq_getElem_cons h2] at h
  exact h.symm
theorem DifRel.right {a b : List Ev} {k : Nat} (h : DifRel a b k) (h1 : k < a.length) (h2 : b.length ≤ k) : dif a b = k := by
  unfold DifRel at h
  rw [List.drop_eq_nil_of_le h2, List.drop_eq_getElem_cons h1] at h
  exact h.symm
/-! Count -/
def badK (kind : Int) : Prop := kind ≠ 1 ∧ kind ≠ 2
instance (kind : Int) : Decidable (badK kind) := inferInstanceAs (Decidable (_ ∧ _))
def cntN (kind : Int) (l : List Ev) : Nat := l.countP fun x => decide (x.1 = kind)
def cntT (l : List Ev) (kind : Int) : Int × Int := if badK kind then (0, 2) else (cntN kind l, 0)
theorem cntN_le (kind : Int) (l : List Ev) (k : Nat) : cntN kind (l.take k) ≤ l.length := Nat.le_trans (List.countP_le_length ..) (by rw [List.length_take]; omega)
theorem cntN_step {kind : Int} {l : List Ev} {k : Nat} {x : Ev} (hd : Hid (l.drop k = x :: l.drop (k + 1))) : cntN kind (l.take (k + 1)) = cntN kind (l.take k) + (if x.1 = kind then 1 else 0) := by
  unfold cntN
  rw [take_of_drop hd.out, List.countP_append, List.countP_singleton]
  by_cases h : x.1 = kind <;> simp [h]
/-! Cut -/
def cutB (l : List Ev) (a b : Int) : Prop := a < 0 ∨ b < a ∨ (l.length : Int) < b
instance (l : List Ev) (a b : Int) : Decidable (cutB l a b) := inferInstanceAs (Decidable (_ ∨ _ ∨ _))
def cutL (l : List Ev) (a b : Int) : List Ev := if cutB l a b then [] else (l.drop a.toNat).take (b.toNat - a.toNat)
def cutE (l : List Ev) (a b : Int) : Int := if cutB l a b then 7 else 0
end Go.Proofs.YtpgojecldmcopaaGreatDoor
namespace Go.Proofs.YtpgojecldmcopaaGreatDoor
open Go.RowKit
theorem ret_tuple2 {a b c d : Int} (h1 : a = c) (h2 : b = d) : Ending.returned (.tuple #[.int .i64 a, .int .i64 b]) = .returned (.tuple #[.int .i64 c, .int .i64 d]) := by rw [h1, h2]
theorem goodE_ok {cells K a : Int} (h : goodE cells (K, a) = 0) : (K = 1 ∨ K = 2) ∧ 0 ≤ a ∧ a < cells := by
  unfold goodE at h
  by_cases h1 : K = 1 ∨ K = 2
  · rw [if_pos h1] at h
    by_cases h2 : a < 0 ∨ cells ≤ a
    · rw [if_pos h2] at h; omega
    · exact ⟨h1, by omega, by omega⟩
  · rw [if_neg h1] at h; omega
theorem goodE_arg {cells K a : Int} (h : ¬ (K = 1 ∨ K = 2)) : goodE cells (K, a) = 2 := by unfold goodE; rw [if_neg h]
theorem goodE_range {cells K a : Int} (h : K = 1 ∨ K = 2) (h2 : a < 0 ∨ cells ≤ a) : goodE cells (K, a) = 7 := by unfold goodE; rw [if_pos h, if_pos h2]
abbrev evV (x : Ev) : Value := .agg #[.int .i32 x.1, .int .i32 x.2]
abbrev evO (x : Ev) : Obj := .cells #[.int .i32 x.1, .int .i32 x.2] 39 (0, 0)
set_option maxRecDepth 100000 in
set_option maxHeartbeats 2000000 in
theorem check_ (w : World) (A : Option Addr) (c : Nat) (l : List Ev) (h : Reads w w.heap.size 2 A l.length (evs l)) (ho : Ok32 l) (hl : l.length ≤ 9223372036854775807) (cells : Int) :
    Calls Tryz.prog 13 #[.slice A l.length c, .int .i64 cells] w fun e w' => e = .returned (.tuple #[.int .i64 (chkT l cells).1, .int .i64 (chkT l cells).2]) ∧ Below w.heap.size w w' := by
  generalize hx : chkT l cells = x
  unfold chkT at hx
  by_cases h0 : cells < 1 ∨ 65536 < cells
  · rw [if_pos h0] at hx
    have Hx := Lib.hid hx.symm
    clear hx h
    go_enter Tryz.func13, Tryz.ntmps13
    go_wp2
    all_goals first | (exfalso; omega) | skip
    all_goals
      go_ret2
      exact ⟨by rw [Hx.out]; rfl, Below.refl _ _⟩
  rw [if_neg h0] at hx
  obtain ⟨q1, q2⟩ : 1 ≤ cells ∧ cells ≤ 65536 := by omega
  clear h0
  by_cases h1 : 8388608 < l.length
  · rw [if_pos h1] at hx
    have Hx := Lib.hid hx.symm
    clear hx h
    go_enter Tryz.func13, Tryz.ntmps13
    go_wp2
    all_goals first | (exfalso; omega) | skip
    all_goals
      go_ret2
      exact ⟨by rw [Hx.out]; rfl, Below.refl _ _⟩
  rw [if_neg h1] at hx
  have Hx := Lib.hid hx.symm
  have h1' : l.length ≤ 8388608 := by omega
  clear hx h1
  go_enter Tryz.func13, Tryz.ntmps13
  go_wp2
  all_goals first | (exfalso; omega) | skip
  go_loopw [21] (fun i wr => ∃ k : Nat, k ≤ l.length ∧ i = .int .i64 k ∧ ChkRel cells l k ∧ Below w.heap.size w wr) (fun i _ => l.length - (intOf i).toNat)
  case atStart => exact ⟨0, Nat.zero_le _, rfl, ChkRel.start cells l, Below.refl _ _⟩
  case round =>
    obtain ⟨k, hk, rfl, hr, hbl⟩ := hrel
    by_cases hlt : k < l.length
    · have hR := h.go hbl
      obtain ⟨b, off, K, a, rfl, hb, d1, d2, hd⟩ := evAt hR hlt
      have hw := wrap_i32 (ho _ (mem_dropE hd)).2
      simp only at hw
      have hB := ba hbl (evO (K, a))
      by_cases hK : K = 1 ∨ K = 2
      · by_cases ha : a < 0 ∨ cells ≤ a
        · have HS := Lib.hid (hr.stop hd (goodE_range hK ha) (by decide))
          clear hr hd
          rcases hK with rfl | rfl
          all_goals
            go_wp2
            all_goals first | (exfalso; omega) | skip
            all_goals
              go_ret2
              exact ⟨by rw [Hx.out, HS.out]; rfl, hB⟩
        · have hr2 := hr.step hd (by unfold goodE; rw [if_pos hK, if_neg ha])
          clear hr hd
          rcases hK with rfl | rfl
          all_goals
            go_wp2
            all_goals first | (exfalso; omega) | skip
            go_roundw
            case rel => exact ⟨k + 1, by omega, by go_num, hr2, hB⟩
            case measure => simp [intOf]; omega
      · have HS := Lib.hid (hr.stop hd (goodE_arg hK) (by decide))
        have e1 : (K != 1) = true := by simp; omega
        have e2 : (K != 2) = true := by simp; omega
        clear hr hd hK
        go_wp2
        go_ret2
        exact ⟨by rw [Hx.out, HS.out]; rfl, hB⟩
    · have HS := Lib.hid (hr.done (by omega))
      go_wp2
      go_ret2
      exact ⟨by rw [Hx.out, HS.out]; rfl, hbl⟩
set_option maxRecDepth 100000 in
theorem good_ (x : Ev) (hx : In32 x.2) (cells v : Int) (hv : Hid (v = goodE cells x)) (w : World) : Calls Tryz.prog 44 #[evV x, .int .i64 cells] w fun e w' => e = .returned (.int .i64 v) ∧ Below w.heap.size w w' := by
  obtain ⟨K, a⟩ := x
  have hw := wrap_i32 hx
  have hB := ba (Below.refl _ w) (evO (K, a))
  simp only at hw
  by_cases hK : K = 1 ∨ K = 2
  · by_cases ha : a < 0 ∨ cells ≤ a
    · have HV := Lib.hid (hv.out.trans (goodE_range hK ha))
      rcases hK with rfl | rfl
      all_goals
        go_enter Tryz.func44, Tryz.ntmps44
        go_wp2
        all_goals first | (exfalso; omega) | skip
        all_goals
          go_ret
          exact ⟨by rw [HV.out]; rfl, hB⟩
    · have HV := Lib.hid (show v = 0 by rw [hv.out]; unfold goodE; rw [if_pos hK, if_neg ha])
      rcases hK with rfl | rfl
      all_goals
        go_enter Tryz.func44, Tryz.ntmps44
        go_wp2
        all_goals first | (exfalso; omega) | skip
        all_goals
          go_ret
          exact ⟨by rw [HV.out]; rfl, hB⟩
  · have HV := Lib.hid (hv.out.trans (goodE_arg hK))
    have e1 : (K != 1) = true := by simp; omega
    have e2 : (K != 2) = true := by simp; omega
    clear hK
    go_enter Tryz.func44, Tryz.ntmps44
    go_wp2
    all_goals
      go_ret
      exact ⟨by rw [HV.out]; rfl, hB⟩
set_option maxRecDepth 100000 in
set_option maxHeartbeats 2000000 in
theorem rcheck_ (w : World) (A : Option Addr) (c : Nat) (l : List Ev) (h : Reads w w.heap.size 2 A l.length (evs l)) (ho : Ok32 l) (hl : l.length ≤ 9223372036854775807) (cells : Int) :
    Calls Tryz.prog 25 #[.slice A l.length c, .int .i64 cells] w fun e w' => e = .returned (.tuple #[.int .i64 (chkT l cells).1, .int .i64 (chkT l cells).2]) ∧ Below w.heap.size w w' := by
  generalize hx : chkT l cells = x
  unfold chkT at hx
  by_cases h0 : cells < 1 ∨ 65536 < cells
  · rw [if_pos h0] at hx
    have Hx := Lib.hid hx.symm
    clear hx h
    go_enter Tryz.func25, Tryz.ntmps25
    go_wp2
    all_goals first | (exfalso; omega) | skip
    all_goals
      go_ret2
      exact ⟨by rw [Hx.out]; rfl, Below.refl _ _⟩
  rw [if_neg h0] at hx
  obtain ⟨q1, q2⟩ : 1 ≤ cells ∧ cells ≤ 65536 := by omega
  clear h0
  by_cases h1 : 8388608 < l.length
  · rw [if_pos h1] at hx
    have Hx := Lib.hid hx.symm
    clear hx h
    go_enter Tryz.func25, Tryz.ntmps25
    go_wp2
    all_goals first | (exfalso; omega) | skip
    all_goals
      go_ret2
      exact ⟨by rw [Hx.out]; rfl, Below.refl _ _⟩
  rw [if_neg h1] at hx
  have Hx := Lib.hid hx.symm
  have h1' : l.length ≤ 8388608 := by omega
  clear hx h1
  go_enter Tryz.func25, Tryz.ntmps25
  go_wp2
  all_goals first | (exfalso; omega) | skip
  go_loopw [6] (fun i wr => ∃ k : Nat, k ≤ l.length ∧ i = .int .i64 k ∧ ChkRel cells l k ∧ Below w.heap.size w wr) (fun i _ => l.length - (intOf i).toNat)
  case atStart => exact ⟨0, Nat.zero_le _, rfl, ChkRel.start cells l, Below.refl _ _⟩
  case round =>
    obtain ⟨k, hk, rfl, hr, hbl⟩ := hrel
    by_cases hlt : k < l.length
    · have hR := h.go hbl
      obtain ⟨b, off, K, a, rfl, hb, d1, d2, hd⟩ := evAt hR hlt
      have Hw := Lib.hid (ho _ (mem_dropE hd)).2
      by_cases he : goodE cells (K, a) = 0
      · have hr2 := hr.step hd he
        have He := Lib.hid he.symm
        clear hr hd he
        go_wp2_with fail
        (with_reducible refine (good_ (K, a) Hw.out cells 0 He _).mono ?_); rintro e w1 ⟨rfl, hb1⟩
        have hB := bt hbl hb1
        go_wp2
        go_roundw
        case rel => exact ⟨k + 1, by omega, by go_num, hr2, hB⟩
        case measure => simp [intOf]; omega
      · have HS := Lib.hid (hr.stop (n := goodE cells (K, a)) hd rfl he)
        obtain ⟨E, hE⟩ : ∃ E, E = goodE cells (K, a) := ⟨_, rfl⟩
        rw [← hE] at he HS
        have e1 : (E != 0) = true := by simpa using he
        have HE := Lib.hid hE
        clear hr hd he hE
        go_wp2_with fail
        (with_reducible refine (good_ (K, a) Hw.out cells E HE _).mono ?_); rintro e w1 ⟨rfl, hb1⟩
        have hB := bt hbl hb1
        go_wp2
        go_ret2
        exact ⟨by rw [Hx.out, HS.out]; rfl, hB⟩
    · have HS := Lib.hid (hr.done (by omega))
      go_wp2
      go_ret2
      exact ⟨by rw [Hx.out, HS.out]; rfl, hbl⟩
end Go.Proofs.YtpgojecldmcopaaGreatDoor
namespace Go.Proofs.YtpgojecldmcopaaGreatDoor
open Go.RowKit
@[go_sem] theorem eqgEv : Tryz.prog.eqGuardType Tryz.prog.depth 39 = false := by kernel_rfl
@[go_sem] theorem eqEv (a b c d : Int) (w : World) : (Op.equalIn 10000 39 (.agg #[.int .i32 a, .int .i32 b]) (.agg #[.int .i32 c, .int .i32 d])).run Tryz.prog w = .ok (decide (((a, b) : Ev) = (c, d))) w := by
  have u3 := Tryz.underlying21
  have hS : Tryz.prog.underlying 39 = some (.struct (Tryz.prog.fieldsOf 39)) := by kernel_rfl
  rw [show (10000 : Nat) = 9999 + 1 from rfl, run_equalIn_agg w 9999 39 _ _ hS (by kernel_rfl)]
  simp only [Program.fieldsOf, Tryz.underlying39]
  go_simp
  by_cases h1 : a = c <;> by_cases h2 : b = d <;> simp [h1, h2]
@[go_sem high] theorem neqEv (a b c d : Int) (w : World) : (binOp .neq 39 (.agg #[.int .i32 a, .int .i32 b]) (.agg #[.int .i32 c, .int .i32 d])).run Tryz.prog w = .ok (.bool (!(decide (((a, b) : Ev) = (c, d))))) w := by
  rw [run_neq_struct, eqEv]; rfl
@[go_sem high] theorem eqlEv (a b c d : Int) (w : World) : (binOp .eql 39 (.agg #[.int .i32 a, .int .i32 b]) (.agg #[.int .i32 c, .int .i32 d])).run Tryz.prog w = .ok (.bool (decide (((a, b) : Ev) = (c, d)))) w := by
  rw [run_eql_struct, eqEv]; rfl
set_option maxRecDepth 100000 in
set_option maxHeartbeats 400000 in
theorem same_any (w : World) (B B' : Nat) (A A' : Option Addr) (c c' : Nat) (l m : List Ev) (h : Reads w B 2 A l.length (evs l)) (h' : Reads w B' 2 A' m.length (evs m)) (hl : l.length ≤ 9223372036854775807) :
    Calls Tryz.prog 12 #[.slice A l.length c, .slice A' m.length c'] w fun e w' => e = .returned (.bool (decide (l = m))) ∧ Below w.heap.size w w' := by
  by_cases hlen : l.length = m.length
  · have e0 : ((l.length : Int) != (m.length : Int)) = false := by simp [hlen]
    have hm : m.length ≤ l.length := by omega
    have Hlen := Lib.hid hlen
    clear hlen
    go_enter Tryz.func12, Tryz.ntmps12
    go_wp2
    go_loopw [5] (fun i wr => ∃ k : Nat, k ≤ l.length ∧ i = .int .i64 k ∧ Below w.heap.size w wr ∧ (∀ p, wr.cell? p = w.cell? p) ∧ CmpRel l m k) (fun i _ => l.length - (intOf i).toNat)
    case atStart => exact ⟨0, Nat.zero_le _, rfl, Below.refl _ _, fun _ => rfl, rfl⟩
    case round =>
      obtain ⟨k, hk, rfl, hbl, hsame, hr⟩ := hrel
      by_cases hlt : k < l.length
      · obtain ⟨b, off, K, n, rfl, hb, d1, d2, hd⟩ := evAt h hlt
        obtain ⟨b', off', K', n', rfl, hb', d1', d2', hd'⟩ := evAt h' (by rw [← Hlen.out]; exact hlt)
        have c1 := (hsame ⟨b, off + k * 2, none⟩).trans d1
        have c1' := (hsame ⟨b', off' + k * 2, none⟩).trans d1'
        have c2 := (hsame ⟨b, off + k * 2 + 1, none⟩).trans d2
        have c2' := (hsame ⟨b', off' + k * 2 + 1, none⟩).trans d2'
        have Hs := Lib.hid hsame
        clear d1 d1' d2 d2' hsame
        have hi1 : (k : Int) < (l.length : Int) := by omega
        have hi1' : (k : Int) < (m.length : Int) := by rw [← Hlen.out]; omega
        have hi0 : (0 : Int) ≤ (k : Int) := by omega
        go_wp2
        go_quiet (fail)
        go_wp2
        all_goals first
          | (go_roundw
             case rel =>
               go_light
               exact ⟨k + 1, by omega, by go_num, Go.RowKit.Below.trans hbl (drewN_below _ _), fun p => Hs.out p, hr.step hd hd' (by first | (simp_all; done) | (simp_all [bytes_eq]; done))⟩
             case measure => simp [intOf]; omega)
          | (go_ret
             go_light
             exact ⟨ret_ne rfl (CmpRel.stop hd hd' (by intro he; first | (simp_all; done) | (simp_all [bytes_eq]; done))), Go.RowKit.Below.trans hbl (drewN_below _ _)⟩)
      · go_wp2
        go_ret
        exact ⟨ret_eq rfl (hr.done (by omega) (by rw [← Hlen.out]; omega)), hbl⟩
  · have e0 : ((l.length : Int) != (m.length : Int)) = true := by rw [bne_iff_ne]; omega
    have Hn := Lib.hid (show l ≠ m from fun e => hlen (by rw [e]))
    clear hlen
    go_enter Tryz.func12, Tryz.ntmps12
    go_wp2
    go_ret
    exact ⟨ret_ne rfl Hn.out, Below.refl _ _⟩
/-- numbers of 64 bits -/
abbrev ints (l : List Int) : List Value := l.map (Value.int .i64)
theorem intAt {w : World} {B k : Nat} {A : Option Addr} {l : List Int} (h : Reads w B 1 A l.length (ints l)) (hk : k < l.length) :
    ∃ b off n, A = some ⟨b, off, none⟩ ∧ b < B ∧ w.cell? ⟨b, off + k, none⟩ = some (.int .i64 n) ∧ Hid (l.drop k = n :: l.drop (k + 1)) := by
  obtain ⟨b, off, e, hb, hc⟩ := h.2 (by omega)
  exact ⟨b, off, _, e, hb, hc k _ (by rw [List.getElem?_map, List.getElem?_eq_getElem hk]; rfl), List.drop_eq_getElem_cons hk⟩
set_option maxRecDepth 100000 in
set_option maxHeartbeats 400000 in
theorem ints_same (w : World) (B B' : Nat) (A A' : Option Addr) (c c' : Nat) (l m : List Int) (h : Reads w B 1 A l.length (ints l)) (h' : Reads w B' 1 A' m.length (ints m)) (hl : l.length ≤ 9223372036854775807) :
    Calls Tryz.prog 19 #[.slice A l.length c, .slice A' m.length c'] w fun e w' => e = .returned (.bool (decide (l = m))) ∧ Below w.heap.size w w' := by
  by_cases hlen : l.length = m.length
  · have e0 : ((l.length : Int) != (m.length : Int)) = false := by simp [hlen]
    have hm : m.length ≤ l.length := by omega
    have Hlen := Lib.hid hlen
    clear hlen
    go_enter Tryz.func19, Tryz.ntmps19
    go_wp2
    go_loopw [5] (fun i wr => ∃ k : Nat, k ≤ l.length ∧ i = .int .i64 k ∧ Below w.heap.size w wr ∧ (∀ p, wr.cell? p = w.cell? p) ∧ CmpRel l m k) (fun i _ => l.length - (intOf i).toNat)
    case atStart => exact ⟨0, Nat.zero_le _, rfl, Below.refl _ _, fun _ => rfl, rfl⟩
    case round =>
      obtain ⟨k, hk, rfl, hbl, hsame, hr⟩ := hrel
      by_cases hlt : k < l.length
      · obtain ⟨b, off, K, rfl, hb, d1, hd⟩ := intAt h hlt
        obtain ⟨b', off', K', rfl, hb', d1', hd'⟩ := intAt h' (by rw [← Hlen.out]; exact hlt)
        have c1 := (hsame ⟨b, off + k, none⟩).trans d1
        have c1' := (hsame ⟨b', off' + k, none⟩).trans d1'
        have Hs := Lib.hid hsame
        clear d1 d1' hsame
        have hi1 : (k : Int) < (l.length : Int) := by omega
        have hi1' : (k : Int) < (m.length : Int) := by rw [← Hlen.out]; omega
        have hi0 : (0 : Int) ≤ (k : Int) := by omega
        go_wp2
        go_quiet (fail)
        go_wp2
        all_goals first
          | (go_roundw
             case rel =>
               go_light
               exact ⟨k + 1, by omega, by go_num, Go.RowKit.Below.trans hbl (drewN_below _ _), fun p => Hs.out p, hr.step hd hd' (by first | (simp_all; done) | (simp_all [bytes_eq]; done))⟩
             case measure => simp [intOf]; omega)
          | (go_ret
             go_light
             exact ⟨ret_ne rfl (CmpRel.stop hd hd' (by intro he; first | (simp_all; done) | (simp_all [bytes_eq]; done))), Go.RowKit.Below.trans hbl (drewN_below _ _)⟩)
      · go_wp2
        go_ret
        exact ⟨ret_eq rfl (hr.done (by omega) (by rw [← Hlen.out]; omega)), hbl⟩
  · have e0 : ((l.length : Int) != (m.length : Int)) = true := by rw [bne_iff_ne]; omega
    have Hn := Lib.hid (show l ≠ m from fun e => hlen (by rw [e]))
    clear hlen
    go_enter Tryz.func19, Tryz.ntmps19
    go_wp2
    go_ret
    exact ⟨ret_ne rfl Hn.out, Below.refl _ _⟩
end Go.Proofs.YtpgojecldmcopaaGreatDoor
