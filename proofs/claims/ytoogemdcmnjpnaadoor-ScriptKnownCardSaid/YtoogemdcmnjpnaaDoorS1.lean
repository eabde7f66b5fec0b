/- The first functions of the script statements: far, the two Checks. -/
import Derived.Test.YtoogemdcmnjpnaaDoorOwn
import Derived.WalkSpells
import Derived.WalkLawsBesides
import Derived.Lib.Hide
import Derived.Deep.QuietTactic
import Derived.BigQuiet
import Derived.Deep.Light
namespace Go.Proofs.YtoogemdcmnjpnaaDoor
open Go.RowKit

abbrev Sc := Int × ByteArray
def scK (c : Sc) : Value := .int .i64 c.1
def scB (c : Sc) : Value := .string c.2
abbrev scs (l : List Sc) : List Value := flat2 scK scB l
def bytesOf : List Sc → Nat
  | [] => 0
  | c :: r => c.2.size + bytesOf r
/-- every string is below 2^47 bytes -/
def Sizes (l : List Sc) : Prop := ∀ x ∈ l, x.2.size ≤ 140737488355328
def farB (l : List Sc) : Bool := decide (210 < l.length) || decide (4000 < bytesOf (l.take 220))
theorem bytesOf_le {l : List Sc} (h : Sizes l) (n : Nat) : bytesOf (l.take n) ≤ n * 140737488355328 := by
  induction l generalizing n with
  | nil => simp [bytesOf]
  | cons x r ih =>
    cases n with
    | zero => simp [bytesOf]
    | succ n =>
      have h1 := h x (by simp)
      have h2 := ih (fun y hy => h y (by simp [hy])) n
      simp only [List.take_succ_cons, bytesOf]
      omega
theorem bytesOf_take_succ (l : List Sc) (k : Nat) (h : k < l.length) : bytesOf (l.take (k + 1)) = bytesOf (l.take k) + l[k].2.size := by
  induction l generalizing k with
  | nil => simp at h
  | cons x r ih =>
    cases k with
    | zero => simp [bytesOf]
    | succ k =>
      have := ih k (by simpa using h)
      simp only [List.take_succ_cons, bytesOf, this, List.getElem_cons_succ]
      omega

def FarRel (l : List Sc) (n : Nat) (k : Nat) : Prop := n = bytesOf (l.take k)

set_option maxRecDepth 100000 in
set_option maxHeartbeats 400000 in
theorem far_any (w : World) (B : Nat) (A : Option Addr) (c : Nat) (l : List Sc) (h : Reads w B 2 A l.length (scs l)) (hl : l.length ≤ 9223372036854775807) (hs : Sizes l) :
    Calls Tryd.prog 12 #[.slice A l.length c] w fun e w' => e = .returned (.bool (farB l)) ∧ w = w' := by
  go_enter Tryd.func12, Tryd.ntmps12
  go_wp2
  go_loop [3, 4] (fun n i => ∃ k m : Nat, k ≤ l.length ∧ k ≤ 220 ∧ i = .int .i64 k ∧ n = .int .i64 m ∧ FarRel l m k) (fun _ i => l.length - (intOf i).toNat)
  case atStart => exact ⟨0, 0, Nat.zero_le _, Nat.zero_le _, rfl, rfl, rfl⟩
  case round =>
    obtain ⟨k, m, hk, hk2, rfl, rfl, hr⟩ := hrel
    have hm : m ≤ k * 140737488355328 := by rw [hr]; exact bytesOf_le hs k
    by_cases hlt : k < l.length ∧ k < 220
    · obtain ⟨hlt, h220⟩ := hlt
      obtain ⟨b, off, rfl, hb, c1, c2⟩ := h.at2 rfl hlt
      have hx := hs l[k] (List.getElem_mem hlt)
      have hn := bytesOf_take_succ l k hlt
      generalize l[k] = x at c1 c2 hx hn
      simp only [scK, scB] at c1 c2
      have Hn := Lib.hid hn
      clear hn
      have hbd : (m : Int) + (x.2.size : Int) ≤ 221 * 140737488355328 := by omega
      go_wp2
      go_round
      case rel => exact ⟨k + 1, m + x.2.size, by omega, by omega, by go_num, by go_num, by unfold FarRel at *; rw [Hn.out, hr]⟩
      case measure => simp [intOf]; omega
    · have hf : farB l = (decide (210 < l.length) || decide (4000 < m)) := by
        unfold farB
        rw [hr]
        by_cases h1 : k < l.length
        · have : k = 220 := by omega
          rw [this]
        · rw [List.take_of_length_le (by omega : l.length ≤ 220), List.take_of_length_le (by omega : l.length ≤ k)]
      have Hf := Lib.hid hf
      clear hf
      by_cases h1 : k < l.length
      all_goals
        by_cases h2 : 210 < l.length
        all_goals
          go_wp2
          all_goals
            go_ret
            exact ⟨ret_bool (by rw [Hf.out, Bool.eq_iff_iff]; simp; omega), rfl⟩

/-- the error of one call; 0: none -/
def scErr (x : Sc) : Int :=
  if x.1 < 1 ∨ 4 < x.1 then 2 else if 1100 < x.2.size then 3 else if x.1 ≠ 1 ∧ x.2.size ≠ 0 then 6 else 0
def chkFrom (i : Nat) : List Sc → Int × Int
  | [] => (0, 0)
  | x :: r => if scErr x = 0 then chkFrom (i + 1) r else (i, scErr x)
def chk (l : List Sc) : Int × Int := if 200 < l.length then (-1, 3) else chkFrom 0 l
def ChkRel (l : List Sc) (k : Nat) : Prop := chkFrom k (l.drop k) = chkFrom 0 l
theorem scAt {w : World} {B k : Nat} {A : Option Addr} {l : List Sc} (h : Reads w B 2 A l.length (scs l)) (hk : k < l.length) (hs : Sizes l) :
    ∃ b off K s, A = some ⟨b, off, none⟩ ∧ b < B ∧ w.cell? ⟨b, off + k * 2, none⟩ = some (.int .i64 K) ∧ w.cell? ⟨b, off + k * 2 + 1, none⟩ = some (.string s) ∧
      s.size ≤ 140737488355328 ∧ Hid (l.drop k = (K, s) :: l.drop (k + 1)) := by
  obtain ⟨b, off, e, hb, c1, c2⟩ := h.at2 rfl hk
  exact ⟨b, off, _, _, e, hb, c1, c2, hs _ (List.getElem_mem hk), List.drop_eq_getElem_cons hk⟩
theorem ChkRel.step {l : List Sc} {k : Nat} {x : Sc} (h : ChkRel l k) (hk : Hid (l.drop k = x :: l.drop (k + 1))) (e : scErr x = 0) : ChkRel l (k + 1) := by
  unfold ChkRel at *
  rw [hk.out, chkFrom, if_pos e] at h
  exact h
theorem ChkRel.stop {l : List Sc} {k : Nat} {x : Sc} {n : Int} (h : ChkRel l k) (hk : Hid (l.drop k = x :: l.drop (k + 1))) (e : scErr x = n) (hn : n ≠ 0) : chkFrom 0 l = ((k : Int), n) := by
  unfold ChkRel at h
  rw [hk.out, chkFrom, if_neg (by rw [e]; exact hn), e] at h
  exact h.symm
theorem ChkRel.ret {l : List Sc} {k : Nat} {x : Sc} {n : Int} (h : ChkRel l k) (hk : Hid (l.drop k = x :: l.drop (k + 1))) (Hc : Hid (chk l = chkFrom 0 l)) (e : scErr x = n) (hn : n ≠ 0) :
    Ending.returned (.tuple #[.int .i64 (k : Int), .int .i64 n]) = .returned (.tuple #[.int .i64 (chk l).1, .int .i64 (chk l).2]) := by
  rw [Hc.out, h.stop hk e hn]
theorem ChkRel.done {l : List Sc} {k : Nat} (h : ChkRel l k) (hk : l.length ≤ k) : chkFrom 0 l = (0, 0) := by
  unfold ChkRel at h
  rw [List.drop_eq_nil_of_le hk] at h
  exact h.symm

set_option maxRecDepth 100000 in
set_option maxHeartbeats 400000 in
theorem scheck_any (w : World) (B : Nat) (A : Option Addr) (c : Nat) (l : List Sc) (h : Reads w B 2 A l.length (scs l)) (hB : B ≤ w.heap.size) (hl : l.length ≤ 9223372036854775807) (hs : Sizes l) :
    Calls Tryd.prog 20 #[.slice A l.length c] w fun e w' => e = .returned (.tuple #[.int .i64 (chk l).1, .int .i64 (chk l).2]) ∧ Below w.heap.size w w' := by
  by_cases h200 : 200 < l.length
  · have Hc := Lib.hid (show chk l = (-1, 3) by unfold chk; rw [if_pos h200])
    go_enter Tryd.func20, Tryd.ntmps20
    go_wp2
    go_ret2
    exact ⟨ret_pair (by rw [Hc.out]) (by rw [Hc.out]), Below.refl _ _⟩
  have Hc := Lib.hid (show chk l = chkFrom 0 l by unfold chk; rw [if_neg h200])
  go_enter Tryd.func20, Tryd.ntmps20
  go_wp2
  go_loopw [5, 11] (fun _ i wr => ∃ k : Nat, k ≤ l.length ∧ i = .int .i64 k ∧ ChkRel l k ∧ Below w.heap.size w wr) (fun _ i _ => l.length - (intOf i).toNat)
  case atStart => exact ⟨0, Nat.zero_le _, rfl, rfl, Below.refl _ _⟩
  case round =>
    obtain ⟨k, hk, rfl, hr, hbl⟩ := hrel
    by_cases hlt : k < l.length
    · obtain ⟨b, off, K, s, rfl, hb, c1, c2, hx, hd⟩ := scAt (h.below' hbl hB) hlt hs
      have hb2 := hbl.size
      go_wp2
      all_goals first
        | (go_roundw
           case rel =>
             go_light
             have hz := toList_nil s
             exact ⟨k + 1, by omega, by go_num, hr.step hd (by simp_all [scErr] <;> omega), hbl.alloc hb2 _⟩
           case measure => simp [intOf]; omega)
        | (go_ret2
           go_light
           have hz := toList_nil s
           refine ⟨hr.ret hd Hc ?_ (by decide), hbl.alloc hb2 _⟩
           simp_all [scErr] <;> omega)
    · go_wp2
      go_ret2
      exact ⟨ret_pair (by rw [Hc.out, hr.done (by omega)]) (by rw [Hc.out, hr.done (by omega)]), hbl⟩

set_option maxRecDepth 100000 in
set_option maxHeartbeats 400000 in
theorem rcheck_any (w : World) (B : Nat) (A : Option Addr) (c : Nat) (l : List Sc) (h : Reads w B 2 A l.length (scs l)) (hB : B ≤ w.heap.size) (hl : l.length ≤ 9223372036854775807) (hs : Sizes l) :
    Calls Tryd.prog 21 #[.slice A l.length c] w fun e w' => e = .returned (.tuple #[.int .i64 (chk l).1, .int .i64 (chk l).2]) ∧ Below w.heap.size w w' := by
  by_cases h200 : 200 < l.length
  · have Hc := Lib.hid (show chk l = (-1, 3) by unfold chk; rw [if_pos h200])
    go_enter Tryd.func21, Tryd.ntmps21
    go_wp2
    go_ret2
    exact ⟨ret_pair (by rw [Hc.out]) (by rw [Hc.out]), Below.refl _ _⟩
  have Hc := Lib.hid (show chk l = chkFrom 0 l by unfold chk; rw [if_neg h200])
  go_enter Tryd.func21, Tryd.ntmps21
  go_wp2
  go_loopw [4] (fun i wr => ∃ k : Nat, k ≤ l.length ∧ i = .int .i64 k ∧ ChkRel l k ∧ Below w.heap.size w wr) (fun i _ => l.length - (intOf i).toNat)
  case atStart => exact ⟨0, Nat.zero_le _, rfl, rfl, Below.refl _ _⟩
  case round =>
    obtain ⟨k, hk, rfl, hr, hbl⟩ := hrel
    by_cases hlt : k < l.length
    · obtain ⟨b, off, K, s, rfl, hb, c1, c2, hx, hd⟩ := scAt (h.below' hbl hB) hlt hs
      have hb2 := hbl.size
      go_wp2
      all_goals first
        | (go_roundw
           case rel =>
             go_light
             have hz := toList_nil s
             exact ⟨k + 1, by omega, by go_num, hr.step hd (by simp_all [scErr] <;> omega), hbl⟩
           case measure => simp [intOf]; omega)
        | (go_ret2
           go_light
           have hz := toList_nil s
           refine ⟨hr.ret hd Hc ?_ (by decide), hbl⟩
           simp_all [scErr] <;> omega)
    · go_wp2
      go_ret2
      exact ⟨ret_pair (by rw [Hc.out, hr.done (by omega)]) (by rw [Hc.out, hr.done (by omega)]), hbl⟩
end Go.Proofs.YtoogemdcmnjpnaaDoor
