/- Rows of bits: strconv.ParseUint at base 16, and which texts are words. -/
import Derived.Test.YtibnegheabhbdaaDoorB33
import Derived.Test.YtibnegheabhbdaaDoorShelf2
import Derived.Lib.AtoiErrMem
import Derived.Lib.Case
namespace Go.Proofs.YtibnegheabhbdaaDoor
open Go.RowKit
/-- the two errors of strconv are there -/
def Errs (w : World) : Prop := (∃ ev, w.cell? ⟨2, 0, none⟩ = some ev ∧ (ev = .nilIface ∨ ∃ te pe, ev = .iface te pe)) ∧ (∃ ev, w.cell? ⟨3, 0, none⟩ = some ev ∧ (ev = .nilIface ∨ ∃ te pe, ev = .iface te pe))
theorem Errs.below {w w' : World} (h : Errs w) (hb : Below w.heap.size w w') : Errs w' := by
  obtain ⟨⟨e1, h1, k1⟩, ⟨e2, h2, k2⟩⟩ := h
  exact ⟨⟨e1, (hb.cell (p := ⟨2, 0, none⟩) (World.block_lt_of_cell? _ _ h1)).trans h1, k1⟩, ⟨e2, (hb.cell (p := ⟨3, 0, none⟩) (World.block_lt_of_cell? _ _ h2)).trans h2, k2⟩⟩
def puS (s : ByteArray) : Lib.NumEnd Nat := if s.size = 0 then Lib.NumEnd.syntax else puH 0 s.data.toList
def puPost : Lib.NumEnd Nat → Nat → Value → Prop
  | .ok n, x, ev => x = n ∧ ev = .nilIface
  | _, _, ev => ∃ N : Nat, ev = .iface 122 (.pointer (some ⟨N, 0, none⟩))
set_option maxRecDepth 100000 in
set_option maxHeartbeats 2000000 in
theorem parseU_ (s : ByteArray) (hs : s.size ≤ 1000) (w : World) (hE : Errs w) :
    Calls Tryd.prog 59 #[.string s, .int .i64 16, .int .i64 64] w fun e w' => ∃ (x : Nat) (ev : Value), e = .returned (.tuple #[.int .u64 x, ev]) ∧ Below w.heap.size w w' ∧ puPost (puS s) x ev := by
  have key : ∀ r : Lib.NumEnd Nat, ∀ W, Below w.heap.size w W → (Calls Tryd.prog 75 #[.string s, .int .i64 16, .int .i64 64] w fun e w' => e = .returned (Lib.uintTuple 119 r) ∧ w' = W) →
      Calls Tryd.prog 59 #[.string s, .int .i64 16, .int .i64 64] w fun e w' => ∃ (x : Nat) (ev : Value), e = .returned (.tuple #[.int .u64 x, ev]) ∧ Below w.heap.size w w' ∧ puPost r x ev := by
    intro r W hb hi
    have HE := Lib.hid (hE.below hb)
    have HB := Lib.hid hb
    clear hE hb
    rcases r with n | _ | _
    ·
      have HI : Hid (Calls Tryd.prog 75 #[.string s, .int .i64 16, .int .i64 64] w fun e w' => e = .returned (.tuple #[.int .u64 n, .nilIface]) ∧ w' = W) := Lib.hid hi
      clear hi
      go_enter Tryd.func59, Tryd.ntmps59
      go_wp2_with fail
      (with_reducible refine (HI.out).mono ?_); rintro e w' ⟨rfl, rfl⟩
      go_wp2
      go_ret2
      exact ⟨n, .nilIface, rfl, HB.out, rfl, rfl⟩
    ·
      have HI : Hid (Calls Tryd.prog 75 #[.string s, .int .i64 16, .int .i64 64] w fun e w' => e = .returned (.tuple #[.int .u64 0, .iface 119 (.int .i64 2)]) ∧ w' = W) := Lib.hid hi
      clear hi
      obtain ⟨ev, h1, h2⟩ := HE.out.1
      have HT := Lib.hid (Tryd.strconv_toError_syntax ⟨#[80, 97, 114, 115, 101, 85, 105, 110, 116]⟩ s 16 64 ev W (by omega) h1 h2)
      clear h1 h2
      go_enter Tryd.func59, Tryd.ntmps59
      go_wp2_with fail
      (with_reducible refine (HI.out).mono ?_); rintro e w' ⟨rfl, rfl⟩
      go_wp2_with fail
      (with_reducible refine (HT.out).mono ?_); rintro e w2 ⟨N, rfl, _, _, hb2⟩
      have hB := bt HB.out hb2
      go_wp2
      go_ret2
      exact ⟨0, _, rfl, hB, N, rfl⟩
    ·
      have HI : Hid (Calls Tryd.prog 75 #[.string s, .int .i64 16, .int .i64 64] w fun e w' => e = .returned (.tuple #[.int .u64 18446744073709551615, .iface 119 (.int .i64 1)]) ∧ w' = W) := Lib.hid hi
      clear hi
      obtain ⟨ev, h1, h2⟩ := HE.out.2
      have HT := Lib.hid (Tryd.strconv_toError_range ⟨#[80, 97, 114, 115, 101, 85, 105, 110, 116]⟩ s 16 64 ev W (by omega) h1 h2)
      clear h1 h2
      go_enter Tryd.func59, Tryd.ntmps59
      go_wp2_with fail
      (with_reducible refine (HI.out).mono ?_); rintro e w' ⟨rfl, rfl⟩
      go_wp2_with fail
      (with_reducible refine (HT.out).mono ?_); rintro e w2 ⟨N, rfl, _, _, hb2⟩
      have hB := bt HB.out hb2
      go_wp2
      go_ret2
      exact ⟨18446744073709551615, _, rfl, hB, N, rfl⟩
  by_cases h0 : s.size = 0
  · have e0 : s = ⟨#[]⟩ := ByteArray.ext (Array.eq_empty_of_size_eq_zero h0)
    have hp : puS s = Lib.NumEnd.syntax := if_pos h0
    rw [hp]
    refine key _ w (Below.refl _ _) ?_
    rw [e0]
    exact Tryd.internal_strconv_ParseUint_empty 16 64 w
  · have hp : puS s = puH 0 s.data.toList := if_neg h0
    rw [hp]
    exact key _ _ (Lib.bytesWorld_below w 5 s) (iparse_ s h0 (by omega) w)
/-- 16 lower-case digits -/
def isHx (c : UInt8) : Bool := (48 ≤ c.toNat && c.toNat ≤ 57) || (97 ≤ c.toNat && c.toNat ≤ 102)
def hv (c : UInt8) : Nat := if c.toNat ≤ 57 then c.toNat - 48 else c.toNat - 87
def valB (l : List UInt8) : Nat := l.foldl (fun n c => n * 16 + hv c) 0
def wordB (l : List UInt8) : Bool := l.length == 16 && l.all isHx
theorem hex_fin : ∀ c : Fin 256, (isHx (UInt8.ofNat c.val) = true → digH c.val = hv (UInt8.ofNat c.val) ∧ hv (UInt8.ofNat c.val) < 16 ∧ c.val < 128 ∧ Lib.lowerB (UInt8.ofNat c.val) = UInt8.ofNat c.val) ∧ (isHx (UInt8.ofNat c.val) = false → digH c.val < 16 → c.val < 128 ∧ Lib.lowerB (UInt8.ofNat c.val) ≠ UInt8.ofNat c.val) := by decide +kernel
theorem hex_yes {c : UInt8} (h : isHx c = true) : digH c.toNat = hv c ∧ hv c < 16 ∧ c.toNat < 128 ∧ Lib.lowerB c = c := by
  have := (hex_fin ⟨c.toNat, c.toNat_lt⟩).1
  simp only [UInt8.ofNat_toNat] at this
  exact this h
theorem hex_no {c : UInt8} (h : isHx c = false) (hd : digH c.toNat < 16) : c.toNat < 128 ∧ Lib.lowerB c ≠ c := by
  have := (hex_fin ⟨c.toNat, c.toNat_lt⟩).2
  simp only [UInt8.ofNat_toNat] at this
  exact this h hd
/-- what is read as a number has digits alone -/
theorem puH_digs : ∀ (l : List UInt8) (acc n : Nat), puH acc l = .ok n → ∀ c ∈ l, digH c.toNat < 16
  | [], _, _, _ => fun c hc => by cases hc
  | c :: r, acc, n, h => by
    rw [puH] at h
    by_cases hd : digH c.toNat < 16
    · rw [if_pos hd] at h
      by_cases hc : 1152921504606846976 ≤ acc
      · rw [if_pos hc] at h; cases h
      · rw [if_neg hc] at h
        intro x hx
        rcases List.mem_cons.1 hx with rfl | hx
        · exact hd
        · exact puH_digs r _ n h x hx
    · rw [if_neg hd] at h; cases h
theorem puH_hex : ∀ (l : List UInt8) (acc : Nat), (∀ c ∈ l, isHx c = true) → acc < 16 ^ (16 - l.length) → l.length ≤ 16 → puH acc l = .ok (l.foldl (fun n c => n * 16 + hv c) acc)
  | [], acc, _, _, _ => rfl
  | c :: r, acc, h, ha, hl => by
    obtain ⟨h1, h2, _, _⟩ := hex_yes (h c List.mem_cons_self)
    have hlen : r.length + 1 ≤ 16 := hl
    have hacc : acc < 1152921504606846976 := by
      refine Nat.lt_of_lt_of_le ha ?_
      have : 16 ^ (16 - (c :: r).length) ≤ 16 ^ 15 := Nat.pow_le_pow_right (by omega) (by simp)
      simpa using this
    rw [puH, h1, if_pos h2, if_neg (by omega)]
    refine puH_hex r _ (fun x hx => h x (List.mem_cons_of_mem _ hx)) ?_ (by omega)
    have e : 16 - r.length = 16 - (c :: r).length + 1 := by simp; omega
    rw [e, Nat.pow_succ]
    omega
theorem wordB_ok {l : List UInt8} (h : wordB l = true) : l.length = 16 ∧ puH 0 l = .ok (valB l) ∧ (∀ c ∈ l, c.toNat < 128) ∧ Lib.toLowerA l = l := by
  unfold wordB at h
  rw [Bool.and_eq_true] at h
  have hl : l.length = 16 := by simpa using h.1
  have ha : ∀ c ∈ l, isHx c = true := List.all_eq_true.1 h.2
  refine ⟨hl, puH_hex l 0 ha (Nat.pow_pos (by omega)) (by omega), fun c hc => (hex_yes (ha c hc)).2.2.1, ?_⟩
  unfold Lib.toLowerA
  conv => rhs; rw [← List.map_id l]
  exact List.map_congr_left fun c hc => (hex_yes (ha c hc)).2.2.2
theorem wordB_no {l : List UInt8} {n : Nat} (h : wordB l = false) (hl : l.length = 16) (hp : puH 0 l = .ok n) : (∀ c ∈ l, c.toNat < 128) ∧ Lib.toLowerA l ≠ l := by
  have hd := puH_digs l 0 n hp
  have hno : ∃ c ∈ l, isHx c = false := by
    unfold wordB at h
    rw [hl] at h
    simp only [beq_self_eq_true, Bool.true_and] at h
    obtain ⟨c, hc, hh⟩ := List.all_eq_false.1 h
    exact ⟨c, hc, by simpa using hh⟩
  refine ⟨fun c hc => ?_, fun he => ?_⟩
  · cases hx : isHx c
    · exact (hex_no hx (hd c hc)).1
    · exact (hex_yes hx).2.2.1
  · obtain ⟨c, hc, hx⟩ := hno
    refine (hex_no hx (hd c hc)).2 ?_
    unfold Lib.toLowerA at he
    obtain ⟨k, hk, rfl⟩ := List.getElem_of_mem hc
    have := congrArg (fun m => m[k]?) he
    simp only [List.getElem?_map, List.getElem?_eq_getElem hk, Option.map_some] at this
    exact Option.some.inj this
theorem valB_lt {l : List UInt8} (h : wordB l = true) : valB l < 18446744073709551616 := by
  have key : ∀ (m : List UInt8) (acc : Nat), (∀ c ∈ m, isHx c = true) → m.foldl (fun n c => n * 16 + hv c) acc < (acc + 1) * 16 ^ m.length := by
    intro m
    induction m with
    | nil => intro acc _; simp
    | cons c r ih =>
      intro acc hm
      have h2 := (hex_yes (hm c List.mem_cons_self)).2.1
      have := ih (acc * 16 + hv c) fun x hx => hm x (List.mem_cons_of_mem _ hx)
      rw [List.foldl_cons, List.length_cons, Nat.pow_succ]
      refine Nat.lt_of_lt_of_le this ?_
      rw [Nat.mul_comm (16 ^ r.length) 16, ← Nat.mul_assoc]
      exact Nat.mul_le_mul_right _ (by omega)
  unfold wordB at h
  rw [Bool.and_eq_true] at h
  have hl : l.length = 16 := by simpa using h.1
  have := key l 0 (List.all_eq_true.1 h.2)
  rw [hl] at this
  unfold valB
  simpa using this
end Go.Proofs.YtibnegheabhbdaaDoor
