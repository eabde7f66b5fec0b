/- words: plain words of fields, of a line's fields, of decimal forms. No condition. words: plain laws of decimal forms and of names. No condition. -/
import Derived.Test.YtcopnpllaoahaaaGreatDoorQ1
import Derived.Lib.ParseIntB
import Derived.Lib.SlTrimSet
namespace Go.Proofs.YtcopnpllaoahaaaGreatDoor
open Go.RowKit
/-- a field: its bytes, and whether it is quoted -/
abbrev Fd := List UInt8 × Bool
def bareC (c : UInt8) : Bool := plainB c && !(c == 32)
def bareL (l : List UInt8) : Bool := l.all bareC && !l.isEmpty
def upTo (l : List UInt8) : List UInt8 := l.takeWhile fun c => !(c == 32)
/-- the field at the beginning, and how many bytes it takes -/
def headF (l : List UInt8) : Option (Fd × Nat) :=
  if (unquoteL l).2 ≠ 0 then some (((unquoteL l).1, true), (unquoteL l).2) else
  if bareL (upTo l) = true then some ((upTo l, false), (upTo l).length) else none
/-- what the iterator hands out: fields, and an end that is a fault or not -/
def seqF : Nat → List UInt8 → List Fd × Bool
  | 0, _ => ([], false)
  | n + 1, l => match headF l with
    | none => ([], false)
    | some (f, k) => match l.drop k with
      | [] => ([f], true)
      | x :: r => if x = 32 then (f :: (seqF n r).1, (seqF n r).2) else ([], false)
def seqL (l : List UInt8) : List Fd × Bool := seqF (l.length + 1) l
theorem upTo_le (l : List UInt8) : (upTo l).length ≤ l.length := (show upTo l <+: l from List.takeWhile_prefix _).length_le
theorem upTo_pre (l : List UInt8) : l = upTo l ++ l.drop (upTo l).length := by
  have h : upTo l <+: l := List.takeWhile_prefix _
  obtain ⟨t, ht⟩ := h
  conv => lhs; rw [← ht]
  rw [show l.drop (upTo l).length = (upTo l ++ t).drop (upTo l).length by rw [ht], List.drop_left]
theorem unqL_le (l : List UInt8) : (unquoteL l).2 ≤ l.length := by
  match l with
  | [] => simp [unquoteL]
  | x :: r =>
    unfold unquoteL
    simp only
    by_cases hx : x = 34
    · rw [if_pos hx]
      rcases hq : unq (r.length + 1) r with _ | ⟨b, k⟩
      · simp
      · obtain ⟨h1, h2⟩ := unq_form hq
        have := congrArg List.length h1
        simp only [List.length_append, List.length_cons] at this ⊢
        omega
    · rw [if_neg hx]; simp
theorem bareL_pos {l : List UInt8} (h : bareL l = true) : 0 < l.length := by
  cases l with
  | nil => simp [bareL] at h
  | cons x r => simp
theorem headF_pos {l : List UInt8} {f : Fd} {k : Nat} (h : headF l = some (f, k)) : 0 < k ∧ k ≤ l.length := by
  unfold headF at h
  split at h
  · rename_i hq
    injection h with h; injection h with _ h; subst h
    exact ⟨Nat.pos_of_ne_zero hq, unqL_le l⟩
  · split at h
    · rename_i hb
      injection h with h; injection h with _ h; subst h
      exact ⟨bareL_pos hb, upTo_le l⟩
    · cases h
theorem seqF_fuel : ∀ (n k : Nat) (l : List UInt8), l.length < n → l.length < k → seqF n l = seqF k l := by
  intro n
  induction n with
  | zero => intro k l h; omega
  | succ n ih =>
    intro k l h h2
    obtain ⟨k, rfl⟩ : ∃ k', k = k' + 1 := ⟨k - 1, by omega⟩
    unfold seqF
    rcases hh : headF l with _ | ⟨f, j⟩
    · rfl
    · have hp := headF_pos hh
      simp only
      rcases hd : l.drop j with _ | ⟨x, r⟩
      · rfl
      · have hl := congrArg List.length hd
        simp at hl
        simp only
        rw [ih k r (by omega) (by omega)]
theorem seqL_none {l : List UInt8} (h : headF l = none) : seqL l = ([], false) := by unfold seqL seqF; rw [h]
theorem seqL_end {l : List UInt8} {f : Fd} {k : Nat} (h : headF l = some (f, k)) (hk : l.length ≤ k) : seqL l = ([f], true) := by
  unfold seqL seqF; rw [h]; simp only; rw [List.drop_eq_nil_of_le hk]
theorem seqL_more {l r : List UInt8} {f : Fd} {k : Nat} (h : headF l = some (f, k)) (hd : l.drop k = 32 :: r) : seqL l = (f :: (seqL r).1, (seqL r).2) := by
  unfold seqL; rw [seqF, h]; simp only; rw [hd]; simp only
  have hl := congrArg List.length hd
  simp at hl
  rw [if_pos trivial, seqF_fuel l.length (r.length + 1) r (by omega) (by omega)]
theorem seqL_stop {l r : List UInt8} {f : Fd} {k : Nat} {x : UInt8} (h : headF l = some (f, k)) (hd : l.drop k = x :: r) (hx : x ≠ 32) : seqL l = ([], false) := by
  unfold seqL; rw [seqF, h]; simp only; rw [hd]; simp only; rw [if_neg hx]
/-- what Split returns: the fields, the error -/
def splitL (l : List UInt8) : List Fd × Int :=
  if 8192 < l.length then ([], 3) else if l = [] then ([], 0) else if (seqL l).2 = false then ([], 6) else
  if (seqL l).1.any (fun f => decide (2000 < f.1.length)) = true ∨ 64 < (seqL l).1.length then ([], 3) else ((seqL l).1, 0)
/-- names -/
def lowB (c : UInt8) : Bool := decide (97 ≤ c.toNat ∧ c.toNat ≤ 122)
def digB (c : UInt8) : Bool := decide (48 ≤ c.toNat ∧ c.toNat ≤ 57)
def nameC (c : UInt8) : Bool := lowB c || digB c || c == 45
def nameL (l : List UInt8) : Bool := decide (l.length ≤ 16) && (match l with | [] => false | x :: _ => lowB x) && l.all nameC
/-- decimal forms -/
def digsL (l : List UInt8) : Bool := l.all digB && (match l with | [] => false | [_] => true | x :: _ => !(x == 48))
def decL (l : List UInt8) : Bool := match l with
  | 45 :: x :: r => digsL (x :: r) && !(x == 48)
  | l => digsL l
def natL (l : List UInt8) : Nat := l.foldl (fun n c => 10 * n + (c.toNat - 48)) 0
def intL (l : List UInt8) : Int := match l with
  | 45 :: r => -(natL r : Int)
  | l => natL l
/-- what Int returns -/
def intR (l : List UInt8) (low high : Int) : Int × Int :=
  if decL l = false then (0, 6) else if intL l < -9223372036854775808 ∨ 9223372036854775807 < intL l ∨ intL l < low ∨ high < intL l then (0, 7) else (intL l, 0)
end Go.Proofs.YtcopnpllaoahaaaGreatDoor
namespace Go.Proofs.YtcopnpllaoahaaaGreatDoor
open Go.RowKit
--BEGIN
def natF (acc : Nat) (l : List UInt8) : Nat := l.foldl (fun n c => 10 * n + (c.toNat - 48)) acc
theorem natL_eq (l : List UInt8) : natL l = natF 0 l := rfl
theorem natF_ge (l : List UInt8) : ∀ acc, acc ≤ natF acc l := by
  induction l with
  | nil => intro acc; exact Nat.le_refl _
  | cons x r ih =>
    intro acc
    have := ih (10 * acc + (x.toNat - 48))
    show acc ≤ natF (10 * acc + (x.toNat - 48)) r
    omega
theorem natF_snoc (acc : Nat) (l : List UInt8) (c : UInt8) : natF acc (l ++ [c]) = 10 * natF acc l + (c.toNat - 48) := by simp [natF]
theorem natF_app (acc : Nat) (l r : List UInt8) : natF acc (l ++ r) = natF (natF acc l) r := by simp [natF]
theorem digB_iff (c : UInt8) : digB c = true ↔ 48 ≤ c.toNat ∧ c.toNat ≤ 57 := by simp [digB]
theorem parseM {l : List UInt8} (h : l.all digB = true) : ∀ acc, Lib.parseUintM 18446744073709551615 acc l = if natF acc l ≤ 18446744073709551615 ∨ l = [] then .ok (natF acc l) else .range := by
  induction l with
  | nil => intro acc; rw [if_pos (.inr rfl)]; rfl
  | cons x r ih =>
    intro acc
    rw [List.all_cons, Bool.and_eq_true] at h
    have hx := (digB_iff x).1 h.1
    unfold Lib.parseUintM
    rw [if_pos hx]
    have hv : natF acc (x :: r) = natF (10 * acc + (x.toNat - 48)) r := rfl
    have hg := natF_ge r (10 * acc + (x.toNat - 48))
    rw [Nat.mul_comm acc 10]
    by_cases h1 : 1844674407370955162 ≤ acc
    · rw [if_pos h1, if_neg]
      rw [hv]; simp; omega
    rw [if_neg h1]
    by_cases h2 : 18446744073709551615 < 10 * acc + (x.toNat - 48)
    · rw [if_pos h2, if_neg]
      rw [hv]; simp; omega
    rw [if_neg h2, ih h.2, hv]
    by_cases h3 : natF (10 * acc + (x.toNat - 48)) r ≤ 18446744073709551615
    · rw [if_pos (.inl h3), if_pos (.inl h3)]
    · by_cases hr : r = []
      · subst hr; exact absurd (show natF _ [] ≤ _ from (by show 10 * acc + (x.toNat - 48) ≤ _; omega)) h3
      · rw [if_neg (by simp [h3, hr]), if_neg (by simp [h3])]
theorem all_dig_ne {l : List UInt8} (h : l.all digB = true) : ∀ c ∈ l, c ≠ 45 ∧ c ≠ 43 := by
  intro c hc
  have := (digB_iff c).1 (List.all_eq_true.1 h c hc)
  constructor <;> (intro e; subst e; simp at this)
theorem digsL_all {l : List UInt8} (h : digsL l = true) : l.all digB = true ∧ l ≠ [] := by
  unfold digsL at h
  rw [Bool.and_eq_true] at h
  refine ⟨h.1, ?_⟩
  rintro rfl
  exact absurd h.2 (by simp)
/-- the two shapes of a decimal form -/
theorem decL_cases {l : List UInt8} (h : decL l = true) : (∃ r, l = 45 :: r ∧ r ≠ [] ∧ r.all digB = true ∧ intL l = -(natL r : Int)) ∨ (l ≠ [] ∧ l.all digB = true ∧ intL l = natL l ∧ ∀ r, l ≠ 45 :: r) := by
  unfold decL at h
  split at h
  · rename_i x r
    rw [Bool.and_eq_true] at h
    have := digsL_all h.1
    exact .inl ⟨x :: r, rfl, by simp, this.1, rfl⟩
  · have h1 := digsL_all h
    have hne : ∀ r, l ≠ 45 :: r := by rintro r rfl; exact (all_dig_ne h1.1 45 (by simp)).1 rfl
    refine .inr ⟨h1.2, h1.1, ?_, hne⟩
    unfold intL
    split
    · rename_i r _; exact absurd rfl (hne r)
    · rfl
/-- what ParseInt says of a decimal form -/
theorem parse_dec {l : List UInt8} (h : decL l = true) : Lib.parseIntB 64 l = if intL l < -9223372036854775808 ∨ 9223372036854775807 < intL l then .range else .ok (intL l) := by
  have hB : ∀ r : List UInt8, r ≠ [] → r.all digB = true → Lib.parseUintB 64 r = if natL r ≤ 18446744073709551615 then .ok (natL r) else .range := by
    intro r h0 hr
    unfold Lib.parseUintB
    rw [if_neg h0, show (2 ^ 64 - 1 : Nat) = 18446744073709551615 by decide, parseM hr, natL_eq]
    simp [h0]
  rcases decL_cases h with ⟨r, rfl, h0, hr, hi⟩ | ⟨h0, hr, hi, hn⟩
  · unfold Lib.parseIntB
    simp only
    rw [if_pos (.inr (by decide)), hB r h0 hr, hi]
    by_cases hv : natL r ≤ 18446744073709551615
    · rw [if_pos hv]
      simp only
      rw [if_neg (by simp)]
      by_cases h2 : 9223372036854775808 < natL r
      · rw [if_pos ⟨by decide, by simpa using h2⟩, if_pos (by omega)]
      · rw [if_neg (c := (-(natL r : Int) < -9223372036854775808 ∨ 9223372036854775807 < -(natL r : Int))) (by omega), if_neg (by simp; omega)]; simp
    · rw [if_neg hv]
      simp only
      rw [if_pos (by omega)]
  · cases l with
    | nil => exact absurd rfl h0
    | cons c r =>
      have hc := all_dig_ne hr c (by simp)
      have hc1 : ¬ (c.toNat = 43 ∨ c.toNat = 45) := by
        rintro (e | e)
        · exact hc.2 (UInt8.toNat_inj.1 e)
        · exact hc.1 (UInt8.toNat_inj.1 e)
      have hc2 : ¬ c.toNat = 45 := fun e => hc1 (.inr e)
      unfold Lib.parseIntB
      simp only
      rw [if_neg hc1, hB _ h0 hr, hi]
      by_cases hv : natL (c :: r) ≤ 18446744073709551615
      · rw [if_pos hv]
        simp only
        by_cases h2 : 9223372036854775808 ≤ natL (c :: r)
        · rw [if_pos ⟨hc2, by simpa using h2⟩, if_pos (by omega)]
        · rw [if_neg (by simp; omega), if_neg (by simp [hc2]), if_neg (c := ((natL (c :: r) : Int) < -9223372036854775808 ∨ 9223372036854775807 < (natL (c :: r) : Int))) (by omega), if_neg hc2]
      · rw [if_neg hv]
        simp only
        rw [if_pos (by omega)]
/-- the digits alone: what the reference builds up -/
def absF (l : List UInt8) : Nat := natF 0 (l.filter fun c => !(c == 45))
theorem absF_nil : absF [] = 0 := rfl
theorem absF_minus (l : List UInt8) : absF (l ++ [45]) = absF l := by simp [absF]
theorem absF_dig (l : List UInt8) (c : UInt8) (h : c ≠ 45) : absF (l ++ [c]) = 10 * absF l + (c.toNat - 48) := by
  have hc : (c == 45) = false := by simpa using h
  simp [absF, hc, natF_snoc]
theorem absF_take (l : List UInt8) (k : Nat) : absF (l.take k) ≤ absF l := by
  conv => rhs; rw [← List.take_append_drop k l]
  unfold absF
  rw [List.filter_append, natF_app]
  exact natF_ge _ _
theorem filter_dig {l : List UInt8} (h : l.all digB = true) : (l.filter fun c => !(c == 45)) = l := by
  rw [List.filter_eq_self]
  intro c hc
  simpa using (all_dig_ne h c hc).1
theorem int_abs {l : List UInt8} (h : decL l = true) : intL l = if l.head? = some 45 then -(absF l : Int) else absF l := by
  rcases decL_cases h with ⟨r, rfl, h0, hr, hi⟩ | ⟨h0, hr, hi, hn⟩
  · rw [hi, if_pos (show (45 :: r).head? = some 45 from rfl)]
    have : absF (45 :: r) = natL r := by unfold absF; simp [filter_dig hr, natL_eq]
    rw [this]
  · have h1 : l.head? ≠ some 45 := by
      cases l with
      | nil => simp
      | cons x r => intro e; simp at e; subst e; exact hn r rfl
    rw [hi, if_neg h1]
    have : absF l = natL l := by unfold absF; rw [filter_dig hr, natL_eq]
    rw [this]
theorem dec_at {l : List UInt8} (h : decL l = true) {k : Nat} {c : UInt8} (hk : l[k]? = some c) : (k = 0 ∧ c = 45) ∨ digB c = true := by
  rcases decL_cases h with ⟨r, rfl, h0, hr, hi⟩ | ⟨h0, hr, hi, hn⟩
  · cases k with
    | zero => left; simp at hk; exact ⟨rfl, hk.symm⟩
    | succ k => right; simp at hk; exact List.all_eq_true.1 hr c (List.mem_of_getElem? hk)
  · exact .inr (List.all_eq_true.1 hr c (List.mem_of_getElem? hk))
/-- Trim leaves nothing: every byte is one of the set -/
theorem trim_nil (l cs : List UInt8) : (Lib.trimS l cs).isEmpty = l.all cs.contains := by
  have hd : ∀ l : List UInt8, (l.dropWhile (cs.contains ·)).isEmpty = l.all cs.contains := by
    intro l
    induction l with
    | nil => rfl
    | cons x r ih =>
      rw [List.dropWhile_cons, List.all_cons]
      rcases hx : cs.contains x with _ | _
      · simp
      · simpa using ih
  unfold Lib.trimS Lib.trimLeftS
  rw [hd]
  unfold Lib.trimRightS
  rw [List.all_reverse]
  rcases ha : l.all cs.contains with _ | _
  · rw [List.all_eq_false] at ha
    obtain ⟨x, hx, hc⟩ := ha
    have hne : (l.reverse.dropWhile (cs.contains ·)) ≠ [] := by
      intro e
      have := hd l.reverse
      rw [e, List.all_reverse] at this
      have h2 := List.all_eq_true.1 this.symm x hx
      exact hc h2
    rw [List.all_eq_false]
    refine ⟨(l.reverse.dropWhile (cs.contains ·)).head hne, List.head_mem hne, ?_⟩
    have := List.head_dropWhile_not (cs.contains ·) hne
    simp at this ⊢
    exact this
  · have h2 : (l.reverse.dropWhile (cs.contains ·)) = [] := by
      have := hd l.reverse
      rw [List.all_reverse, ha] at this
      exact List.isEmpty_iff.1 this
    rw [h2]; rfl
theorem u8_both (p q : UInt8 → Bool) (h : ∀ n : Fin 256, p (UInt8.ofNat n) = q (UInt8.ofNat n)) (c : UInt8) : p c = q c := by
  have := h ⟨c.toNat, c.toNat_lt⟩
  simpa using this
def digSet : List UInt8 := [48, 49, 50, 51, 52, 53, 54, 55, 56, 57]
def nameSet : List UInt8 := [97, 98, 99, 100, 101, 102, 103, 104, 105, 106, 107, 108, 109, 110, 111, 112, 113, 114, 115, 116, 117, 118, 119, 120, 121, 122, 48, 49, 50, 51, 52, 53, 54, 55, 56, 57, 45]
set_option maxRecDepth 100000 in
theorem digSet_eq (c : UInt8) : digSet.contains c = digB c := u8_both _ _ (by decide) c
set_option maxRecDepth 100000 in
theorem nameSet_eq (c : UInt8) : nameSet.contains c = nameC c := u8_both _ _ (by decide) c
theorem trim_dig (l : List UInt8) : (Lib.trimS l digSet).isEmpty = l.all digB := by
  rw [trim_nil]; congr 1; funext c; exact digSet_eq c
theorem trim_name (l : List UInt8) : (Lib.trimS l nameSet).isEmpty = l.all nameC := by
  rw [trim_nil]; congr 1; funext c; exact nameSet_eq c
/-- the sign taken off -/
def offL (l : List UInt8) : List UInt8 := match l with
  | 45 :: r => r
  | l => l
/-- isDecimal's own words -/
theorem decL_off (l : List UInt8) : decL l = (!(offL l).isEmpty && (offL l).all digB && (!((offL l).headD 0 == 48) || l == [48])) := by
  match l with
  | [] => rfl
  | x :: r =>
    by_cases hx : x = 45
    · subst hx
      cases r with
      | nil => decide
      | cons y t =>
        show (digsL (y :: t) && !(y == 48)) = _
        simp only [offL, digsL, List.isEmpty_cons, List.headD_cons]
        have e0 : ((45 :: y :: t : List UInt8) == [48]) = false := by simp
        rw [e0]
        rcases (y :: t).all digB with _ | _
        · simp
        · cases t <;> (rcases hb : (y == 48) with _ | _ <;> simp [hb])
    · have h1 : decL (x :: r) = digsL (x :: r) := by
        unfold decL
        split
        · rename_i h; injection h with h _; exact absurd h hx
        · rfl
      have h2 : offL (x :: r) = x :: r := by
        unfold offL
        split
        · rename_i h; injection h with h _; exact absurd h hx
        · rfl
      rw [h1, h2]
      simp only [digsL, List.isEmpty_cons, List.headD_cons]
      rcases (x :: r).all digB with _ | _
      · simp
      · cases r with
        | nil => by_cases h : x = 48 <;> simp [h]
        | cons y t => rcases hb : (x == 48) with _ | _ <;> simp [hb]
--END
end Go.Proofs.YtcopnpllaoahaaaGreatDoor
