/- The lines of a text: plain laws. No condition. -/
import Derived.Test.YtaainkjgnljihaaGreatDoorN3
import Derived.Test.YtaainkjgnljihaaGreatDoorW3
import Derived.Lib.SplitLaws
import Derived.Lib.IndexBytes
namespace Go.Proofs.YtaainkjgnljihaaGreatDoor
open Go.RowKit
def mkB (l : List UInt8) : ByteArray := ⟨l.toArray⟩
def lns (cur : List UInt8) : List UInt8 → List (List UInt8)
  | [] => []
  | c :: t => if c = 10 then cur :: lns [] t else lns (cur ++ [c]) t
def lnsB (s : ByteArray) : List ByteArray := (lns [] s.data.toList).map mkB
theorem lns_hit (cur t : List UInt8) : lns cur (10 :: t) = cur :: lns [] t := by rw [lns, if_pos rfl]
theorem lns_other {c : UInt8} (h : c ≠ 10) (cur t : List UInt8) : lns cur (c :: t) = lns (cur ++ [c]) t := by rw [lns, if_neg h]
theorem lns_app : ∀ (a cur t : List UInt8), (10 : UInt8) ∉ a → lns cur (a ++ 10 :: t) = (cur ++ a) :: lns [] t
  | [], cur, t, _ => by simp [lns_hit]
  | c :: a, cur, t, h => by
    rw [List.mem_cons, not_or] at h
    rw [List.cons_append, lns_other (fun e => h.1 e.symm), lns_app a _ _ h.2]
    simp
theorem lns_len : ∀ (l cur : List UInt8), (lns cur l).length = l.count 10
  | [], _ => rfl
  | c :: t, cur => by
    by_cases h : c = 10
    · subst h; rw [lns_hit, List.length_cons, lns_len t, List.count_cons_self]
    · rw [lns_other h, lns_len t, List.count_cons_of_ne h]
/-- split at the bytes 10 of a text without its last one -/
theorem splitK_lns : ∀ (n : Nat) (l : List UInt8), l.count 10 = n → Lib.splitK [10] 0 n l = lns [] (l ++ [10]) := by
  intro n
  induction n with
  | zero =>
    intro l h
    rw [lns_app l [] [] (List.count_eq_zero.1 h)]
    rfl
  | succ n ih =>
    intro l h
    have hix := Lib.index_one l 10
    have hge := Lib.indexByte_ge l 10
    by_cases hm : Lib.indexByte l 10 = -1
    · exfalso
      have hno := Lib.indexByte_none hm
      have : (10 : UInt8) ∈ l := List.count_pos_iff.1 (by omega)
      obtain ⟨k, hk⟩ := List.mem_iff_getElem?.1 this
      exact hno k hk
    · obtain ⟨o, ho⟩ : ∃ o : Nat, Lib.indexByte l 10 = o := ⟨(Lib.indexByte l 10).toNat, by omega⟩
      obtain ⟨h1, h2⟩ := Lib.indexByte_some ho
      have hlt : o < l.length := by
        rcases Nat.lt_or_ge o l.length with h' | h'
        · exact h'
        · rw [List.getElem?_eq_none h'] at h1; exact absurd h1 (by simp)
      have hsp : l = l.take o ++ 10 :: l.drop (o + 1) := by
        have e := List.drop_eq_getElem_cons hlt
        have e2 : l[o] = 10 := by rw [List.getElem?_eq_getElem hlt] at h1; exact Option.some.inj h1
        rw [e2] at e
        rw [← e, List.take_append_drop]
      have hno : (10 : UInt8) ∉ l.take o := by
        intro hmem
        obtain ⟨k, hk⟩ := List.mem_iff_getElem?.1 hmem
        have hko : k < o := by
          rcases Nat.lt_or_ge k o with h' | h'
          · exact h'
          · rw [List.getElem?_eq_none (by simp <;> omega)] at hk; exact absurd hk (by simp)
        rw [List.getElem?_take_of_lt hko] at hk
        exact h2 k hko hk
      have hc : (l.drop (o + 1)).count 10 = n := by
        have e := congrArg (List.count 10) hsp
        rw [List.count_append, List.count_cons_self, List.count_eq_zero.2 hno, h] at e
        omega
      rw [Lib.splitK, hix, ho, if_neg (by simp <;> omega)]
      have e1 : (o : Int).toNat = o := by simp
      rw [e1]
      show l.take (o + 0) :: Lib.splitK [10] 0 n (l.drop (o + 1)) = _
      rw [ih _ hc]
      conv => rhs; rw [hsp]
      rw [List.append_assoc, List.cons_append, lns_app _ _ _ hno]
      simp
theorem count_one_byte (l : List UInt8) : Lib.count l [10] = l.count 10 := by
  induction hn : l.length using Nat.strongRecOn generalizing l with
  | _ n ih =>
    have hix := Lib.index_one l 10
    have hge := Lib.indexByte_ge l 10
    by_cases hm : Lib.indexByte l 10 = -1
    · rw [Lib.count_miss (hix.trans hm)]
      have hno := Lib.indexByte_none hm
      rw [eq_comm, List.count_eq_zero]
      intro hmem
      obtain ⟨k, hk⟩ := List.mem_iff_getElem?.1 hmem
      exact hno k hk
    · obtain ⟨o, ho⟩ : ∃ o : Nat, Lib.indexByte l 10 = o := ⟨(Lib.indexByte l 10).toNat, by omega⟩
      obtain ⟨h1, h2⟩ := Lib.indexByte_some ho
      have hlt : o < l.length := by
        rcases Nat.lt_or_ge o l.length with h' | h'
        · exact h'
        · rw [List.getElem?_eq_none h'] at h1; exact absurd h1 (by simp)
      have hsp : l = l.take o ++ 10 :: l.drop (o + 1) := by
        have e := List.drop_eq_getElem_cons hlt
        have e2 : l[o] = 10 := by rw [List.getElem?_eq_getElem hlt] at h1; exact Option.some.inj h1
        rw [e2] at e
        rw [← e, List.take_append_drop]
      have hno : (10 : UInt8) ∉ l.take o := by
        intro hmem
        obtain ⟨k, hk⟩ := List.mem_iff_getElem?.1 hmem
        have hko : k < o := by
          rcases Nat.lt_or_ge k o with h' | h'
          · exact h'
          · rw [List.getElem?_eq_none (by simp <;> omega)] at hk; exact absurd hk (by simp)
        rw [List.getElem?_take_of_lt hko] at hk
        exact h2 k hko hk
      rw [Lib.count_hit (by simp) (hix.trans ho)]
      show 1 + Lib.count (l.drop (o + 1)) [10] = _
      rw [ih (l.drop (o + 1)).length (by rw [List.length_drop]; omega) _ rfl]
      have e := congrArg (List.count 10) hsp
      rw [List.count_append, List.count_cons_self, List.count_eq_zero.2 hno] at e
      omega
theorem mkB_data (l : List UInt8) : (mkB l).data.toList = l := by simp [mkB]
theorem mkB_eta (s : ByteArray) : mkB s.data.toList = s := by
  apply ByteArray.ext
  simp [mkB]
/-- what strings.Split returns, of the text without its last byte -/
theorem splitB_lns {s : ByteArray} (h : s.data.toList.getLast? = some 10) :
    Lib.splitB ⟨#[10]⟩ 0 (Lib.countB (s.extract 0 (s.size - 1)) ⟨#[10]⟩) (s.extract 0 (s.size - 1)) = lnsB s ∧ Lib.countB (s.extract 0 (s.size - 1)) ⟨#[10]⟩ + 1 = (lnsB s).length := by
  obtain ⟨i, hi⟩ := List.getLast?_eq_some_iff.1 h
  have hd : (s.extract 0 (s.size - 1)).data.toList = i := by
    rw [ext_list2]
    have e : s.size = i.length + 1 := by
      have : s.data.toList.length = s.size := by simp
      rw [hi] at this
      simpa using this.symm
    rw [e, hi]
    simp
  have hc : Lib.countB (s.extract 0 (s.size - 1)) ⟨#[10]⟩ = i.count 10 := by
    show Lib.count _ [10] = _
    rw [hd, count_one_byte]
  have hs := Lib.splitB_data ⟨#[10]⟩ 0 (Lib.countB (s.extract 0 (s.size - 1)) ⟨#[10]⟩) (s.extract 0 (s.size - 1))
  rw [hd, hc] at hs
  have hs2 : (Lib.splitB ⟨#[10]⟩ 0 (i.count 10) (s.extract 0 (s.size - 1))).map (·.data.toList) = lns [] s.data.toList := by
    rw [hs, hi]
    exact splitK_lns _ _ rfl
  rw [hc]
  constructor
  · unfold lnsB
    rw [← hs2, List.map_map]
    conv => lhs; rw [← List.map_id (Lib.splitB ⟨#[10]⟩ 0 (i.count 10) (s.extract 0 (s.size - 1)))]
    apply List.map_congr_left
    intro a _
    exact (mkB_eta a).symm
  · unfold lnsB
    rw [List.length_map, lns_len, hi, List.count_append]
    rfl
theorem lnsB_len (s : ByteArray) : (lnsB s).length = s.data.toList.count 10 := by unfold lnsB; rw [List.length_map, lns_len]
/-- the lines while a text is walked -/
def LnRel (s : ByteArray) (a i : Nat) (out : List ByteArray) : Prop := lnsB s = out ++ (lns ((s.data.toList.drop a).take (i - a)) (s.data.toList.drop i)).map mkB
theorem LnRel.start (s : ByteArray) : LnRel s 0 0 [] := rfl
theorem LnRel.hit {s : ByteArray} {a i : Nat} {out : List ByteArray} (h : LnRel s a i out) (hi : i < s.size) (hc : s[i] = 10) : LnRel s (i + 1) (i + 1) (out ++ [s.extract a i]) := by
  unfold LnRel at h ⊢
  rw [h, drop_byte hi, hc, lns_hit, List.map_cons, Nat.sub_self, List.take_zero, List.append_assoc]
  congr 2
  rw [← ext_list2, mkB_eta]
theorem LnRel.other {s : ByteArray} {a i : Nat} {out : List ByteArray} (h : LnRel s a i out) (hi : i < s.size) (ha : a ≤ i) (hc : s[i] ≠ 10) : LnRel s a (i + 1) out := by
  unfold LnRel at h ⊢
  have hl : s.data.toList.length = s.size := by simp
  rw [h, drop_byte hi, lns_other hc]
  congr 3
  have e : i + 1 - a = (i - a) + 1 := by omega
  rw [e, List.take_add_one, List.getElem?_drop, show a + (i - a) = i by omega, List.getElem?_eq_getElem (by omega)]
  rfl
theorem LnRel.done {s : ByteArray} {a : Nat} {out : List ByteArray} (h : LnRel s a s.size out) : out = lnsB s := by
  unfold LnRel at h
  have hl : s.data.toList.length = s.size := by simp
  rw [h, ← hl, List.drop_length]
  simp [lns]
theorem byte_ten {c : UInt8} : ((c.toNat : Int) == 10) = decide (c = 10) := by
  rw [Bool.eq_iff_iff, beq_iff_eq, decide_eq_true_eq]
  constructor
  · intro h; apply UInt8.toNat_inj.1; show c.toNat = 10; omega
  · intro h; subst h; rfl
theorem suffix_ten (l : List UInt8) : Lib.hasSuffix l [10] = decide (l.getLast? = some 10) := by
  unfold Lib.hasSuffix
  rw [Bool.eq_iff_iff, List.isSuffixOf_iff_suffix, decide_eq_true_eq]
  constructor
  · rintro ⟨t, rfl⟩; simp
  · intro h
    obtain ⟨i, hi⟩ := List.getLast?_eq_some_iff.1 h
    exact ⟨i, hi.symm⟩
theorem last_byte (s : ByteArray) (h : 0 < s.size) : s.data.toList.getLast? = some (s[s.size - 1]'(by omega)) := by
  rw [List.getLast?_eq_getElem?]
  have hl : s.data.toList.length = s.size := rfl
  rw [hl]
  exact at_data s (s.size - 1) (by omega)
def linesL (s : ByteArray) : List ByteArray × Int :=
  if 1048576 < s.size then ([], 3) else if s.size = 0 then ([], 0) else if s.data.toList.getLast? ≠ some 10 then ([], 6) else if 5000 < (lnsB s).length then ([], 3) else (lnsB s, 0)
theorem linesL_long {s : ByteArray} (h : 1048576 < s.size) : linesL s = ([], 3) := if_pos h
theorem linesL_nil {s : ByteArray} (h : ¬ 1048576 < s.size) (h0 : s.size = 0) : linesL s = ([], 0) := by unfold linesL; rw [if_neg h, if_pos h0]
theorem linesL_form {s : ByteArray} (h : ¬ 1048576 < s.size) (h0 : ¬ s.size = 0) (h1 : s.data.toList.getLast? ≠ some 10) : linesL s = ([], 6) := by unfold linesL; rw [if_neg h, if_neg h0, if_pos h1]
theorem linesL_many {s : ByteArray} (h : ¬ 1048576 < s.size) (h0 : ¬ s.size = 0) (h1 : s.data.toList.getLast? = some 10) (h2 : 5000 < (lnsB s).length) : linesL s = ([], 3) := by unfold linesL; rw [if_neg h, if_neg h0, if_neg (by simpa using h1), if_pos h2]
theorem linesL_ok {s : ByteArray} (h : ¬ 1048576 < s.size) (h0 : ¬ s.size = 0) (h1 : s.data.toList.getLast? = some 10) (h2 : ¬ 5000 < (lnsB s).length) : linesL s = (lnsB s, 0) := by unfold linesL; rw [if_neg h, if_neg h0, if_neg (by simpa using h1), if_neg h2]
end Go.Proofs.YtaainkjgnljihaaGreatDoor
