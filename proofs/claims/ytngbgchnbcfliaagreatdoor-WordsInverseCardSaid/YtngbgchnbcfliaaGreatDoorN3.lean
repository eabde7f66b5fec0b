/- words: the reference's Split. No condition. -/
import Derived.Test.YtngbgchnbcfliaaGreatDoorN2
import Derived.Test.YtngbgchnbcfliaaGreatDoorW4
import Derived.Test.YtngbgchnbcfliaaGreatDoorFr
import Derived.Deep.DeepCutAuto
import Derived.Lib.IndexMore
namespace Go.Proofs.YtngbgchnbcfliaaGreatDoor
open Go.RowKit
theorem upTo_at {l : List UInt8} {k : Nat} (h : ∀ c ∈ l.take k, c ≠ 32) (he : l.drop k = [] ∨ ∃ r, l.drop k = 32 :: r) : upTo l = l.take k := by
  unfold upTo
  conv => lhs; rw [← List.take_append_drop k l]
  rw [List.takeWhile_append_of_pos (by intro c hc; simpa using h c hc)]
  rcases he with e | ⟨r, e⟩ <;> rw [e] <;> simp
theorem upTo_cut (l : List UInt8) : (Lib.cut l [32]).1 = upTo l := by
  have key : ∀ l : List UInt8, (Lib.index l [32] = -1 ∧ upTo l = l) ∨ (∃ i : Nat, Lib.index l [32] = i ∧ upTo l = l.take i) := by
    intro l
    induction l with
    | nil => exact .inl ⟨rfl, rfl⟩
    | cons x r ih =>
      by_cases hx : x = 32
      · subst hx
        exact .inr ⟨0, by simp [Lib.index], by simp [upTo]⟩
      · have h1 : ([32] : List UInt8).isPrefixOf (x :: r) = false := by
          simp [List.isPrefixOf]; exact fun e => hx e.symm
        have h2 : upTo (x :: r) = x :: upTo r := by simp [upTo, hx]
        rcases ih with ⟨h3, h4⟩ | ⟨i, h3, h4⟩
        · exact .inl ⟨by unfold Lib.index; rw [h1, h3]; rfl, by rw [h2, h4]⟩
        · refine .inr ⟨i + 1, ?_, by rw [h2, h4]; rfl⟩
          unfold Lib.index
          have : ((i : Int) == -1) = false := by rw [beq_eq_false_iff_ne]; omega
          rw [h1, h3, this]; simp
  unfold Lib.cut
  rcases key l with ⟨h1, h2⟩ | ⟨i, h1, h2⟩
  · rw [h1, if_neg (by omega), h2]
  · rw [h1, if_pos (by omega), h2]; simp
abbrev fS (f : Fd) : Value := .string ⟨f.1.toArray⟩
abbrev fQ (f : Fd) : Value := .bool f.2
abbrev fds (l : List Fd) : List Value := flat2 fS fQ l
abbrev fdO (s : ByteArray) (q : Bool) : Obj := .cells #[.string s, .bool q] 47 (0, 0)
theorem fdEl : Elem Tryz.prog 34 47 (.agg #[.string ⟨#[]⟩, .bool false]) 2 24 := ⟨Tryz.underlying34, by kernel_rfl, rfl, by decide⟩
def anyLong (l : List Fd) : Bool := l.any fun f => decide (2000 < f.1.length)
theorem anyLong_snoc (l : List Fd) (f : Fd) : anyLong (l ++ [f]) = (anyLong l || decide (2000 < f.1.length)) := by simp [anyLong]
theorem fds_snoc (l : List Fd) (f : Fd) : fds (l ++ [f]) = fds l ++ [fS f, fQ f] := flat2_append l [f]
theorem arr_eta (F : ByteArray) : (⟨F.data.toList.toArray⟩ : ByteArray) = F := by cases F; rfl
theorem fds_snocB (l : List Fd) (F : ByteArray) (q : Bool) : fds (l ++ [(F.data.toList, q)]) = fds l ++ [.string F, .bool q] := by
  rw [fds_snoc]
/-- what has been read of a line, and what is left -/
def Spl (l : List UInt8) (pre : List Fd) (R : List UInt8) : Prop := seqL l = (pre ++ (seqL R).1, (seqL R).2)
theorem Spl.start (l : List UInt8) : Spl l [] l := by unfold Spl; simp
section
variable {l R r : List UInt8} {pre : List Fd} {f : Fd} {k : Nat} {x : UInt8}
theorem Spl.none (h : Spl l pre R) (hh : headF R = none) : (seqL l).2 = false := by rw [h, seqL_none hh]
theorem Spl.done (h : Spl l pre R) (hh : headF R = some (f, k)) (hk : R.length ≤ k) : seqL l = (pre ++ [f], true) := by rw [h, seqL_end hh hk]
theorem Spl.more (h : Spl l pre R) (hh : headF R = some (f, k)) (hd : R.drop k = 32 :: r) : Spl l (pre ++ [f]) r := by unfold Spl; rw [h, seqL_more hh hd]; simp
theorem Spl.stop (h : Spl l pre R) (hh : headF R = some (f, k)) (hd : R.drop k = x :: r) (hx : x ≠ 32) : (seqL l).2 = false := by rw [h, seqL_stop hh hd hx]
end
theorem splitL_form {l : List UInt8} (h8 : l.length ≤ 8192) (h0 : l ≠ []) (h : (seqL l).2 = false) : splitL l = ([], 6) := by
  unfold splitL; rw [if_neg (by omega), if_neg h0, if_pos h]
theorem splitL_long {l : List UInt8} (h8 : l.length ≤ 8192) (h0 : l ≠ []) {fs : List Fd} (h : seqL l = (fs, true)) (hl : anyLong fs = true ∨ 64 < fs.length) : splitL l = ([], 3) := by
  unfold splitL; rw [if_neg (by omega), if_neg h0, h, if_neg (by simp)]; exact if_pos hl
theorem splitL_ok {l : List UInt8} (h8 : l.length ≤ 8192) (h0 : l ≠ []) {fs : List Fd} (h : seqL l = (fs, true)) (hl : anyLong fs = false) (h6 : ¬ 64 < fs.length) : splitL l = (fs, 0) := by
  unfold splitL; rw [if_neg (by omega), if_neg h0, h, if_neg (by simp)]
  refine if_neg ?_
  simp only [anyLong] at hl
  rw [hl]; simp only [Bool.false_eq_true, false_or]; exact h6
theorem ext_from (s : ByteArray) (k : Nat) : (s.extract k s.size).data.toList = s.data.toList.drop k := by
  rw [ext_list2, List.take_of_length_le]; simp
theorem head_quoted {R b : List UInt8} {n : Nat} (h : unquoteL R = (b, n)) (hn : n ≠ 0) : headF R = some ((b, true), n) := by
  unfold headF; rw [h, if_pos hn]
theorem head_bare {R b : List UInt8} (h : unquoteL R = (b, 0)) (hb : bareL (upTo R) = true) : headF R = some ((upTo R, false), (upTo R).length) := by
  unfold headF; rw [h, if_neg (by simp), if_pos hb]
theorem head_none {R b : List UInt8} (h : unquoteL R = (b, 0)) (hb : bareL (upTo R) = false) : headF R = none := by
  unfold headF; rw [h, if_neg (by simp), hb]; rfl
/-- a list of fields and an error come back -/
abbrev RetFs (w : World) (r : List Fd × Int) : Ending → World → Prop := RetSl w 2 (fds r.1) r.1.length r.2
theorem RetFs.none_ {w w' : World} {r : List Fd × Int} {err : Int} (hb : Below w.heap.size w w') (h : r = ([], err)) : RetFs w r (.returned (.tuple #[.slice none 0 0, .int .i64 err])) w' := by
  subst h; exact RetSl.nil hb rfl rfl
theorem take_snoc32 {l : List UInt8} {k j : Nat} {c : UInt8} (h : ∀ c ∈ (l.drop k).take j, c ≠ 32) (hc : l[k + j]? = some c) (hn : c ≠ 32) : ∀ c ∈ (l.drop k).take (j + 1), c ≠ 32 := by
  rw [List.take_add_one, List.getElem?_drop, hc]
  intro x hx
  rw [List.mem_append] at hx
  rcases hx with hx | hx
  · exact h x hx
  · simp at hx; rw [hx]; exact hn
theorem upTo_stop {s : ByteArray} {k j : Nat} (hk : k + j ≤ s.size) (h : ∀ c ∈ (s.data.toList.drop k).take j, c ≠ 32) (hgo : ¬ ∃ h : k + j < s.size, s[k + j] ≠ 32) : upTo (s.data.toList.drop k) = (s.extract k (k + j)).data.toList := by
  have e : (s.extract k (k + j)).data.toList = (s.data.toList.drop k).take j := by rw [ext_list2]; congr 1; omega
  rw [e]
  refine upTo_at h ?_
  rw [List.drop_drop]
  by_cases hlt : k + j < s.size
  · right
    have h3 : s[k + j] = 32 := Classical.byContradiction fun e => hgo ⟨hlt, e⟩
    have hl : k + j < s.data.toList.length := by simpa using hlt
    refine ⟨s.data.toList.drop (k + j + 1), ?_⟩
    rw [List.drop_eq_getElem_cons hl]
    congr 1
  · left
    exact List.drop_eq_nil_of_le (by simp; omega)
theorem own_new_ne {w : World} {base size n : Nat} {e : TypeId} {v : Value} {xs : List Value} (h : w.ownsRow base e size v n xs) : v.ownBlock ≠ some w.heap.size := fun e => absurd (h.lt _ e).2 (Nat.lt_irrefl _)
theorem drop_at2 {l : List UInt8} {k m : Nat} {c : UInt8} (h : l[k + m]? = some c) : (l.drop k).drop m = c :: l.drop (k + m + 1) := by
  have hl := List.getElem?_eq_some_iff.1 h
  rw [List.drop_drop, List.drop_eq_getElem_cons hl.1, hl.2]
theorem drop_at {l : List UInt8} {k m : Nat} {c : UInt8} (h : l[k + m]? = some c) (hc : c = 32) : (l.drop k).drop m = 32 :: l.drop (k + m + 1) := by
  subst hc; exact drop_at2 h
--WALK
end Go.Proofs.YtngbgchnbcfliaaGreatDoor
