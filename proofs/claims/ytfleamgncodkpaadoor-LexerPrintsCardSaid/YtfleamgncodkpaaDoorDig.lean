/- The table of powers of ten; decimal forms. words: plain words of lists of numbers. No condition. -/
import Derived.Test.YtfleamgncodkpaaDoorApp
import Derived.Test.YtfleamgncodkpaaDoorShelf
import Derived.Lib.ItoaLen
import Derived.WalkSmall
namespace Go.Proofs.YtfleamgncodkpaaDoor
open Go.RowKit
/-- the table of powers of ten is as laid -/
def Pow (w : World) : Prop := Lib.TabIs Tryd.prog w "internal/strconv.uint64pow10" .u64 Lib.pow10Tab
theorem pow_global : Tryd.prog.globalNamed "internal/strconv.uint64pow10" = some 2 := by kernel_rfl
theorem var_lt {P : Program} {w : World} {n : String} {g : Nat} {cs : Array Value} (hg : P.globalNamed n = some g) (h : w.var? P n = some cs) : g < w.heap.size := by
  unfold World.var? at h
  simp only [hg, Option.bind_some] at h
  rcases Nat.lt_or_ge g w.heap.size with h' | h'
  · exact h'
  · rw [Array.getElem?_eq_none h'] at h; simp at h
theorem Pow.below {w0 w : World} (h : Pow w0) (hb : Below w0.heap.size w0 w) : Pow w := var?_below hb pow_global (var_lt pow_global h) h
theorem Pow.drew {w : World} (h : Pow w) : Pow w.drew := h
theorem grow_below (w : World) (k : Nat) (os : Array Obj) : Below w.heap.size w (Sort.grow (w.drewN k) os) := by
  refine ⟨rfl, rfl, rfl, ?_, fun b hb => ?_⟩
  · show w.heap.size ≤ (w.heap ++ os).size
    rw [Array.size_append]; omega
  · show (w.heap ++ os)[b]? = w.heap[b]?
    rw [Array.getElem?_append_left hb]
abbrev Dg (n : Int) : ByteArray := ⟨(Lib.itoa n).toArray⟩
theorem Dg_size (n : Int) (h0 : -9223372036854775808 ≤ n) (h1 : n ≤ 9223372036854775807) : (Dg n).size ≤ 21 := by
  show (Lib.itoa n).toArray.size ≤ 21
  rw [List.size_toArray]
  exact Lib.itoa_length_le n h0 h1
theorem itoa_ (n : Int) (h0 : -9223372036854775808 ≤ n) (h1 : n ≤ 9223372036854775807) (w : World) (hP : Pow w) :
    Calls Tryd.prog 23 #[.int .i64 n] w fun e w' => e = .returned (.string (Dg n)) ∧ Below w.heap.size w w' :=
  (Tryd.strconv_Itoa n h0 h1 w hP).mono fun _ _ ⟨h, k, os, h2⟩ => by subst h2; exact ⟨h, grow_below _ _ _⟩
end Go.Proofs.YtfleamgncodkpaaDoor
namespace Go.Proofs.YtfleamgncodkpaaDoor
open Go.RowKit
--BEGIN
def dgL (n : Int) : List UInt8 := Lib.itoa n
/-- how many numbers go on behind a without a gap -/
def runN (a : Int) : List Int → Nat
  | [] => 0
  | x :: r => if x = a + 1 then runN x r + 1 else 0
theorem runN_le (l : List Int) : ∀ a, runN a l ≤ l.length := by
  induction l with
  | nil => intro a; exact Nat.le_refl _
  | cons x r ih =>
    intro a
    unfold runN
    have := ih x
    split <;> simp <;> omega
def runTx (out : List UInt8) (a : Int) (m : Nat) : List UInt8 := out ++ (if out = [] then [] else [44]) ++ dgL a ++ (if m = 0 then [] else 45 :: dgL (a + m))
def lsT : Nat → List UInt8 → List Int → List UInt8
  | 0, out, _ => out
  | _ + 1, out, [] => out
  | n + 1, out, a :: r => lsT n (runTx out a (runN a r)) (r.drop (runN a r))
theorem lsT_fuel : ∀ (n k : Nat) (out : List UInt8) (l : List Int), l.length ≤ n → l.length ≤ k → lsT n out l = lsT k out l := by
  intro n
  induction n with
  | zero =>
    intro k out l h _
    cases l with
    | nil => cases k <;> rfl
    | cons x r => simp at h
  | succ n ih =>
    intro k out l h h2
    cases l with
    | nil => cases k <;> rfl
    | cons x r =>
      obtain ⟨k, rfl⟩ : ∃ k', k = k' + 1 := ⟨k - 1, by simp at h2; omega⟩
      simp only [lsT]
      exact ih _ _ _ (by simp at h ⊢; omega) (by simp at h2 ⊢; omega)
/-- the text of the rest behind what is written -/
def lsL (out : List UInt8) (l : List Int) : List UInt8 := lsT l.length out l
theorem lsL_nil (out : List UInt8) : lsL out [] = out := rfl
theorem lsL_cons (out : List UInt8) (a : Int) (r : List Int) : lsL out (a :: r) = lsL (runTx out a (runN a r)) (r.drop (runN a r)) := by
  show lsT (r.length + 1) out (a :: r) = _
  simp only [lsT]
  exact lsT_fuel _ _ _ _ (by simp) (Nat.le_refl _)
def ascB : List Int → Bool
  | a :: b :: r => decide (a < b) && ascB (b :: r)
  | _ => true
def rngB (l : List Int) : Bool := l.all fun x => decide (0 ≤ x ∧ x ≤ 1000000000)
def listL (l : List Int) : List UInt8 × Int :=
  if 500 < l.length then ([], 3) else if rngB l = false then ([], 7) else if ascB l = false then ([], 6) else if l = [] then ([45], 0) else (lsL [] l, 0)
theorem ascB_snoc (l : List Int) (y x : Int) : ascB (l ++ [y] ++ [x]) = (ascB (l ++ [y]) && decide (y < x)) := by
  induction l with
  | nil => simp [ascB]
  | cons a r ih =>
    cases r with
    | nil => simp [ascB]
    | cons b t =>
      simp only [List.cons_append, ascB] at ih ⊢
      rw [ih, Bool.and_assoc]
theorem ascB_one (l : List Int) (h : l.length ≤ 1) : ascB l = true := by
  match l with
  | [] => rfl
  | [_] => rfl
  | _ :: _ :: _ => simp at h
/-- the step of the test at place k -/
theorem ascB_take {l : List Int} {k : Nat} {y x : Int} (hk : l[k]? = some y) (hk1 : l[k + 1]? = some x) : ascB (l.take (k + 2)) = (ascB (l.take (k + 1)) && decide (y < x)) := by
  have h1 : l.take (k + 1) = l.take k ++ [y] := by rw [List.take_add_one, hk]; rfl
  have h2 : l.take (k + 2) = l.take k ++ [y] ++ [x] := by rw [List.take_add_one, hk1, h1]; rfl
  rw [h2, h1, ascB_snoc]
theorem ascB_mono {l : List Int} {k : Nat} (h : ascB l = true) : ascB (l.take k) = true := by
  induction l generalizing k with
  | nil => simp [ascB]
  | cons a r ih =>
    cases k with
    | zero => rfl
    | succ k =>
      cases r with
      | nil => simp [ascB]
      | cons b t =>
        cases k with
        | zero => rfl
        | succ k =>
          simp only [ascB, Bool.and_eq_true] at h
          have := ih (k := k + 1) h.2
          simp only [List.take_succ_cons, ascB] at this ⊢
          rw [h.1, this]; rfl
theorem rngB_at {l : List Int} (h : rngB l = true) {k : Nat} {x : Int} (hk : l[k]? = some x) : 0 ≤ x ∧ x ≤ 1000000000 := by
  have := List.all_eq_true.1 h x (List.mem_of_getElem? hk)
  simpa using this
theorem rngB_no {l : List Int} {k : Nat} {x : Int} (hk : l[k]? = some x) (hx : ¬ (0 ≤ x ∧ x ≤ 1000000000)) : rngB l = false := by
  unfold rngB
  rw [List.all_eq_false]
  exact ⟨x, List.mem_of_getElem? hk, by simpa using hx⟩
theorem rngB_step {l : List Int} {k : Nat} {x : Int} (h : rngB (l.take k) = true) (hk : l[k]? = some x) (hx : 0 ≤ x ∧ x ≤ 1000000000) : rngB (l.take (k + 1)) = true := by
  unfold rngB at h ⊢
  rw [List.take_add_one, hk, List.all_append, h]
  simp [hx]
/-- m numbers go on behind the one at place q -/
def RunAt (l : List Int) (q m : Nat) (a : Int) : Prop := l[q]? = some a ∧ q + m < l.length ∧ l[q + m]? = some (a + m) ∧ runN a (l.drop (q + 1)) = m + runN (a + m) (l.drop (q + m + 1))
theorem RunAt.start {l : List Int} {q : Nat} {a : Int} (h : l[q]? = some a) : RunAt l q 0 a := by
  have := (List.getElem?_eq_some_iff.1 h).1
  exact ⟨h, by omega, by simpa using h, by simp⟩
theorem RunAt.next {l : List Int} {q m : Nat} {a : Int} (h : RunAt l q m a) {x : Int} (hx : l[q + m + 1]? = some x) (he : x = a + m + 1) : RunAt l q (m + 1) a := by
  subst he
  have hl := (List.getElem?_eq_some_iff.1 hx).1
  obtain ⟨h1, h2, h3, h4⟩ := h
  refine ⟨h1, by omega, ?_, ?_⟩
  · have e : q + (m + 1) = q + m + 1 := by omega
    rw [e, hx]; congr 1; push_cast; omega
  · rw [h4]
    have hd : l.drop (q + m + 1) = (a + m + 1) :: l.drop (q + m + 2) := by
      rw [List.drop_eq_getElem_cons hl, (List.getElem?_eq_some_iff.1 hx).2]
    rw [hd]
    have e : q + (m + 1) + 1 = q + m + 2 := by omega
    rw [e]
    conv => lhs; unfold runN
    rw [if_pos rfl]
    have e2 : a + (m : Int) + 1 = a + ((m + 1 : Nat) : Int) := by push_cast; omega
    rw [e2]
    omega
theorem RunAt.stop {l : List Int} {q m : Nat} {a : Int} (h : RunAt l q m a) (hx : ∀ x, l[q + m + 1]? = some x → x ≠ a + m + 1) : runN a (l.drop (q + 1)) = m := by
  rw [h.2.2.2]
  rcases hd : l[q + m + 1]? with _ | x
  · rw [List.drop_eq_nil_of_le (by simpa using hd)]; rfl
  · have hl := (List.getElem?_eq_some_iff.1 hd).1
    rw [List.drop_eq_getElem_cons hl, (List.getElem?_eq_some_iff.1 hd).2]
    unfold runN
    rw [if_neg (hx x hd)]; rfl
/-- behind a run the text goes on behind it -/
theorem lsL_run {l : List Int} {q m : Nat} {a : Int} {out : List UInt8} (h : RunAt l q m a) (hm : runN a (l.drop (q + 1)) = m) : lsL out (l.drop q) = lsL (runTx out a m) (l.drop (q + m + 1)) := by
  have hl := (List.getElem?_eq_some_iff.1 h.1)
  rw [List.drop_eq_getElem_cons hl.1, hl.2, lsL_cons, hm, List.drop_drop]
  congr 2; omega
theorem runTx_len (out : List UInt8) (a : Int) (m : Nat) (D : Nat) (h1 : (dgL a).length ≤ D) (h2 : (dgL (a + m)).length ≤ D) : (runTx out a m).length ≤ out.length + 2 * D + 2 := by
  unfold runTx
  simp only [List.length_append]
  split <;> split <;> simp <;> omega
theorem runTx_ne (out : List UInt8) (a : Int) (m : Nat) (h : dgL a ≠ []) : runTx out a m ≠ [] := by
  unfold runTx
  intro e
  simp only [List.append_eq_nil_iff] at e
  exact h e.1.2
theorem listL_long {l : List Int} (h : 500 < l.length) : listL l = ([], 3) := if_pos h
theorem listL_rng {l : List Int} (h : ¬ 500 < l.length) (h2 : rngB l = false) : listL l = ([], 7) := by unfold listL; rw [if_neg h, if_pos h2]
theorem listL_asc {l : List Int} (h : ¬ 500 < l.length) (h2 : rngB l = true) (h3 : ascB l = false) : listL l = ([], 6) := by unfold listL; rw [if_neg h, if_neg (by simp [h2]), if_pos h3]
theorem listL_nil : listL [] = ([45], 0) := by decide
theorem listL_ok {l : List Int} (h : ¬ 500 < l.length) (h2 : rngB l = true) (h3 : ascB l = true) (h4 : l ≠ []) : listL l = (lsL [] l, 0) := by unfold listL; rw [if_neg h, if_neg (by simp [h2]), if_neg (by simp [h3]), if_neg h4]
--END
end Go.Proofs.YtfleamgncodkpaaDoor
