/- The table of powers of ten; decimal forms. words: plain words of lists of numbers. No condition. Decimal forms and numbers: plain laws. No condition. -/
import Derived.Test.YtcopnpllaoahaaaGreatDoorApp
import Derived.Test.YtcopnpllaoahaaaGreatDoorShelf
import Derived.Lib.ItoaLen
import Derived.WalkSmall
import Derived.Test.YtcopnpllaoahaaaGreatDoorN1
import Derived.Lib.ItoaMem
import Derived.Lib.AtoiTie
namespace Go.Proofs.YtcopnpllaoahaaaGreatDoor
open Go.RowKit
/-- the table of powers of ten is as laid -/
def Pow (w : World) : Prop := Lib.TabIs Tryz.prog w "internal/strconv.uint64pow10" .u64 Lib.pow10Tab
theorem pow_global : Tryz.prog.globalNamed "internal/strconv.uint64pow10" = some 5 := by kernel_rfl
theorem var_lt {P : Program} {w : World} {n : String} {g : Nat} {cs : Array Value} (hg : P.globalNamed n = some g) (h : w.var? P n = some cs) : g < w.heap.size := by
  unfold World.var? at h
  simp only [hg, Option.bind_some] at h
  rcases Nat.lt_or_ge g w.heap.size with h' | h'
  · exact h'
  · rw [Array.getElem?_eq_none h'] at h; simp at h
theorem Pow.below {w0 w : World} (h : Pow w0) (hb : Below w0.heap.size w0 w) : Pow w := var?_below hb pow_global (var_lt pow_global h) h
theorem Pow.drew {w : World} (h : Pow w) : Pow w.drew := h
theorem grow_below (w : World) (k : Nat) (os : Array Obj) : Below w.heap.size w (Sort.grow (w.drewN k) os) := by
  refine ⟨rfl, rfl, rfl, ?_, fun b hb => ?_⟩
  · show w.heap.size ≤ (w.heap ++ os).size
    rw [Array.size_append]; omega
  · show (w.heap ++ os)[b]? = w.heap[b]?
    rw [Array.getElem?_append_left hb]
abbrev Dg (n : Int) : ByteArray := ⟨(Lib.itoa n).toArray⟩
theorem Dg_size (n : Int) (h0 : -9223372036854775808 ≤ n) (h1 : n ≤ 9223372036854775807) : (Dg n).size ≤ 21 := by
  show (Lib.itoa n).toArray.size ≤ 21
  rw [List.size_toArray]
  exact Lib.itoa_length_le n h0 h1
theorem itoa_ (n : Int) (h0 : -9223372036854775808 ≤ n) (h1 : n ≤ 9223372036854775807) (w : World) (hP : Pow w) :
    Calls Tryz.prog 84 #[.int .i64 n] w fun e w' => e = .returned (.string (Dg n)) ∧ Below w.heap.size w w' :=
  (Tryz.strconv_Itoa n h0 h1 w hP).mono fun _ _ ⟨h, k, os, h2⟩ => by subst h2; exact ⟨h, grow_below _ _ _⟩
end Go.Proofs.YtcopnpllaoahaaaGreatDoor
namespace Go.Proofs.YtcopnpllaoahaaaGreatDoor
open Go.RowKit
--BEGIN
def dgL (n : Int) : List UInt8 := Lib.itoa n
/-- how many numbers go on behind a without a gap -/
def runN (a : Int) : List Int → Nat
  | [] => 0
  | x :: r => if x = a + 1 then runN x r + 1 else 0
theorem runN_le (l : List Int) : ∀ a, runN a l ≤ l.length := by
  induction l with
  | nil => intro a; exact Nat.le_refl _
  | cons x r ih =>
    intro a
    unfold runN
    have := ih x
    split <;> simp <;> omega
def runTx (out : List UInt8) (a : Int) (m : Nat) : List UInt8 := out ++ (if out = [] then [] else [44]) ++ dgL a ++ (if m = 0 then [] else 45 :: dgL (a + m))
def lsT : Nat → List UInt8 → List Int → List UInt8
  | 0, out, _ => out
  | _ + 1, out, [] => out
  | n + 1, out, a :: r => lsT n (runTx out a (runN a r)) (r.drop (runN a r))
theorem lsT_fuel : ∀ (n k : Nat) (out : List UInt8) (l : List Int), l.length ≤ n → l.length ≤ k → lsT n out l = lsT k out l := by
  intro n
  induction n with
  | zero =>
    intro k out l h _
    cases l with
    | nil => cases k <;> rfl
    | cons x r => simp at h
  | succ n ih =>
    intro k out l h h2
    cases l with
    | nil => cases k <;> rfl
    | cons x r =>
      obtain ⟨k, rfl⟩ : ∃ k', k = k' + 1 := ⟨k - 1, by simp at h2; omega⟩
      simp only [lsT]
      exact ih _ _ _ (by simp at h ⊢; omega) (by simp at h2 ⊢; omega)
/-- the text of the rest behind what is written -/
def lsL (out : List UInt8) (l : List Int) : List UInt8 := lsT l.length out l
theorem lsL_nil (out : List UInt8) : lsL out [] = out := rfl
theorem lsL_cons (out : List UInt8) (a : Int) (r : List Int) : lsL out (a :: r) = lsL (runTx out a (runN a r)) (r.drop (runN a r)) := by
  show lsT (r.length + 1) out (a :: r) = _
  simp only [lsT]
  exact lsT_fuel _ _ _ _ (by simp) (Nat.le_refl _)
def ascB : List Int → Bool
  | a :: b :: r => decide (a < b) && ascB (b :: r)
  | _ => true
def rngB (l : List Int) : Bool := l.all fun x => decide (0 ≤ x ∧ x ≤ 1000000000)
def listL (l : List Int) : List UInt8 × Int :=
  if 500 < l.length then ([], 3) else if rngB l = false then ([], 7) else if ascB l = false then ([], 6) else if l = [] then ([45], 0) else (lsL [] l, 0)
theorem ascB_snoc (l : List Int) (y x : Int) : ascB (l ++ [y] ++ [x]) = (ascB (l ++ [y]) && decide (y < x)) := by
  induction l with
  | nil => simp [ascB]
  | cons a r ih =>
    cases r with
    | nil => simp [ascB]
    | cons b t =>
      simp only [List.cons_append, ascB] at ih ⊢
      rw [ih, Bool.and_assoc]
theorem ascB_one (l : List Int) (h : l.length ≤ 1) : ascB l = true := by
  match l with
  | [] => rfl
  | [_] => rfl
  | _ :: _ :: _ => simp at h
/-- the step of the test at place k -/
theorem ascB_take {l : List Int} {k : Nat} {y x : Int} (hk : l[k]? = some y) (hk1 : l[k + 1]? = some x) : ascB (l.take (k + 2)) = (ascB (l.take (k + 1)) && decide (y < x)) := by
  have h1 : l.take (k + 1) = l.take k ++ [y] := by rw [List.take_add_one, hk]; rfl
  have h2 : l.take (k + 2) = l.take k ++ [y] ++ [x] := by rw [List.take_add_one, hk1, h1]; rfl
  rw [h2, h1, ascB_snoc]
theorem ascB_mono {l : List Int} {k : Nat} (h : ascB l = true) : ascB (l.take k) = true := by
  induction l generalizing k with
  | nil => simp [ascB]
  | cons a r ih =>
    cases k with
    | zero => rfl
    | succ k =>
      cases r with
      | nil => simp [ascB]
      | cons b t =>
        cases k with
        | zero => rfl
        | succ k =>
          simp only [ascB, Bool.and_eq_true] at h
          have := ih (k := k + 1) h.2
          simp only [List.take_succ_cons, ascB] at this ⊢
          rw [h.1, this]; rfl
theorem rngB_at {l : List Int} (h : rngB l = true) {k : Nat} {x : Int} (hk : l[k]? = some x) : 0 ≤ x ∧ x ≤ 1000000000 := by
  have := List.all_eq_true.1 h x (List.mem_of_getElem? hk)
  simpa using this
theorem rngB_no {l : List Int} {k : Nat} {x : Int} (hk : l[k]? = some x) (hx : ¬ (0 ≤ x ∧ x ≤ 1000000000)) : rngB l = false := by
  unfold rngB
  rw [List.all_eq_false]
  exact ⟨x, List.mem_of_getElem? hk, by simpa using hx⟩
theorem rngB_step {l : List Int} {k : Nat} {x : Int} (h : rngB (l.take k) = true) (hk : l[k]? = some x) (hx : 0 ≤ x ∧ x ≤ 1000000000) : rngB (l.take (k + 1)) = true := by
  unfold rngB at h ⊢
  rw [List.take_add_one, hk, List.all_append, h]
  simp [hx]
/-- m numbers go on behind the one at place q -/
def RunAt (l : List Int) (q m : Nat) (a : Int) : Prop := l[q]? = some a ∧ q + m < l.length ∧ l[q + m]? = some (a + m) ∧ runN a (l.drop (q + 1)) = m + runN (a + m) (l.drop (q + m + 1))
theorem RunAt.start {l : List Int} {q : Nat} {a : Int} (h : l[q]? = some a) : RunAt l q 0 a := by
  have := (List.getElem?_eq_some_iff.1 h).1
  exact ⟨h, by omega, by simpa using h, by simp⟩
theorem RunAt.next {l : List Int} {q m : Nat} {a : Int} (h : RunAt l q m a) {x : Int} (hx : l[q + m + 1]? = some x) (he : x = a + m + 1) : RunAt l q (m + 1) a := by
  subst he
  have hl := (List.getElem?_eq_some_iff.1 hx).1
  obtain ⟨h1, h2, h3, h4⟩ := h
  refine ⟨h1, by omega, ?_, ?_⟩
  · have e : q + (m + 1) = q + m + 1 := by omega
    rw [e, hx]; congr 1; push_cast; omega
  · rw [h4]
    have hd : l.drop (q + m + 1) = (a + m + 1) :: l.drop (q + m + 2) := by
      rw [List.drop_eq_getElem_cons hl, (List.getElem?_eq_some_iff.1 hx).2]
    rw [hd]
    have e : q + (m + 1) + 1 = q + m + 2 := by omega
    rw [e]
    conv => lhs; unfold runN
    rw [if_pos rfl]
    have e2 : a + (m : Int) + 1 = a + ((m + 1 : Nat) : Int) := by push_cast; omega
    rw [e2]
    omega
theorem RunAt.stop {l : List Int} {q m : Nat} {a : Int} (h : RunAt l q m a) (hx : ∀ x, l[q + m + 1]? = some x → x ≠ a + m + 1) : runN a (l.drop (q + 1)) = m := by
  rw [h.2.2.2]
  rcases hd : l[q + m + 1]? with _ | x
  · rw [List.drop_eq_nil_of_le (by simpa using hd)]; rfl
  · have hl := (List.getElem?_eq_some_iff.1 hd).1
    rw [List.drop_eq_getElem_cons hl, (List.getElem?_eq_some_iff.1 hd).2]
    unfold runN
    rw [if_neg (hx x hd)]; rfl
/-- behind a run the text goes on behind it -/
theorem lsL_run {l : List Int} {q m : Nat} {a : Int} {out : List UInt8} (h : RunAt l q m a) (hm : runN a (l.drop (q + 1)) = m) : lsL out (l.drop q) = lsL (runTx out a m) (l.drop (q + m + 1)) := by
  have hl := (List.getElem?_eq_some_iff.1 h.1)
  rw [List.drop_eq_getElem_cons hl.1, hl.2, lsL_cons, hm, List.drop_drop]
  congr 2; omega
theorem runTx_len (out : List UInt8) (a : Int) (m : Nat) (D : Nat) (h1 : (dgL a).length ≤ D) (h2 : (dgL (a + m)).length ≤ D) : (runTx out a m).length ≤ out.length + 2 * D + 2 := by
  unfold runTx
  simp only [List.length_append]
  split <;> split <;> simp <;> omega
theorem runTx_ne (out : List UInt8) (a : Int) (m : Nat) (h : dgL a ≠ []) : runTx out a m ≠ [] := by
  unfold runTx
  intro e
  simp only [List.append_eq_nil_iff] at e
  exact h e.1.2
theorem listL_long {l : List Int} (h : 500 < l.length) : listL l = ([], 3) := if_pos h
theorem listL_rng {l : List Int} (h : ¬ 500 < l.length) (h2 : rngB l = false) : listL l = ([], 7) := by unfold listL; rw [if_neg h, if_pos h2]
theorem listL_asc {l : List Int} (h : ¬ 500 < l.length) (h2 : rngB l = true) (h3 : ascB l = false) : listL l = ([], 6) := by unfold listL; rw [if_neg h, if_neg (by simp [h2]), if_pos h3]
theorem listL_nil : listL [] = ([45], 0) := by decide
theorem listL_ok {l : List Int} (h : ¬ 500 < l.length) (h2 : rngB l = true) (h3 : ascB l = true) (h4 : l ≠ []) : listL l = (lsL [] l, 0) := by unfold listL; rw [if_neg h, if_neg (by simp [h2]), if_neg (by simp [h3]), if_neg h4]
--END
end Go.Proofs.YtcopnpllaoahaaaGreatDoor
namespace Go.Proofs.YtcopnpllaoahaaaGreatDoor
open Go.RowKit
theorem natF_acc (l : List UInt8) : ∀ acc, natF acc l = acc * 10 ^ l.length + natF 0 l := by
  induction l with
  | nil => intro acc; simp [natF]
  | cons x r ih =>
    intro acc
    have e1 : natF acc (x :: r) = natF (10 * acc + (x.toNat - 48)) r := rfl
    have e2 : natF 0 (x :: r) = natF (10 * 0 + (x.toNat - 48)) r := rfl
    rw [e1, e2, ih, ih (10 * 0 + (x.toNat - 48)), List.length_cons, Nat.pow_succ, Nat.add_mul, Nat.add_mul]
    rw [show 10 * acc * 10 ^ r.length = acc * (10 ^ r.length * 10) by rw [Nat.mul_comm 10 acc, Nat.mul_assoc, Nat.mul_comm 10]]
    omega
theorem natF_lt {l : List UInt8} (h : l.all digB = true) : natF 0 l < 10 ^ l.length := by
  induction l with
  | nil => simp [natF]
  | cons x r ih =>
    rw [List.all_cons, Bool.and_eq_true] at h
    have hx := (digB_iff x).1 h.1
    have e2 : natF 0 (x :: r) = natF (10 * 0 + (x.toNat - 48)) r := rfl
    have := ih h.2
    rw [e2, natF_acc, List.length_cons, Nat.pow_succ]
    have h2 : (10 * 0 + (x.toNat - 48)) * 10 ^ r.length ≤ 9 * 10 ^ r.length := Nat.mul_le_mul_right _ (by omega)
    omega
theorem lt_mul {X Y p A : Nat} (h : X < Y) (hA : A < p) (B : Nat) : X * p + A < Y * p + B := by
  obtain ⟨d, rfl⟩ : ∃ d, Y = X + 1 + d := ⟨Y - X - 1, by omega⟩
  rw [Nat.add_mul (X + 1) d, Nat.add_mul X 1, Nat.one_mul]
  omega
theorem digs_ge {l : List UInt8} (h : digsL l = true) (h1 : 1 < l.length) : 10 ^ (l.length - 1) ≤ natL l := by
  match l, h1 with
  | x :: y :: r, _ =>
    have ha := (digsL_all h).1
    rw [List.all_cons, Bool.and_eq_true] at ha
    have hx := (digB_iff x).1 ha.1
    have hx2 : x ≠ 48 := by
      unfold digsL at h
      rw [Bool.and_eq_true] at h
      simpa using h.2
    have hx3 : x.toNat ≠ 48 := fun e => hx2 (UInt8.toNat_inj.1 e)
    have e1 : natL (x :: y :: r) = natF (10 * 0 + (x.toNat - 48)) (y :: r) := rfl
    rw [e1, natF_acc]
    have : 1 * 10 ^ (y :: r).length ≤ (10 * 0 + (x.toNat - 48)) * 10 ^ (y :: r).length := Nat.mul_le_mul_right _ (by omega)
    simp only [List.length_cons] at this ⊢
    have e3 : r.length + 1 + 1 - 1 = r.length + 1 := by omega
    rw [e3]; omega
theorem digs_lt {l : List UInt8} (h : digsL l = true) : natL l < 10 ^ l.length := natF_lt (digsL_all h).1
theorem digs_len_lt {a b : List UInt8} (ha : digsL a = true) (hb : digsL b = true) (h : a.length < b.length) : natL a < natL b := by
  have h0 : 0 < a.length := List.length_pos_iff.2 (digsL_all ha).2
  have h1 := digs_lt ha
  have h2 := digs_ge hb (by omega)
  have h3 : 10 ^ a.length ≤ 10 ^ (b.length - 1) := Nat.pow_le_pow_right (by decide) (by omega)
  omega
theorem digsL_of {l : List UInt8} (h : l.all digB = true) (h0 : l ≠ []) (h1 : ∀ x y r, l = x :: y :: r → x ≠ 48) : digsL l = true := by
  unfold digsL
  rw [h]
  match l, h0 with
  | [x], _ => rfl
  | x :: y :: r, _ =>
    have := h1 x y r rfl
    simpa using this
theorem natF_inj : ∀ (a b : List UInt8), a.length = b.length → a.all digB = true → b.all digB = true → natF 0 a = natF 0 b → a = b
  | [], [], _, _, _, _ => rfl
  | [], _ :: _, h, _, _, _ => by simp at h
  | _ :: _, [], h, _, _, _ => by simp at h
  | x :: a, y :: b, h, ha, hb, hn => by
    rw [List.all_cons, Bool.and_eq_true] at ha hb
    have hx := (digB_iff x).1 ha.1
    have hy := (digB_iff y).1 hb.1
    have hl : a.length = b.length := by simpa using h
    have e1 : natF 0 (x :: a) = natF (10 * 0 + (x.toNat - 48)) a := rfl
    have e2 : natF 0 (y :: b) = natF (10 * 0 + (y.toNat - 48)) b := rfl
    have la := natF_lt ha.2
    have lb := natF_lt hb.2
    rw [e1, e2, natF_acc, natF_acc b, hl] at hn
    rw [hl] at la
    have ih := natF_inj a b hl ha.2 hb.2
    generalize hp : 10 ^ b.length = p at *
    have hxy : x.toNat = y.toNat := by
      rcases Nat.lt_trichotomy x.toNat y.toNat with h1 | h1 | h1
      · exfalso
        have := lt_mul (X := 10 * 0 + (x.toNat - 48)) (Y := 10 * 0 + (y.toNat - 48)) (by omega) la (natF 0 b)
        omega
      · exact h1
      · exfalso
        have := lt_mul (X := 10 * 0 + (y.toNat - 48)) (Y := 10 * 0 + (x.toNat - 48)) (by omega) lb (natF 0 a)
        omega
    rw [hxy] at hn
    rw [UInt8.toNat_inj.1 hxy, ih (by omega)]
/-- a number has one form -/
theorem digs_inj {a b : List UInt8} (ha : digsL a = true) (hb : digsL b = true) (h : natL a = natL b) : a = b := by
  rcases Nat.lt_trichotomy a.length b.length with h1 | h1 | h1
  · have := digs_len_lt ha hb h1; omega
  · exact natF_inj a b h1 (digsL_all ha).1 (digsL_all hb).1 h
  · have := digs_len_lt hb ha h1; omega
theorem digB_of (d : Nat) (h : d < 10) : digB (UInt8.ofNat (48 + d)) = true ∧ (UInt8.ofNat (48 + d)).toNat = 48 + d := by
  have e : (UInt8.ofNat (48 + d)).toNat = 48 + d := by simp; omega
  exact ⟨(digB_iff _).2 (by omega), e⟩
theorem dec_parts (u : Nat) : (Lib.decDigits u).all digB = true ∧ natF 0 (Lib.decDigits u) = u ∧ (0 < u → ∃ x r, Lib.decDigits u = x :: r ∧ x ≠ 48) ∧ Lib.decDigits u ≠ [] ∧ (u < 10 → (Lib.decDigits u).length = 1) := by
  induction u using Nat.strongRecOn with
  | _ u ih =>
    by_cases h : u < 10
    · have e := Lib.decDigits_one h
      obtain ⟨h1, h2⟩ := digB_of u h
      rw [e]
      refine ⟨by rw [List.all_cons, h1]; rfl, ?_, fun h0 => ⟨_, [], rfl, ?_⟩, by simp, fun _ => rfl⟩
      · show 10 * 0 + ((UInt8.ofNat (48 + u)).toNat - 48) = u
        omega
      · intro e2
        have := congrArg UInt8.toNat e2
        rw [h2] at this
        have h48 : (48 : UInt8).toNat = 48 := rfl
        omega
    · have e : Lib.decDigits u = Lib.decDigits (u / 10) ++ [UInt8.ofNat (48 + u % 10)] := by rw [Lib.decDigits, dif_neg h]
      obtain ⟨h1, h2, h3, h4, _⟩ := ih (u / 10) (by omega)
      obtain ⟨k1, k2⟩ := digB_of (u % 10) (Nat.mod_lt _ (by omega))
      rw [e]
      refine ⟨by rw [List.all_append, h1, List.all_cons, k1]; rfl, ?_, fun _ => ?_, by simp, fun h' => absurd h' h⟩
      · rw [natF_snoc, h2, k2]; omega
      · obtain ⟨x, r, hx, hx2⟩ := h3 (by omega)
        exact ⟨x, r ++ [UInt8.ofNat (48 + u % 10)], by rw [hx]; rfl, hx2⟩
theorem dec_digs (u : Nat) : digsL (Lib.decDigits u) = true ∧ natL (Lib.decDigits u) = u := by
  obtain ⟨h1, h2, h3, h4, h5⟩ := dec_parts u
  refine ⟨digsL_of h1 h4 (fun x y r e => ?_), h2⟩
  by_cases h : 0 < u
  · obtain ⟨x', r', hx, hx2⟩ := h3 h
    rw [hx] at e
    injection e with e1 _
    rw [← e1]; exact hx2
  · have := h5 (by omega)
    rw [e] at this
    simp at this
theorem digs_dec {a : List UInt8} (h : digsL a = true) : Lib.decDigits (natL a) = a := digs_inj (dec_digs _).1 h (dec_digs _).2
theorem dgL_nat (u : Nat) : dgL (u : Int) = Lib.decDigits u := Lib.itoa_nonneg u
theorem dgL_of {a : List UInt8} (h : digsL a = true) : dgL (natL a : Int) = a := by rw [dgL_nat, digs_dec h]
theorem digs_no45 {l : List UInt8} (h : digsL l = true) : (45 : UInt8) ∉ l := fun hm => (all_dig_ne (digsL_all h).1 45 hm).1 rfl
theorem digs_no44 {l : List UInt8} (h : digsL l = true) : (44 : UInt8) ∉ l := fun hm => by
  have := List.all_eq_true.1 (digsL_all h).1 44 hm
  exact absurd this (by decide)
theorem digs_decL {l : List UInt8} (h : digsL l = true) : decL l = true ∧ intL l = natL l := by
  have hn := digs_no45 h
  constructor
  · unfold decL
    split
    · exact absurd (by simp) hn
    · exact h
  · unfold intL
    split
    · exact absurd (by simp) hn
    · rfl
theorem decFrom_nat : ∀ (l : List UInt8) (acc : Nat), l.all digB = true → Lib.decFrom acc l = some (natF acc l)
  | [], _, _ => rfl
  | x :: r, acc, h => by
    rw [List.all_cons, Bool.and_eq_true] at h
    have hx := (digB_iff x).1 h.1
    unfold Lib.decFrom Lib.digitVal
    rw [if_pos hx]
    simp only
    rw [decFrom_nat r _ h.2, Nat.mul_comm acc 10]
    rfl
theorem digs_short {l : List UInt8} (h : digsL l = true) (h2 : natL l ≤ 1000000000) : l.length ≤ 10 := by
  rcases Nat.lt_or_ge 10 l.length with h1 | h1
  · exfalso
    have := digs_ge h (by omega)
    have h3 : 10 ^ 10 ≤ 10 ^ (l.length - 1) := Nat.pow_le_pow_right (by decide) (by omega)
    omega
  · exact h1
/-- Atoi of a form -/
theorem digs_atoi {l : List UInt8} (h : digsL l = true) (h2 : natL l ≤ 1000000000) : Lib.atoiAll l = .ok (natL l : Int) := by
  rw [Lib.atoiAll_short l (by have := digs_short h h2; omega)]
  obtain ⟨h3, h4⟩ := digsL_all h
  cases l with
  | nil => exact absurd rfl h4
  | cons c r =>
    have hc := all_dig_ne h3 c (by simp)
    have c1 : (c == 45) = false := by simpa using hc.1
    have c2 : (c == 43) = false := by simpa using hc.2
    unfold Lib.atoi
    simp only
    rw [c1, c2]
    simp only [Bool.false_eq_true, if_false]
    unfold Lib.decNat
    rw [List.isEmpty_cons, if_neg (by simp), decFrom_nat _ _ h3]
    rfl
theorem dec_of_neg {u : Nat} (h : 1 ≤ u) : decL (45 :: Lib.decDigits u) = true ∧ intL (45 :: Lib.decDigits u) = -(u : Int) := by
  obtain ⟨d1, d2⟩ := dec_digs u
  obtain ⟨x, r, hx, hx2⟩ := (dec_parts u).2.2.1 (by omega)
  refine ⟨?_, ?_⟩
  · rw [hx] at d1 ⊢
    show (digsL (x :: r) && !(x == 48)) = true
    rw [d1]
    simpa using hx2
  · show -(natL (Lib.decDigits u) : Int) = _
    rw [d2]
theorem int_digits (n : Int) : decL (dgL n) = true ∧ intL (dgL n) = n := by
  by_cases h : n < 0
  · obtain ⟨u, rfl⟩ : ∃ u : Nat, n = -(u : Int) := ⟨n.natAbs, by omega⟩
    have e : dgL (-(u : Int)) = 45 :: Lib.decDigits u := Lib.itoa_neg u (by omega)
    rw [e]
    exact dec_of_neg (by omega)
  · obtain ⟨u, rfl⟩ : ∃ u : Nat, n = (u : Int) := ⟨n.toNat, by omega⟩
    obtain ⟨d1, d2⟩ := dec_digs u
    rw [dgL_nat]
    obtain ⟨d3, d4⟩ := digs_decL d1
    exact ⟨d3, by rw [d4, d2]⟩
theorem intR_digits {n : Int} (h0 : -9223372036854775808 ≤ n) (h1 : n ≤ 9223372036854775807) : intR (dgL n) n n = (n, 0) := by
  obtain ⟨h2, h3⟩ := int_digits n
  unfold intR
  rw [if_neg (by simp [h2]), h3, if_neg (by omega)]
theorem digits_int {l : List UInt8} (h : decL l = true) : dgL (intL l) = l := by
  unfold decL at h
  split at h
  · rename_i x r
    rw [Bool.and_eq_true] at h
    have hx : x ≠ 48 := by simpa using h.2
    have hd := (digsL_all h.1).1
    have hxd := (digB_iff x).1 (List.all_eq_true.1 hd x (by simp))
    have hpos : 1 ≤ natL (x :: r) := by
      have e1 : natL (x :: r) = natF (10 * 0 + (x.toNat - 48)) r := rfl
      have hx3 : x.toNat ≠ 48 := fun e => hx (UInt8.toNat_inj.1 e)
      have := natF_ge r (10 * 0 + (x.toNat - 48))
      rw [e1]; omega
    show dgL (-(natL (x :: r) : Int)) = _
    have e : dgL (-(natL (x :: r) : Int)) = 45 :: Lib.decDigits (natL (x :: r)) := Lib.itoa_neg _ hpos
    rw [e, digs_dec h.1]
  · rw [(digs_decL h).2, dgL_of h]
end Go.Proofs.YtcopnpllaoahaaaGreatDoor
