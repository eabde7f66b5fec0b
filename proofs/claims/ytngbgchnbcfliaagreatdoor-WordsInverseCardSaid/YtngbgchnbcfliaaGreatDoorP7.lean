/- words: decimal forms in order, the next one; ParseList and List: plain words, they are inverse. No condition. -/
import Derived.Test.YtngbgchnbcfliaaGreatDoorP2
import Derived.Test.YtngbgchnbcfliaaGreatDoorPt
import Derived.Test.YtngbgchnbcfliaaGreatDoorPd
namespace Go.Proofs.YtngbgchnbcfliaaGreatDoor
open Go.RowKit
theorem cmp_same : ∀ (a b : List UInt8), a.length = b.length → a.all digB = true → b.all digB = true → (Lib.compareBytes a b < 0 ↔ natF 0 a < natF 0 b) ∧ (0 < Lib.compareBytes a b ↔ natF 0 b < natF 0 a)
  | [], [], _, _, _ => by simp [Lib.compareBytes]
  | [], _ :: _, h, _, _ => by simp at h
  | _ :: _, [], h, _, _ => by simp at h
  | x :: a, y :: b, h, ha, hb => by
    rw [List.all_cons, Bool.and_eq_true] at ha hb
    have hx := (digB_iff x).1 ha.1
    have hy := (digB_iff y).1 hb.1
    have hl : a.length = b.length := by simpa using h
    have ih := cmp_same a b hl ha.2 hb.2
    have e1 : natF 0 (x :: a) = natF (10 * 0 + (x.toNat - 48)) a := rfl
    have e2 : natF 0 (y :: b) = natF (10 * 0 + (y.toNat - 48)) b := rfl
    have la := natF_lt ha.2
    have lb := natF_lt hb.2
    rw [e1, e2, natF_acc, natF_acc b, hl]
    rw [hl] at la
    unfold Lib.compareBytes
    generalize hp : 10 ^ b.length = p at *
    by_cases h1 : x < y
    · rw [if_pos h1]
      have h1' : x.toNat < y.toNat := h1
      have := lt_mul (X := 10 * 0 + (x.toNat - 48)) (Y := 10 * 0 + (y.toNat - 48)) (by omega) la (natF 0 b)
      constructor <;> constructor <;> intro _ <;> omega
    · rw [if_neg h1]
      by_cases h2 : y < x
      · rw [if_pos h2]
        have h2' : y.toNat < x.toNat := h2
        have := lt_mul (X := 10 * 0 + (y.toNat - 48)) (Y := 10 * 0 + (x.toNat - 48)) (by omega) lb (natF 0 a)
        constructor <;> constructor <;> intro _ <;> omega
      · rw [if_neg h2]
        have he : x.toNat = y.toNat := by
          have h1' : ¬ x.toNat < y.toNat := h1
          have h2' : ¬ y.toNat < x.toNat := h2
          omega
        rw [he]
        constructor
        · rw [ih.1]; constructor <;> intro _ <;> omega
        · rw [ih.2]; constructor <;> intro _ <;> omega
/-- compare is the order of the numbers -/
theorem cmp_nat {a b : List UInt8} (ha : digsL a = true) (hb : digsL b = true) : (cmpI a b < 0 ↔ natL a < natL b) ∧ (0 < cmpI a b ↔ natL b < natL a) := by
  unfold cmpI
  by_cases h : a.length = b.length
  · rw [if_pos h]; exact cmp_same a b h (digsL_all ha).1 (digsL_all hb).1
  · rw [if_neg h]
    by_cases h1 : a.length < b.length
    · have := digs_len_lt ha hb h1
      constructor <;> constructor <;> intro _ <;> omega
    · have := digs_len_lt hb ha (by omega)
      constructor <;> constructor <;> intro _ <;> omega
theorem natF_rep48 : ∀ (k acc : Nat), natF acc (List.replicate k 48) = acc * 10 ^ k
  | 0, acc => by simp [natF]
  | k + 1, acc => by
    have e1 : natF acc (List.replicate (k + 1) 48) = natF (10 * acc + 0) (List.replicate k 48) := rfl
    rw [e1, natF_rep48 k, Nat.pow_succ, Nat.add_zero, Nat.mul_comm 10 acc, Nat.mul_assoc, Nat.mul_comm 10]
theorem natF_rep57 : ∀ (k acc : Nat), natF acc (List.replicate k 57) + 1 = (acc + 1) * 10 ^ k
  | 0, acc => by simp [natF]
  | k + 1, acc => by
    have e1 : natF acc (List.replicate (k + 1) 57) = natF (10 * acc + 9) (List.replicate k 57) := rfl
    rw [e1, natF_rep57 k, Nat.pow_succ, show 10 * acc + 9 + 1 = (acc + 1) * 10 by omega, Nat.mul_assoc, Nat.mul_comm 10]
/-- the nines at the end taken off -/
theorem k9_split : ∀ (n : Nat) (l : List UInt8), l.length = n → ∃ p, l = p ++ List.replicate (k9 l) 57 ∧ (p = [] ∨ ∃ q c, p = q ++ [c] ∧ c ≠ 57) := by
  intro n
  induction n with
  | zero =>
    intro l h
    have := List.eq_nil_of_length_eq_zero h
    subst this
    exact ⟨[], rfl, .inl rfl⟩
  | succ n ih =>
    intro l h
    have hne : l ≠ [] := by rintro rfl; simp at h
    have hd := List.dropLast_concat_getLast hne
    generalize l.getLast hne = c at hd
    generalize hq : l.dropLast = q at hd
    have hl : q.length = n := by rw [← hq]; simp [h]
    subst hd
    by_cases hc : c = 57
    · subst hc
      obtain ⟨p, hp, hp2⟩ := ih q hl
      refine ⟨p, ?_, hp2⟩
      rw [k9_hit, List.replicate_succ', ← List.append_assoc, ← hp]
    · refine ⟨q ++ [c], ?_, .inr ⟨q, c, rfl, hc⟩⟩
      rw [k9_stop q hc]; simp
theorem rep48_all (k : Nat) : (List.replicate k (48 : UInt8)).all digB = true := by
  rw [List.all_eq_true]; intro c hc; rw [List.eq_of_mem_replicate hc]; rfl
/-- the next form is that of the next number -/
theorem next_nat {a : List UInt8} (h : digsL a = true) : digsL (nextL a) = true ∧ natL (nextL a) = natL a + 1 := by
  obtain ⟨hal, hne⟩ := digsL_all h
  obtain ⟨p, hp, hp2⟩ := k9_split _ a rfl
  generalize hk : k9 a = k at hp
  rcases hp2 with rfl | ⟨q, c, rfl, hc⟩
  · have hl : a.length = k := by rw [hp]; simp
    have hN : nextL a = 49 :: List.replicate k 48 := by unfold nextL; rw [hk, if_pos hl.symm]
    rw [hN]
    refine ⟨digsL_of (by rw [List.all_cons, rep48_all]; rfl) (by simp) (fun x y r e => by injection e with e _; subst e; decide), ?_⟩
    have e1 : natL (49 :: List.replicate k 48) = natF 1 (List.replicate k 48) := rfl
    rw [e1, natF_rep48, hp, List.nil_append, natL_eq, natF_rep57]
  · have hl : a.length = q.length + 1 + k := by rw [hp]; simp; omega
    have ix : a.length - 1 - k = q.length := by omega
    have hN : nextL a = q ++ [c + 1] ++ List.replicate k 48 := by
      unfold nextL
      rw [hk, if_neg (by omega), ix]
      have h1 : a.take q.length = q := by rw [hp, List.append_assoc, List.take_left]
      have h2 : a.getD q.length 0 = c := by rw [hp]; simp [List.getD_eq_getElem?_getD]
      rw [h1, h2]
    have hA := hal
    rw [hp, List.all_append, List.all_append, Bool.and_eq_true, Bool.and_eq_true] at hA
    have hcd : digB c = true := by simpa using hA.1.2
    have hc1 := (digB_iff c).1 hcd
    have hc2 : c.toNat ≠ 57 := fun e => hc (UInt8.toNat_inj.1 e)
    have hc3 : (c + 1).toNat = c.toNat + 1 := by
      rw [UInt8.toNat_add]; show (c.toNat + 1) % 256 = _; omega
    have hcd2 : digB (c + 1) = true := (digB_iff _).2 (by omega)
    rw [hN]
    refine ⟨digsL_of (by rw [List.all_append, List.all_append, rep48_all, hA.1.1]; simp [hcd2]) (by simp) (fun x y r e => ?_), ?_⟩
    · cases q with
      | nil =>
        simp at e
        intro e2
        have := congrArg UInt8.toNat (e.1.trans e2)
        rw [hc3] at this
        have h48 : (48 : UInt8).toNat = 48 := rfl
        omega
      | cons z t =>
        simp at e
        rw [← e.1]
        intro e2
        have hh := h
        rw [hp, e2] at hh
        unfold digsL at hh
        rw [Bool.and_eq_true] at hh
        cases t with
        | nil => simp at hh
        | cons _ _ => simp at hh
    · have e1 : natL (q ++ [c + 1] ++ List.replicate k 48) = natF (natF (natF 0 q) [c + 1]) (List.replicate k 48) := by rw [natL_eq, natF_app, natF_app]
      have e2 : natL a + 1 = natF (natF (natF 0 q) [c]) (List.replicate k 57) + 1 := by rw [natL_eq, hp, natF_app, natF_app]
      rw [e1, e2, natF_rep48, natF_rep57]
      have e3 : natF (natF 0 q) [c + 1] = 10 * natF 0 q + ((c + 1).toNat - 48) := rfl
      have e4 : natF (natF 0 q) [c] = 10 * natF 0 q + (c.toNat - 48) := rfl
      rw [e3, e4, hc3]
      congr 1
      omega
theorem follows_nat {a b : List UInt8} (ha : digsL a = true) (hb : digsL b = true) : cmpI (nextL a) b < 0 ↔ natL a + 1 < natL b := by
  obtain ⟨h1, h2⟩ := next_nat ha
  rw [(cmp_nat h1 hb).1, h2]
/-- a run: its two forms -/
def runP (r : List UInt8) : Option (List UInt8 × List UInt8) :=
  if (Lib.cut r [45]).2.2 = true then (if digsL (Lib.cut r [45]).1 = true ∧ digsL (Lib.cut r [45]).2.1 = true ∧ natL (Lib.cut r [45]).1 < natL (Lib.cut r [45]).2.1 then some ((Lib.cut r [45]).1, (Lib.cut r [45]).2.1) else none)
  else if digsL (Lib.cut r [45]).1 = true then some ((Lib.cut r [45]).1, (Lib.cut r [45]).1) else none
theorem runP_one {r : List UInt8} (h : (45 : UInt8) ∉ r) : runP r = if digsL r = true then some (r, r) else none := by
  unfold runP; rw [cut_no h]; simp
theorem runP_two {a t : List UInt8} (h : (45 : UInt8) ∉ a) : runP (a ++ 45 :: t) = if digsL a = true ∧ digsL t = true ∧ natL a < natL t then some (a, t) else none := by
  unfold runP; rw [cut_yes h]; simp
def txP (p : List UInt8 × List UInt8) : List UInt8 := if p.1 = p.2 then p.1 else p.1 ++ 45 :: p.2
theorem runP_some {r a b : List UInt8} (h : runP r = some (a, b)) : digsL a = true ∧ digsL b = true ∧ natL a ≤ natL b ∧ r = txP (a, b) := by
  rcases cut_cases 45 r with ⟨hn, _⟩ | ⟨x, t, rfl, hx, _⟩
  · rw [runP_one hn] at h
    split at h
    · rename_i hd
      injection h with h; injection h with h1 h2; subst h1 h2
      exact ⟨hd, hd, Nat.le_refl _, by unfold txP; rw [if_pos rfl]⟩
    · cases h
  · rw [runP_two hx] at h
    split at h
    · rename_i hd
      injection h with h; injection h with h1 h2; subst h1 h2
      refine ⟨hd.1, hd.2.1, Nat.le_of_lt hd.2.2, ?_⟩
      unfold txP
      rw [if_neg]
      rintro e
      have := hd.2.2
      simp only at e
      rw [e] at this
      exact Nat.lt_irrefl _ this
    · cases h
theorem txP_run {a b : List UInt8} (ha : digsL a = true) (hb : digsL b = true) (h : natL a ≤ natL b) : runP (txP (a, b)) = some (a, b) := by
  unfold txP
  by_cases e : a = b
  · subst e
    rw [if_pos rfl, runP_one (digs_no45 ha), if_pos ha]
  · have hlt : natL a < natL b := by
      rcases Nat.lt_or_ge (natL a) (natL b) with h1 | h1
      · exact h1
      · exact absurd (digs_inj ha hb (by omega)) e
    rw [if_neg e, runP_two (digs_no45 ha), if_pos ⟨ha, hb, hlt⟩]
def gapB (p : Option Nat) (a : Nat) : Bool := match p with
  | none => true
  | some z => decide (z + 1 < a)
def runsP : Option Nat → List (List UInt8) → Option (List (List UInt8 × List UInt8))
  | _, [] => some []
  | p, r :: rs => match runP r with
    | none => none
    | some (a, b) => if gapB p (natL a) = true then (runsP (some (natL b)) rs).map ((a, b) :: ·) else none
theorem runsP_bad {p : Option Nat} {r : List UInt8} {rs : List (List UInt8)} (h : runP r = none) : runsP p (r :: rs) = none := by unfold runsP; rw [h]
theorem runsP_gap {p : Option Nat} {r a b : List UInt8} {rs : List (List UInt8)} (h : runP r = some (a, b)) (hg : gapB p (natL a) = false) : runsP p (r :: rs) = none := by
  unfold runsP; rw [h]; simp [hg]
theorem runsP_go {p : Option Nat} {r a b : List UInt8} {rs : List (List UInt8)} (h : runP r = some (a, b)) (hg : gapB p (natL a) = true) : runsP p (r :: rs) = (runsP (some (natL b)) rs).map ((a, b) :: ·) := by
  conv => lhs; unfold runsP
  rw [h]; simp [hg]
def numsR (p : List UInt8 × List UInt8) : List Int := (List.range (natL p.2 + 1 - natL p.1)).map fun i => ((natL p.1 + i : Nat) : Int)
def numsP (ps : List (List UInt8 × List UInt8)) : List Int := ps.flatMap numsR
def lastP (ps : List (List UInt8 × List UInt8)) : List UInt8 := (ps.getLastD ([], [])).2
/-- what ParseList returns -/
def plL (s : List UInt8) : List Int × Int :=
  if s = [45] then ([], 0) else match runsP none (pts 44 [] s) with
  | none => ([], 6)
  | some ps => if 1000000000 < natL (lastP ps) then ([], 7) else if 500 < (numsP ps).length then ([], 3) else (numsP ps, 0)
theorem plL_dash : plL [45] = ([], 0) := rfl
theorem plL_bad {s : List UInt8} (h0 : s ≠ [45]) (h : runsP none (pts 44 [] s) = none) : plL s = ([], 6) := by unfold plL; rw [if_neg h0, h]
theorem plL_rng {s : List UInt8} {ps : List (List UInt8 × List UInt8)} (h0 : s ≠ [45]) (h : runsP none (pts 44 [] s) = some ps) (h2 : 1000000000 < natL (lastP ps)) : plL s = ([], 7) := by unfold plL; rw [if_neg h0, h]; simp only; rw [if_pos h2]
theorem plL_long {s : List UInt8} {ps : List (List UInt8 × List UInt8)} (h0 : s ≠ [45]) (h : runsP none (pts 44 [] s) = some ps) (h2 : ¬ 1000000000 < natL (lastP ps)) (h3 : 500 < (numsP ps).length) : plL s = ([], 3) := by unfold plL; rw [if_neg h0, h]; simp only; rw [if_neg h2, if_pos h3]
theorem plL_ok {s : List UInt8} {ps : List (List UInt8 × List UInt8)} (h0 : s ≠ [45]) (h : runsP none (pts 44 [] s) = some ps) (h2 : ¬ 1000000000 < natL (lastP ps)) (h3 : ¬ 500 < (numsP ps).length) : plL s = (numsP ps, 0) := by unfold plL; rw [if_neg h0, h]; simp only; rw [if_neg h2, if_neg h3]
theorem plL_len (s : List UInt8) : (plL s).1.length ≤ 500 := by
  unfold plL
  split
  · simp
  · split
    · simp
    · split
      · simp
      · split
        · simp
        · simp; omega
/-- runs read so far -/
def PlRel (rs : List (List UInt8)) (k : Nat) (p : Option Nat) (acc : List (List UInt8 × List UInt8)) : Prop := runsP none rs = (runsP p (rs.drop k)).map (acc ++ ·)
theorem PlRel.start (rs : List (List UInt8)) : PlRel rs 0 none [] := by
  unfold PlRel
  rw [List.drop_zero]
  cases runsP none rs <;> simp
theorem PlRel.bad {rs : List (List UInt8)} {k : Nat} {p : Option Nat} {acc : List (List UInt8 × List UInt8)} (h : PlRel rs k p acc) {r : List UInt8} (hd : rs.drop k = r :: rs.drop (k + 1)) (hr : runP r = none) : runsP none rs = none := by
  unfold PlRel at h; rw [h, hd, runsP_bad hr]; rfl
theorem PlRel.gap {rs : List (List UInt8)} {k : Nat} {p : Option Nat} {acc : List (List UInt8 × List UInt8)} (h : PlRel rs k p acc) {r a b : List UInt8} (hd : rs.drop k = r :: rs.drop (k + 1)) (hr : runP r = some (a, b)) (hg : gapB p (natL a) = false) : runsP none rs = none := by
  unfold PlRel at h; rw [h, hd, runsP_gap hr hg]; rfl
theorem PlRel.go {rs : List (List UInt8)} {k : Nat} {p : Option Nat} {acc : List (List UInt8 × List UInt8)} (h : PlRel rs k p acc) {r a b : List UInt8} (hd : rs.drop k = r :: rs.drop (k + 1)) (hr : runP r = some (a, b)) (hg : gapB p (natL a) = true) : PlRel rs (k + 1) (some (natL b)) (acc ++ [(a, b)]) := by
  unfold PlRel at h ⊢
  rw [h, hd, runsP_go hr hg, Option.map_map]
  congr 1
  funext x
  simp
theorem PlRel.done {rs : List (List UInt8)} {k : Nat} {p : Option Nat} {acc : List (List UInt8 × List UInt8)} (h : PlRel rs k p acc) (hk : rs.length ≤ k) : runsP none rs = some acc := by
  unfold PlRel at h
  rw [h, List.drop_eq_nil_of_le hk]
  simp [runsP]
/-- what holds of the runs read -/
theorem runsP_all : ∀ (rs : List (List UInt8)) (p : Option Nat) (ps : List (List UInt8 × List UInt8)), runsP p rs = some ps →
    rs = ps.map txP ∧ (∀ x ∈ ps, digsL x.1 = true ∧ digsL x.2 = true ∧ natL x.1 ≤ natL x.2) ∧ (∀ x ∈ ps, natL x.2 ≤ natL (lastP ps)) ∧ (∀ z, p = some z → ∀ x ∈ ps, z + 1 < natL x.1)
  | [], p, ps, h => by
    unfold runsP at h
    injection h with h; subst h
    exact ⟨rfl, by simp, by simp, by simp⟩
  | r :: rs, p, ps, h => by
    rcases hr : runP r with _ | ⟨a, b⟩
    · rw [runsP_bad hr] at h; cases h
    rcases hg : gapB p (natL a) with _ | _
    · rw [runsP_gap hr hg] at h; cases h
    rw [runsP_go hr hg] at h
    rcases hq : runsP (some (natL b)) rs with _ | qs
    · rw [hq] at h; cases h
    rw [hq] at h
    injection h with h; subst h
    obtain ⟨i1, i2, i3, i4⟩ := runsP_all rs _ _ hq
    obtain ⟨d1, d2, d3, d4⟩ := runP_some hr
    have hgap : ∀ z, p = some z → z + 1 < natL a := by
      rintro z rfl; simpa [gapB] using hg
    have hlast : natL b ≤ natL (lastP ((a, b) :: qs)) ∧ ∀ x ∈ qs, natL x.2 ≤ natL (lastP ((a, b) :: qs)) := by
      cases qs with
      | nil => exact ⟨Nat.le_refl _, by simp⟩
      | cons y t =>
        have e : lastP ((a, b) :: y :: t) = lastP (y :: t) := by unfold lastP; simp [List.getLastD_eq_getLast?]
        rw [e]
        refine ⟨?_, i3⟩
        have h1 := i4 _ rfl y (by simp)
        have h2 := i3 y (by simp)
        have h3 := (i2 y (by simp)).2.2
        omega
    refine ⟨by rw [List.map_cons, ← d4, ← i1], ?_, ?_, ?_⟩
    · intro x hx
      rcases List.mem_cons.1 hx with rfl | hx
      · exact ⟨d1, d2, d3⟩
      · exact i2 x hx
    · intro x hx
      rcases List.mem_cons.1 hx with rfl | hx
      · exact hlast.1
      · exact hlast.2 x hx
    · intro z hz x hx
      have h0 := hgap z hz
      rcases List.mem_cons.1 hx with rfl | hx
      · exact h0
      · have h1 := i4 _ rfl x hx
        show z + 1 < natL x.1
        omega
theorem pts_ne (d : UInt8) (cur l : List UInt8) : pts d cur l ≠ [] := by
  intro e
  have := pts_len d l cur
  rw [e] at this
  simp at this
theorem runsP_ne {p : Option Nat} {rs : List (List UInt8)} {ps : List (List UInt8 × List UInt8)} (h : runsP p rs = some ps) (h0 : rs ≠ []) : ps ≠ [] := by
  rintro rfl
  exact h0 (runsP_all rs p [] h).1
theorem numsP_snoc (ps : List (List UInt8 × List UInt8)) (p : List UInt8 × List UInt8) : numsP (ps ++ [p]) = numsP ps ++ numsR p := by simp [numsP]
theorem numsP_cons (ps : List (List UInt8 × List UInt8)) (p : List UInt8 × List UInt8) : numsP (p :: ps) = numsR p ++ numsP ps := by simp [numsP]
theorem numsR_len (p : List UInt8 × List UInt8) : (numsR p).length = natL p.2 + 1 - natL p.1 := by simp [numsR]
theorem numsP_take (ps : List (List UInt8 × List UInt8)) (k : Nat) : (numsP (ps.take k)).length ≤ (numsP ps).length := by
  conv => rhs; rw [← List.take_append_drop k ps]
  unfold numsP
  rw [List.flatMap_append, List.length_append]
  omega
def txR (a : Int) (m : Nat) : List UInt8 := dgL a ++ (if m = 0 then [] else 45 :: dgL (a + m))
theorem runTx_nil (a : Int) (m : Nat) : runTx [] a m = txR a m := by simp [runTx, txR]
theorem runTx_cons {out : List UInt8} (h : out ≠ []) (a : Int) (m : Nat) : runTx out a m = out ++ 44 :: txR a m := by simp [runTx, txR, h]
theorem dg_ne (n : Int) : dgL n ≠ [] := by
  intro e
  unfold dgL Lib.itoa at e
  split at e
  · cases e
  · exact (dec_parts _).2.2.2.1 e
theorem txR_ne (a : Int) (m : Nat) : txR a m ≠ [] := by
  intro e
  unfold txR at e
  rw [List.append_eq_nil_iff] at e
  exact dg_ne a e.1
def sufT : Nat → List Int → List UInt8
  | 0, _ => []
  | _ + 1, [] => []
  | n + 1, a :: r => 44 :: txR a (runN a r) ++ sufT n (r.drop (runN a r))
theorem sufT_fuel : ∀ (n k : Nat) (l : List Int), l.length ≤ n → l.length ≤ k → sufT n l = sufT k l := by
  intro n
  induction n with
  | zero =>
    intro k l h _
    cases l with
    | nil => cases k <;> rfl
    | cons x r => simp at h
  | succ n ih =>
    intro k l h h2
    cases l with
    | nil => cases k <;> rfl
    | cons x r =>
      obtain ⟨k, rfl⟩ : ∃ k', k = k' + 1 := ⟨k - 1, by simp at h2; omega⟩
      simp only [sufT]
      rw [ih k _ (by simp at h ⊢; omega) (by simp at h2 ⊢; omega)]
def sufL (l : List Int) : List UInt8 := sufT l.length l
theorem sufL_nil : sufL [] = [] := rfl
theorem sufL_cons (a : Int) (r : List Int) : sufL (a :: r) = 44 :: txR a (runN a r) ++ sufL (r.drop (runN a r)) := by
  show sufT (r.length + 1) (a :: r) = _
  simp only [sufT]
  rw [sufT_fuel r.length (r.drop (runN a r)).length _ (by simp) (Nat.le_refl _)]
  rfl
theorem lsL_suf : ∀ (n : Nat) (l : List Int) (out : List UInt8), l.length ≤ n → out ≠ [] → lsL out l = out ++ sufL l := by
  intro n
  induction n with
  | zero =>
    intro l out h _
    have := List.eq_nil_of_length_eq_zero (Nat.le_zero.1 h)
    subst this
    rw [lsL_nil, sufL_nil, List.append_nil]
  | succ n ih =>
    intro l out h h0
    cases l with
    | nil => rw [lsL_nil, sufL_nil, List.append_nil]
    | cons a r =>
      rw [lsL_cons, sufL_cons, runTx_cons h0, ih _ _ (by simp at h ⊢; omega) (by simp)]
      simp
theorem lsL_first (a : Int) (r : List Int) : lsL [] (a :: r) = txR a (runN a r) ++ sufL (r.drop (runN a r)) := by
  rw [lsL_cons, runTx_nil, lsL_suf _ _ _ (Nat.le_refl _) (txR_ne _ _)]
theorem run_take : ∀ (r : List Int) (a : Int), r.take (runN a r) = (List.range (runN a r)).map (fun (i : Nat) => a + 1 + i)
  | [], a => by simp [runN]
  | x :: r, a => by
    unfold runN
    by_cases h : x = a + 1
    · rw [if_pos h, List.take_succ_cons, run_take r x, List.range_succ_eq_map, List.map_cons, List.map_map]
      congr 1
      · simp [h]
      · apply List.map_congr_left
        intro i _
        simp only [Function.comp]
        rw [h]; push_cast; omega
    · rw [if_neg h]; simp
theorem run_stop : ∀ (r : List Int) (a x : Int) (t : List Int), r.drop (runN a r) = x :: t → x ≠ a + runN a r + 1
  | [], a, x, t, h => by simp [runN] at h
  | y :: r, a, x, t, h => by
    unfold runN at h ⊢
    by_cases hy : y = a + 1
    · rw [if_pos hy] at h ⊢
      rw [List.drop_succ_cons] at h
      have := run_stop r y x t h
      intro e
      refine this ?_
      rw [e, hy]; push_cast; omega
    · rw [if_neg hy] at h ⊢
      rw [List.drop_zero] at h
      injection h with h _
      subst h
      intro e
      exact hy (by rw [e]; simp)
theorem run_app : ∀ (m : Nat) (a : Int) (t : List Int), (∀ x u, t = x :: u → x ≠ a + m + 1) → runN a ((List.range m).map (fun (i : Nat) => a + 1 + i) ++ t) = m
  | 0, a, t, h => by
    cases t with
    | nil => rfl
    | cons x u =>
      have := h x u rfl
      show (if x = a + 1 then runN x u + 1 else 0) = 0
      rw [if_neg]
      intro e
      exact this (by rw [e]; simp)
  | m + 1, a, t, h => by
    have e : (List.range (m + 1)).map (fun (i : Nat) => a + 1 + (i : Int)) = (a + 1) :: (List.range m).map (fun (i : Nat) => a + 1 + 1 + (i : Int)) := by
      rw [List.range_succ_eq_map, List.map_cons, List.map_map]
      congr 1
      · simp
      · apply List.map_congr_left
        intro i _
        simp only [Function.comp]
        push_cast; omega
    rw [e, List.cons_append]
    show (if a + 1 = a + 1 then runN (a + 1) _ + 1 else 0) = m + 1
    rw [if_pos rfl, run_app m (a + 1) t]
    intro x u hx e2
    exact h x u hx (by rw [e2]; push_cast; omega)
theorem asc_app : ∀ (l : List Int) (y x : Int) (t : List Int), ascB (l ++ y :: x :: t) = true → y < x ∧ ascB (x :: t) = true
  | [], y, x, t, h => by simpa [ascB] using h
  | [z], y, x, t, h => by
    simp [ascB] at h
    exact ⟨h.2.1, h.2.2⟩
  | z :: z' :: l, y, x, t, h => by
    refine asc_app (z' :: l) y x t ?_
    simp only [List.cons_append, ascB, Bool.and_eq_true] at h
    exact h.2
theorem asc_run : ∀ (m : Nat) (a : Int) (t : List Int), ascB t = true → (∀ x u, t = x :: u → a + m < x) → ascB ((List.range (m + 1)).map (fun (i : Nat) => a + i) ++ t) = true
  | 0, a, t, h, h2 => by
    cases t with
    | nil => simp [ascB]
    | cons x u =>
      have := h2 x u rfl
      simp only [List.range_succ, List.range_zero, List.nil_append, List.map_cons, List.map_nil, List.cons_append, ascB, Bool.and_eq_true]
      exact ⟨by simpa using this, h⟩
  | m + 1, a, t, h, h2 => by
    have e : (List.range (m + 1 + 1)).map (fun (i : Nat) => a + (i : Int)) = a :: (List.range (m + 1)).map (fun (i : Nat) => a + 1 + (i : Int)) := by
      rw [List.range_succ_eq_map, List.map_cons, List.map_map]
      congr 1
      · simp
      · apply List.map_congr_left
        intro i _
        simp only [Function.comp]
        push_cast; omega
    have ih := asc_run m (a + 1) t h (fun x u hx => by have := h2 x u hx; push_cast at this; omega)
    rw [e, List.cons_append]
    rw [List.range_succ_eq_map, List.map_cons, List.cons_append] at ih ⊢
    simp only [ascB, Bool.and_eq_true]
    exact ⟨by simp; omega, ih⟩
theorem numsR_eq (p : List UInt8 × List UInt8) (m : Nat) (h : natL p.2 = natL p.1 + m) : numsR p = (List.range (m + 1)).map (fun (i : Nat) => (natL p.1 : Int) + i) := by
  unfold numsR
  rw [h, show natL p.1 + m + 1 - natL p.1 = m + 1 by omega]
  apply List.map_congr_left
  intro i _
  push_cast; rfl
theorem range_head (m : Nat) (a : Int) : (List.range (m + 1)).map (fun (i : Nat) => a + i) = a :: (List.range m).map (fun (i : Nat) => a + 1 + i) := by
  rw [List.range_succ_eq_map, List.map_cons, List.map_map]
  congr 1
  · simp
  · apply List.map_congr_left
    intro i _
    simp only [Function.comp]
    push_cast; omega
theorem txR_txP {a b : List UInt8} (ha : digsL a = true) (hb : digsL b = true) (m : Nat) (h : natL b = natL a + m) : txR (natL a : Int) m = txP (a, b) := by
  unfold txR txP
  have e2 : (natL a : Int) + (m : Int) = (natL b : Int) := by rw [h]; push_cast; rfl
  rw [dgL_of ha, e2, dgL_of hb]
  by_cases h0 : m = 0
  · have : a = b := digs_inj ha hb (by omega)
    rw [if_pos h0, if_pos this, List.append_nil]
  · rw [if_neg h0, if_neg]
    intro e
    simp only at e
    rw [e] at h
    omega
theorem txP_no44 {a b : List UInt8} (ha : digsL a = true) (hb : digsL b = true) : (44 : UInt8) ∉ txP (a, b) := by
  unfold txP
  split
  · exact digs_no44 ha
  · intro h
    rcases List.mem_append.1 h with h | h
    · exact digs_no44 ha h
    · rcases List.mem_cons.1 h with h | h
      · exact absurd h (by decide)
      · exact digs_no44 hb h
/-- the text of a list is read as the list -/
theorem runs_of_list : ∀ (n : Nat) (a : Int) (r : List Int), r.length ≤ n → ascB (a :: r) = true → rngB (a :: r) = true → ∀ p, gapB p a.toNat = true →
    ∃ ps, runsP p (pts 44 [] (txR a (runN a r) ++ sufL (r.drop (runN a r)))) = some ps ∧ numsP ps = a :: r ∧ natL (lastP ps) ≤ 1000000000 := by
  intro n
  induction n with
  | zero =>
    intro a r hr
    have := List.eq_nil_of_length_eq_zero (Nat.le_zero.1 hr)
    subst this
    intro _ hrg p hg
    have h1 := List.all_eq_true.1 hrg a (by simp)
    simp only [decide_eq_true_eq] at h1
    obtain ⟨A, rfl⟩ : ∃ A : Nat, a = A := ⟨a.toNat, by omega⟩
    obtain ⟨d1, d2⟩ := dec_digs A
    have e1 : txR (A : Int) 0 = Lib.decDigits A := by unfold txR; rw [if_pos rfl, List.append_nil, dgL_nat]
    have hrun : runP (Lib.decDigits A) = some (Lib.decDigits A, Lib.decDigits A) := by rw [runP_one (digs_no45 d1), if_pos d1]
    refine ⟨[(Lib.decDigits A, Lib.decDigits A)], ?_, ?_, ?_⟩
    · show runsP p (pts 44 [] (txR (A : Int) 0 ++ sufL [])) = _
      rw [e1, sufL_nil, List.append_nil, pts_no 44 _ _ (digs_no44 d1), List.nil_append, runsP_go hrun (by rw [d2]; simpa using hg)]
      rfl
    · rw [numsP_cons, numsR_eq _ 0 rfl, d2]; simp [numsP]
    · show natL (Lib.decDigits A) ≤ _; rw [d2]; omega
  | succ n ih =>
    intro a r hr has hrg p hg
    have hall := List.all_eq_true.1 hrg
    have h1 := hall a (by simp)
    simp only [decide_eq_true_eq] at h1
    obtain ⟨A, rfl⟩ : ∃ A : Nat, a = A := ⟨a.toNat, by omega⟩
    obtain ⟨m, hm⟩ : ∃ m, m = runN (A : Int) r := ⟨_, rfl⟩
    have ht := run_take r (A : Int)
    have hst := run_stop r (A : Int)
    have hsp := List.take_append_drop (runN (A : Int) r) r
    rw [← hm] at ht hst hsp ⊢
    obtain ⟨d1, d2⟩ := dec_digs A
    obtain ⟨k1, k2⟩ := dec_digs (A + m)
    have hrow : (A : Int) :: r = (List.range (m + 1)).map (fun (i : Nat) => (A : Int) + i) ++ r.drop m := by
      rw [range_head, ← ht, List.cons_append, hsp]
    have hlastin : ((A : Int) + m) ∈ (A : Int) :: r := by
      rw [hrow]
      refine List.mem_append_left _ (List.mem_map.2 ⟨m, by simp, rfl⟩)
    have h2 := hall _ hlastin
    simp only [decide_eq_true_eq] at h2
    have etx : txR (A : Int) m = txP (Lib.decDigits A, Lib.decDigits (A + m)) := by
      have := txR_txP d1 k1 m (by rw [d2, k2])
      rw [d2] at this
      exact this
    have hrun : runP (txR (A : Int) m) = some (Lib.decDigits A, Lib.decDigits (A + m)) := by rw [etx]; exact txP_run d1 k1 (by rw [d2, k2]; omega)
    have hno : (44 : UInt8) ∉ txR (A : Int) m := by rw [etx]; exact txP_no44 d1 k1
    have hg2 : gapB p (natL (Lib.decDigits A)) = true := by rw [d2]; simpa using hg
    have hnR : numsR (Lib.decDigits A, Lib.decDigits (A + m)) = (List.range (m + 1)).map (fun (i : Nat) => (A : Int) + i) := by
      have := numsR_eq (Lib.decDigits A, Lib.decDigits (A + m)) m (by rw [d2, k2])
      rw [this]; simp only [d2]
    rcases hdr : r.drop m with _ | ⟨x, t⟩
    · refine ⟨[(Lib.decDigits A, Lib.decDigits (A + m))], ?_, ?_, ?_⟩
      · rw [sufL_nil, List.append_nil, pts_no 44 _ _ hno, List.nil_append, runsP_go hrun hg2]
        rfl
      · rw [numsP_cons, hnR, hrow, hdr]; simp [numsP]
      · show natL (Lib.decDigits (A + m)) ≤ _; rw [k2]; omega
    · have hgap := hst x t hdr
      have hax : (A : Int) + m < x ∧ ascB (x :: t) = true := by
        have e : (A : Int) :: r = (List.range m).map (fun (i : Nat) => (A : Int) + i) ++ ((A : Int) + m) :: x :: t := by
          rw [hrow, hdr, List.range_succ, List.map_append, List.append_assoc]; rfl
        rw [e] at has
        exact asc_app _ _ _ _ has
      have hxr : rngB (x :: t) = true := by
        unfold rngB
        rw [List.all_eq_true]
        intro y hy
        refine hall y ?_
        rw [hrow, hdr]
        exact List.mem_append_right _ hy
      have hlen : t.length ≤ n := by
        have := congrArg List.length hdr
        simp at this
        omega
      have hx0 : 0 ≤ x := by omega
      obtain ⟨ps, q1, q2, q3⟩ := ih x t hlen hax.2 hxr (some (natL (Lib.decDigits (A + m)))) (by rw [k2]; simp [gapB]; omega)
      refine ⟨(Lib.decDigits A, Lib.decDigits (A + m)) :: ps, ?_, ?_, ?_⟩
      · rw [sufL_cons, List.cons_append, pts_app 44 _ _ _ hno, List.nil_append, runsP_go hrun hg2, q1]
        rfl
      · rw [numsP_cons, hnR, q2, hrow, hdr]
      · have hps : ps ≠ [] := by rintro rfl; simp [numsP] at q2
        cases ps with
        | nil => exact absurd rfl hps
        | cons y u =>
          have e : lastP ((Lib.decDigits A, Lib.decDigits (A + m)) :: y :: u) = lastP (y :: u) := by unfold lastP; simp [List.getLastD_eq_getLast?]
          rw [e]; exact q3
theorem listL_zero {l : List Int} {w : List UInt8} (h : listL l = (w, 0)) : ¬ 500 < l.length ∧ rngB l = true ∧ ascB l = true := by
  unfold listL at h
  split at h
  · cases h
  split at h
  · cases h
  split at h
  · cases h
  · rename_i h1 h2 h3
    exact ⟨h1, by simpa using h2, by simpa using h3⟩
theorem pl_of_list {l : List Int} {w : List UInt8} (h : listL l = (w, 0)) : plL w = (l, 0) := by
  obtain ⟨h1, h2, h3⟩ := listL_zero h
  cases l with
  | nil =>
    rw [listL_nil] at h
    injection h with h _
    subst h
    rfl
  | cons a r =>
    rw [listL_ok h1 h2 h3 (by simp)] at h
    injection h with h _
    subst h
    obtain ⟨ps, q1, q2, q3⟩ := runs_of_list r.length a r (Nat.le_refl _) h3 h2 none rfl
    rw [← lsL_first] at q1
    have h0 : lsL [] (a :: r) ≠ [45] := by
      intro e
      rw [e] at q1
      have : runsP none (pts 44 [] [45]) = none := by decide
      rw [this] at q1
      cases q1
    rw [plL_ok h0 q1 (by omega) (by rw [q2]; exact h1), q2]
/-- what is read is written as the text -/
theorem numsR_head {a b : List UInt8} (h : natL a ≤ natL b) : ∃ u, numsR (a, b) = (natL a : Int) :: u := by
  rw [numsR_eq (a, b) (natL b - natL a) (by show natL b = natL a + (natL b - natL a); omega), range_head]
  exact ⟨_, rfl⟩
theorem suf_of_runs : ∀ (rs : List (List UInt8)) (p : Option Nat) (ps : List (List UInt8 × List UInt8)), runsP p rs = some ps →
    sufL (numsP ps) = (ps.map fun x => 44 :: txP x).flatten ∧ ascB (numsP ps) = true ∧ (∀ z, p = some z → ∀ x u, numsP ps = x :: u → ((z : Nat) : Int) + 1 < x)
  | [], p, ps, h => by
    unfold runsP at h
    injection h with h; subst h
    exact ⟨rfl, rfl, by simp [numsP]⟩
  | r :: rs, p, ps, h => by
    rcases hr : runP r with _ | ⟨a, b⟩
    · rw [runsP_bad hr] at h; cases h
    rcases hg : gapB p (natL a) with _ | _
    · rw [runsP_gap hr hg] at h; cases h
    rw [runsP_go hr hg] at h
    rcases hq : runsP (some (natL b)) rs with _ | qs
    · rw [hq] at h; cases h
    rw [hq] at h
    injection h with h; subst h
    obtain ⟨i1, i2, i3⟩ := suf_of_runs rs _ _ hq
    obtain ⟨d1, d2, d3, d4⟩ := runP_some hr
    obtain ⟨m, hm⟩ : ∃ m, natL b = natL a + m := ⟨natL b - natL a, by omega⟩
    have hR := numsR_eq (a, b) m hm
    simp only at hR
    have hgt : ∀ x u, numsP qs = x :: u → (natL a : Int) + m + 1 < x := by
      intro x u hx
      have := i3 _ rfl x u hx
      rw [hm] at this
      push_cast at this
      omega
    have hrn : runN (natL a : Int) ((List.range m).map (fun (i : Nat) => (natL a : Int) + 1 + i) ++ numsP qs) = m := run_app m _ _ (fun x u hx => by have := hgt x u hx; omega)
    have hcons : numsP ((a, b) :: qs) = (natL a : Int) :: ((List.range m).map (fun (i : Nat) => (natL a : Int) + 1 + i) ++ numsP qs) := by
      rw [numsP_cons, hR, range_head, List.cons_append]
    refine ⟨?_, ?_, ?_⟩
    · rw [hcons, sufL_cons, hrn, txR_txP d1 d2 m hm, List.map_cons, List.flatten_cons]
      have hdrop : ((List.range m).map (fun (i : Nat) => (natL a : Int) + 1 + i) ++ numsP qs).drop m = numsP qs := by
        rw [List.drop_append_of_le_length (by simp)]; simp
      rw [hdrop, i1]
    · rw [numsP_cons, hR]
      exact asc_run m _ _ i2 (fun x u hx => by have := hgt x u hx; omega)
    · rintro z rfl x u hx
      rw [hcons] at hx
      injection hx with hx _
      subst hx
      have : z + 1 < natL a := by simpa [gapB] using hg
      omega
theorem pts_back (d : UInt8) : ∀ (l cur x : List UInt8) (xs : List (List UInt8)), pts d cur l = x :: xs → cur ++ l = x ++ (xs.map (d :: ·)).flatten
  | [], cur, x, xs, h => by
    unfold pts at h
    injection h with h1 h2; subst h1 h2
    simp
  | c :: t, cur, x, xs, h => by
    by_cases hc : c = d
    · subst hc
      rw [pts_hit] at h
      injection h with h1 h2
      subst h1
      rcases hq : pts c [] t with _ | ⟨y, ys⟩
      · exact absurd hq (pts_ne _ _ _)
      · have := pts_back c t [] y ys hq
        rw [List.nil_append] at this
        rw [← h2, hq, this]
        simp
    · rw [pts_other hc] at h
      have := pts_back d t _ x xs h
      rw [← this]; simp
theorem numsP_mem {ps : List (List UInt8 × List UInt8)} {y : Int} (h : y ∈ numsP ps) : ∃ x ∈ ps, 0 ≤ y ∧ (natL x.1 : Int) ≤ y ∧ y ≤ (natL x.2 : Int) := by
  unfold numsP at h
  rw [List.mem_flatMap] at h
  obtain ⟨x, hx, hy⟩ := h
  unfold numsR at hy
  rw [List.mem_map] at hy
  obtain ⟨i, hi, rfl⟩ := hy
  rw [List.mem_range] at hi
  exact ⟨x, hx, by omega, by omega, by omega⟩
theorem list_of_pl {s : List UInt8} {m : List Int} (h : plL s = (m, 0)) : listL m = (s, 0) := by
  by_cases h0 : s = [45]
  · subst h0
    rw [plL_dash] at h
    injection h with h _
    subst h
    exact listL_nil
  rcases hr : runsP none (pts 44 [] s) with _ | ps
  · rw [plL_bad h0 hr] at h; cases h
  by_cases h1 : 1000000000 < natL (lastP ps)
  · rw [plL_rng h0 hr h1] at h; cases h
  by_cases h2 : 500 < (numsP ps).length
  · rw [plL_long h0 hr h1 h2] at h; cases h
  rw [plL_ok h0 hr h1 h2] at h
  injection h with h _
  subst h
  obtain ⟨i1, i2, i3, _⟩ := runsP_all _ _ _ hr
  obtain ⟨j1, j2, _⟩ := suf_of_runs _ _ _ hr
  have hrng : rngB (numsP ps) = true := by
    unfold rngB
    rw [List.all_eq_true]
    intro y hy
    obtain ⟨x, hx, q1, q2, q3⟩ := numsP_mem hy
    have := i3 x hx
    simp only [decide_eq_true_eq]
    omega
  have hne := runsP_ne hr (pts_ne _ _ _)
  cases ps with
  | nil => exact absurd rfl hne
  | cons q qs =>
    obtain ⟨a, b⟩ := q
    have hab := (i2 (a, b) (by simp)).2.2
    obtain ⟨u, hu⟩ := numsR_head hab
    have hnn : numsP ((a, b) :: qs) ≠ [] := by rw [numsP_cons, hu]; simp
    rw [listL_ok h2 hrng j2 hnn]
    congr 1
    have hb := pts_back 44 s [] _ _ (show pts 44 [] s = txP (a, b) :: qs.map txP from by rw [i1]; rfl)
    rw [List.nil_append] at hb
    rw [hb]
    rcases hc : numsP ((a, b) :: qs) with _ | ⟨x, r⟩
    · exact absurd hc hnn
    rw [hc, sufL_cons] at j1
    rw [lsL_first]
    rw [List.map_cons, List.flatten_cons, List.cons_append] at j1
    have j2 := List.cons.inj j1
    rw [j2.2, List.map_map]
    rfl
end Go.Proofs.YtngbgchnbcfliaaGreatDoor
