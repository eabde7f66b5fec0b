/- Lexer: the example of the laws. No condition. Lexer: what every law looks at (shown). No condition. Lexer: far. No condition. Syntax: Parse of Print are the rules, and Print of them is the text: plain laws. No condition. Syntax: all, Check, Print and Tokens of the program. No condition. -/
import Derived.Test.YtcopnpllaoahaaaGreatDoorG3
import Derived.Test.YtcopnpllaoahaaaGreatDoorJ12
import Derived.Test.YtcopnpllaoahaaaGreatDoorJ10
import Derived.Test.YtcopnpllaoahaaaGreatDoorJ5
import Derived.Deep.DeepCutAuto
import Derived.Test.YtcopnpllaoahaaaGreatDoorY2
import Derived.Test.YtcopnpllaoahaaaGreatDoorG7
namespace Go.Proofs.YtcopnpllaoahaaaGreatDoor
open Go.RowKit
def e0K : ByteArray := ⟨#[]⟩
/-- the tokens of the example -/
def exT : List T9 := [(1, 0, 0, 0, ⟨#[]⟩, fun _ => false), (3, 0, 0, 7, ⟨#[]⟩, fun _ => false), (4, 0, 0, 0, ⟨#[97, 32, 98]⟩, fun _ => false), (5, 0, 0, 0, ⟨#[120]⟩, fun _ => false), (6, 0, 0, 0, ⟨#[]⟩, rgK 97 100), (6, 0, 0, 0, ⟨#[]⟩, fun _ => true), (2, 0, 0, 0, ⟨#[]⟩, fun _ => false), (3, 0, 0, 0, ⟨#[]⟩, fun _ => false), (3, 0, 0, 3, ⟨#[]⟩, fun _ => false)]
abbrev E8 (w : World) (g : Nat) (f : Nat → Bool) (w' : World) : Prop := Below w.heap.size w w' ∧ g < w'.heap.size ∧ w'.cell? ⟨g, 0, none⟩ = some (.int .u64 ((wK f 0 : Nat) : Int)) ∧ w'.cell? ⟨g, 1, none⟩ = some (.int .u64 ((wK f 1 : Nat) : Int)) ∧ w'.cell? ⟨g, 2, none⟩ = some (.int .u64 ((wK f 2 : Nat) : Int)) ∧ w'.cell? ⟨g, 3, none⟩ = some (.int .u64 ((wK f 3 : Nat) : Int))
section
variable {w w1 w2 : World} {g : Nat} {f : Nat → Bool}
theorem E8.of (hb : Below w.heap.size w w1) (h : w1.heap[g]? = some (stO f)) : E8 w g f w1 :=
  ⟨hb, heap_lt h, Lib.cell_of_heap h 0, Lib.cell_of_heap h 1, Lib.cell_of_heap h 2, Lib.cell_of_heap h 3⟩
theorem E8.drew (h : E8 w g f w1) : E8 w g f w1.drew := ⟨h.1.drew, h.2⟩
theorem E8.go (h : E8 w g f w1) (hb : Below w1.heap.size w1 w2) : E8 w g f w2 := by
  obtain ⟨h1, h2, h3, h4, h5, h6⟩ := h
  exact ⟨bt h1 hb, Nat.lt_of_lt_of_le h2 hb.size, (hb.cell (p := ⟨g, 0, none⟩) h2).trans h3, (hb.cell (p := ⟨g, 1, none⟩) h2).trans h4, (hb.cell (p := ⟨g, 2, none⟩) h2).trans h5, (hb.cell (p := ⟨g, 3, none⟩) h2).trans h6⟩
theorem E8.al (h : E8 w g f w1) (o : Obj) : E8 w g f (w1.alloc o) := h.go ((Below.refl _ _).alloc (Nat.le_refl _) o)
end
theorem range_ac (w : World) : Calls Tryz.prog 25 #[.int .i64 97, .int .i64 99] w fun e w' => e = .returned (.tuple #[stV (rgK 97 100), .int .i64 0]) ∧ Below w.heap.size w w' := rrange_ 97 99 (by decide) (by decide) (by decide) w
end Go.Proofs.YtcopnpllaoahaaaGreatDoor
namespace Go.Proofs.YtcopnpllaoahaaaGreatDoor
open Go.RowKit
def txE : List UInt8 := [114, 117, 108, 101, 32, 55, 32, 34, 97, 32, 98, 34, 32, 105, 34, 120, 34, 32, 91, 97, 45, 99, 93, 32, 46, 32, 103, 97, 112, 32, 48, 32, 51]
theorem shE1 : (lineK txE).2 = (0, 0) := by decide +kernel
theorem shE2 : sameL false ((lineK txE).1.map t9) exT = true := by decide +kernel
theorem shE3 : prnL exT = (⟨txE.toArray⟩, 0, 0) := by decide +kernel
theorem shE4 : (lineK [49, 120]).2 = (1, 6) := by decide +kernel
theorem shE5 : (lineK [91, 97, 93, 98]).2 = (3, 6) := by decide +kernel
theorem shE6 : ((lineK txE).1.map t9).length = 9 := by decide +kernel
theorem ln_at (s : ByteArray) (hs : s.size ≤ 100000) (L : List UInt8) (hL : s.data.toList = L) (l : List Tok) (p er : Int) (h : Hid (∃ q : Nat, lineK L = (l, q, er) ∧ p = (q : Int))) (w : World) (hE : Esc w) (hM : ML w) :
    Calls Tryz.prog 35 #[.string s] w fun e w' => ∃ A c, e = .returned (.tuple #[.slice A l.length c, .int .i64 p, .int .i64 er]) ∧ Below w.heap.size w w' ∧ Reads w' w'.heap.size 9 A l.length (tks (l.map t9)) := by
  obtain ⟨q, hq, rfl⟩ := h.out
  rw [← hL] at hq
  refine (line_ s hs _ (Lib.hid hq) w hE hM).mono ?_
  rintro e w' ⟨A, c, he, hb, hr, _⟩
  exact ⟨A, c, he, hb, hr⟩
theorem pr_at (l : List T9) (n : Nat) (hn : l.length = n) (w : World) (A : Option Addr) (c : Nat) (hR : Reads w w.heap.size 9 A n (tks l)) (hcap : n ≤ 100000) (s : ByteArray) (p er : Int) (hr : Hid (∃ q : Nat, prnL l = (s, q, er) ∧ p = (q : Int))) (hW : LxW w) :
    Calls Tryz.prog 51 #[.slice A n c] w fun e w' => e = .returned (.tuple #[.string s, .int .i64 p, .int .i64 er]) ∧ Below w.heap.size w w' := by
  subst hn
  obtain ⟨q, hq, rfl⟩ := hr.out
  exact pprint_ l w A c hR hcap _ (Lib.hid hq) hW
theorem sm_at (p : Bool) (l m : List T9) (n k : Nat) (hn : l.length = n) (hk : m.length = k) (w : World) (A A' : Option Addr) (c c' : Nat) (hR : Reads w w.heap.size 9 A n (tks l)) (hR' : Reads w w.heap.size 9 A' k (tks m)) (h1 : n ≤ 100000) (h2 : k ≤ 100000) (b : Bool) (hb : Hid (sameL p l m = b)) :
    Calls Tryz.prog 19 #[.slice A n c, .slice A' k c', .bool p] w fun e w' => e = .returned (.bool b) ∧ Below w.heap.size w w' := by
  subst hn; subst hk
  exact same_ p l m w A A' c c' hR hR' h1 h2 b hb
end Go.Proofs.YtcopnpllaoahaaaGreatDoor
namespace Go.Proofs.YtcopnpllaoahaaaGreatDoor
open Go.RowKit
theorem bytes_self (s : ByteArray) : (s == s) = true := by
  rcases s with ⟨d⟩
  show (d == d) = true
  simp
/-- what far answers -/
def FarR (l : List T9) (w : World) (e : Ending) (w' : World) : Prop := ∃ b, e = .returned (.bool b) ∧ (b = false → l.length ≤ 100) ∧ Below w.heap.size w w'
theorem errL_some {l : List T9} {i q : Nat} {e : Int} (h : errL l i = some (q, e)) : e ≠ 0 := by
  induction l generalizing i with
  | nil => cases h
  | cons x r ih =>
    unfold errL at h
    by_cases hx : ck9 x ≠ 0
    · rw [if_pos hx] at h
      simp only [Option.some.injEq, Prod.mk.injEq] at h
      rw [← h.2]; exact hx
    · rw [if_neg hx] at h
      exact ih h
theorem prnL_cases {l : List T9} {s : ByteArray} {q : Nat} {e : Int} (h : prnL l = (s, q, e)) : (e ≠ 0 ∧ s = ⟨#[]⟩) ∨ (e = 0 ∧ q = 0 ∧ s = joinT l ∧ errL l 0 = none ∧ l.length ≤ 80 ∧ (joinT l).size ≤ 1000) := by
  unfold prnL at h
  rcases he : errL l 0 with _ | ⟨i, x⟩
  · rw [he] at h
    simp only at h
    by_cases h1 : 80 < l.length
    · rw [if_pos h1] at h
      simp only [Prod.mk.injEq] at h
      exact .inl ⟨by rw [← h.2.2]; decide, h.1.symm⟩
    rw [if_neg h1] at h
    by_cases h2 : 1000 < (joinT l).size
    · rw [if_pos h2] at h
      simp only [Prod.mk.injEq] at h
      exact .inl ⟨by rw [← h.2.2]; decide, h.1.symm⟩
    rw [if_neg h2] at h
    simp only [Prod.mk.injEq] at h
    exact .inr ⟨h.2.2.symm, h.2.1.symm, h.1.symm, rfl, by omega, by omega⟩
  · rw [he] at h
    simp only [Prod.mk.injEq] at h
    exact .inl ⟨by rw [← h.2.2]; exact errL_some he, h.1.symm⟩
end Go.Proofs.YtcopnpllaoahaaaGreatDoor
namespace Go.Proofs.YtcopnpllaoahaaaGreatDoor
open Go.RowKit
def rusQ : List Ru → List Ru → Bool
  | [], [] => true
  | a :: l, b :: m => ruQ a b && rusQ l m
  | _, _ => false
/-- the line of a rule without errors -/
theorem ru_line {r : Ru} (h : (ruE r).2 = 0) : (10 : UInt8) ∉ (prnL (ruT r)).1.data.toList ∧ ∃ m r', lineK (prnL (ruT r)).1.data.toList = (m, 0, 0) ∧ m ≠ [] ∧ m.length ≤ 80 ∧ ruK (m.map t9) = (r', 0, 0) ∧ ruQ r' r = true := by
  obtain ⟨h1, h2, h3, h4, h5⟩ := ruE_ok h
  rcases hp : prnL (ruT r) with ⟨s, q, e⟩
  rw [hp] at h5
  simp only at h5
  subst h5
  rcases prnL_cases hp with ⟨he, _⟩ | ⟨_, _, rfl, k1, k2, k3⟩
  · exact absurd rfl he
  obtain ⟨m, b1, b2, b3⟩ := back_law k1 k2 k3
  have hl := (sameL_mem b2).1
  rw [List.length_map] at hl
  obtain ⟨r', r1, r2⟩ := ru_back h1 h2 h3 h4 b2
  refine ⟨joinT_10 (errL_none k1), m, r', b1, ?_, by omega, r1, r2⟩
  rintro rfl
  simp [ruT] at hl
theorem rusE_none : ∀ {l : List Ru} {i : Nat}, rusE l i = none → ∀ r ∈ l, (ruE r).2 = 0
  | [], _, _, x, h => by cases h
  | y :: l, i, h, x, hx => by
    rw [rusE] at h
    by_cases hy : (ruE y).2 ≠ 0
    · rw [if_pos hy] at h; cases h
    rw [if_neg hy] at h
    rcases List.mem_cons.1 hx with rfl | hx
    · exact Decidable.not_not.1 hy
    · exact rusE_none h x hx
theorem rusE_ok : ∀ {l : List Ru} (i : Nat), (∀ r ∈ l, (ruE r).2 = 0) → rusE l i = none
  | [], _, _ => rfl
  | y :: l, i, h => by
    rw [rusE, if_neg (by rw [h y List.mem_cons_self]; decide)]
    exact rusE_ok (i + 1) fun r hr => h r (List.mem_cons_of_mem _ hr)
theorem txR_pcs : ∀ {l : List Ru}, (∀ r ∈ l, (ruE r).2 = 0) → pcs [] (txR l) = l.map fun r => (prnL (ruT r)).1.data.toList
  | [], _ => rfl
  | r :: l, h => by
    have h1 := (ru_line (h r List.mem_cons_self)).1
    have e : txR (r :: l) = (prnL (ruT r)).1.data.toList ++ 10 :: txR l := by
      unfold txR
      rw [List.flatMap_cons, List.append_assoc]; rfl
    rw [e, pcs_line _ [] _ h1, txR_pcs fun r hr => h r (List.mem_cons_of_mem _ hr), List.nil_append]
    rfl
theorem lxE_txt : ∀ {l : List Ru} (i : Nat), (∀ r ∈ l, (ruE r).2 = 0) → lxE (l.map fun r => (prnL (ruT r)).1.data.toList) i = none
  | [], _, _ => rfl
  | r :: l, i, h => by
    obtain ⟨_, m, r', h1, _⟩ := ru_line (h r List.mem_cons_self)
    rw [List.map_cons, lxE, h1, if_neg (fun e => e rfl)]
    exact lxE_txt (i + 1) fun r hr => h r (List.mem_cons_of_mem _ hr)
theorem rdS_txt : ∀ {l : List Ru} (i : Nat) (acc : List Ru), (∀ r ∈ l, (ruE r).2 = 0) → acc.length + l.length ≤ 64 →
    ∃ m, rdS ((l.map fun r => (prnL (ruT r)).1.data.toList).map fun x => (lineK x).1) i acc = (acc ++ m, 0, 0, 0) ∧ rusQ m l = true
  | [], i, acc, _, _ => ⟨[], by simp [rdS], rfl⟩
  | r :: l, i, acc, h, hl => by
    obtain ⟨_, m, r', h1, h2, _, h4, h5⟩ := ru_line (h r List.mem_cons_self)
    rw [List.length_cons] at hl
    obtain ⟨ms, e1, e2⟩ := rdS_txt (l := l) (i + 1) (acc ++ [r']) (fun r hr => h r (List.mem_cons_of_mem _ hr)) (by rw [List.length_append]; simp; omega)
    refine ⟨r' :: ms, ?_, by rw [rusQ, h5, e2]; rfl⟩
    rw [List.map_cons, List.map_cons, h1, rdS, if_neg h2, h4, if_neg (fun e => e rfl), if_neg (by omega)]
    simp only
    rw [e1, List.append_assoc]
    rfl
/-- Parse of Print -/
theorem parse_print {l : List Ru} {T : List UInt8} {p : Nat} {k : Int} (h : prA l = (T, p, k, 0)) : p = 0 ∧ k = 0 ∧ T = txR l ∧ l.length ≤ 64 ∧ (∀ r ∈ l, (ruE r).2 = 0) ∧ T.length ≤ 4000 ∧ ∃ m, psK T = (m, 0, 0, 0) ∧ rusQ m l = true := by
  unfold prA at h
  by_cases h1 : 64 < l.length
  · rw [if_pos h1] at h
    simp only [Prod.mk.injEq] at h
    exact absurd h.2.2.2 (by decide)
  rw [if_neg h1] at h
  rcases hr : rusE l 0 with _ | ⟨i, kk, e⟩
  · rw [hr] at h
    simp only at h
    by_cases h2 : 4000 < (txR l).length
    · rw [if_pos h2] at h
      simp only [Prod.mk.injEq] at h
      exact absurd h.2.2.2 (by decide)
    rw [if_neg h2] at h
    simp only [Prod.mk.injEq] at h
    obtain ⟨rfl, rfl, rfl, _⟩ := h
    have hok := rusE_none hr
    obtain ⟨m, e1, e2⟩ := rdS_txt (l := l) 0 [] hok (by simpa using h1)
    refine ⟨rfl, rfl, rfl, by omega, hok, by omega, m, ?_, e2⟩
    unfold psK
    rw [if_neg h2]
    by_cases hn : txR l = []
    · rw [if_pos hn]
      have hln : l = [] := by
        cases l with
        | nil => rfl
        | cons r t =>
          exfalso
          unfold txR at hn
          rw [List.flatMap_cons] at hn
          simp at hn
      subst hln
      cases m with
      | nil => rfl
      | cons x t => cases e2
    rw [if_neg hn, if_neg, txR_pcs hok, lxE_txt 0 hok]
    · exact e1
    · rw [Decidable.not_not]
      have hz : ∀ l : List Ru, l ≠ [] → (txR l).getLast? = some 10 := by
        intro l
        induction l with
        | nil => intro h; exact absurd rfl h
        | cons r t ih =>
          intro _
          unfold txR at ih ⊢
          rw [List.flatMap_cons, List.getLast?_append]
          by_cases ht : t = []
          · subst ht; simp
          · rw [ih ht]; rfl
      exact hz l (fun e => hn (by rw [e]; rfl))
  · rw [hr] at h
    simp only [Prod.mk.injEq] at h
    exfalso
    have key : ∀ (l : List Ru) (j i : Nat) (k e : Int), rusE l j = some (i, k, e) → e ≠ 0 := by
      intro l
      induction l with
      | nil => intro j i k e hh; cases hh
      | cons x r ih =>
        intro j i k e hh
        rw [rusE] at hh
        by_cases hc : (ruE x).2 ≠ 0
        · rw [if_pos hc] at hh
          simp only [Option.some.injEq, Prod.mk.injEq] at hh
          rw [← hh.2.2]; exact hc
        · rw [if_neg hc] at hh
          exact ih _ _ _ _ hh
    exact key _ _ _ _ _ hr h.2.2.2
end Go.Proofs.YtcopnpllaoahaaaGreatDoor
namespace Go.Proofs.YtcopnpllaoahaaaGreatDoor
open Go.RowKit
theorem bl_len (w wr : World) (b : Nat) (l : List UInt8) (h : Bl w wr b l) : Calls Tryz.prog 38 #[.pointer (some ⟨b, 0, none⟩)] wr fun e w' => e = .returned (.int .i64 l.length) ∧ w' = wr := by
  have := Tryz.Builder_Len_f w.heap.size b (Lib.byteCells l) wr h
  rwa [Lib.byteCells_length] at this
theorem txR_take (l : List Ru) (k : Nat) (hk : k < l.length) : txR (l.take (k + 1)) = txR (l.take k) ++ ((prnL (ruT l[k])).1.data.toList ++ [10]) := by
  unfold txR
  rw [List.take_add_one, List.getElem?_eq_getElem hk, List.flatMap_append]
  simp
theorem rusE_step {l : List Ru} {k : Nat} (hk : k < l.length) (h : rusE l 0 = rusE (l.drop k) k) : rusE l 0 = if (ruE l[k]).2 ≠ 0 then some (k, (ruE l[k]).1, (ruE l[k]).2) else rusE (l.drop (k + 1)) (k + 1) := by
  rw [h, List.drop_eq_getElem_cons hk, rusE]
theorem prn_size {l : List T9} {s : ByteArray} {q : Nat} (h : prnL l = (s, q, 0)) : s.size ≤ 1000 := by
  rcases prnL_cases h with ⟨h1, _⟩ | ⟨_, _, rfl, _, _, h2⟩
  · exact absurd rfl h1
  · exact h2
def RetAl (w : World) (p : List UInt8 × Nat × Int × Int) (e : Ending) (w' : World) : Prop := e = .returned (.tuple #[.string ⟨p.1.toArray⟩, .int .i64 (p.2.1 : Int), .int .i64 p.2.2.1, .int .i64 p.2.2.2]) ∧ Below w.heap.size w w'
set_option maxRecDepth 100000 in
set_option maxHeartbeats 8000000 in
theorem sall_ (L : List Rm) (w : World) (A : Option Addr) (c : Nat) (hI : IsRus w A L) (hH : Hd w) (hW : LxW w) (p : List UInt8 × Nat × Int × Int) (hp : Hid (prA (L.map rm) = p)) :
    Calls Tryz.prog 24 #[.slice A L.length c] w (RetAl w p) := by
  have hml : (L.map rm).length = L.length := List.length_map ..
  have HI := Lib.hid hI
  have HH := Lib.hid hH
  have HW := Lib.hid hW
  clear hI hH hW
  by_cases h64 : 64 < L.length
  · have HN := Lib.hid (show p = ([], 0, 0, 3) by rw [← hp.out]; unfold prA; rw [if_pos (by omega)])
    have i1 : (64 : Int) < (L.length : Int) := by omega
    clear h64 hml hp
    go_enter Tryz.func24, Tryz.ntmps24
    go_wp2
    refine bodyPost_ret (v := .tuple #[.string ⟨#[]⟩, .int .i64 0, .int .i64 0, .int .i64 3]) (by simp [results, go_sem]) rfl ?_
    rw [HN.out]
    exact ⟨rfl, Below.refl _ _⟩
  have i1 : ¬ ((64 : Int) < (L.length : Int)) := by omega
  have hp1 := hp.out
  unfold prA at hp1
  rw [if_neg (by omega)] at hp1
  have HP := Lib.hid hp1
  have hB0 : Bl w (w.alloc (.cells #[.pointer none, .slice none 0 0] bT)) w.heap.size [] := by
    have := bld_newb (Below.refl w.heap.size w)
    simpa [Bl, Lib.byteCells] using this
  have HB0 := Lib.hid hB0
  have HBe0 := Lib.hid (ba (Below.refl w.heap.size w) (.cells #[.pointer none, .slice none 0 0] bT))
  clear hp1 hp hB0
  go_enter Tryz.func24, Tryz.ntmps24
  go_upto_region 4 with fail
  generalize w.alloc (.cells #[.pointer none, .slice none 0 0] bT) = W1 at *
  go_wp2
  go_loopw [17] (fun i wr => ∃ k : Nat, k ≤ L.length ∧ i = .int .i64 (k : Int) ∧ Bl w wr w.heap.size (txR ((L.map rm).take k)) ∧ Below w.heap.size w wr ∧ (txR ((L.map rm).take k)).length ≤ 1001 * k ∧ Hid (rusE (L.map rm) 0 = rusE ((L.map rm).drop k) k)) (fun i _ => L.length - (intOf i).toNat)
  case atStart => exact ⟨0, Nat.zero_le _, rfl, by rw [List.take_zero]; exact HB0.out, HBe0.out, by rw [List.take_zero]; simp [txR], Lib.hid (by rw [List.drop_zero])⟩
  case round =>
    obtain ⟨k, hk, rfl, hBl, hbl, hsz, hX⟩ := hrel
    by_cases hlt : k < L.length
    · have i3 : (k : Int) < (L.length : Int) := by omega
      have i0 : (0 : Int) ≤ (k : Int) := by omega
      obtain ⟨bk, off, rfl, hbk, d0, d1, hIr⟩ := (HI.out.go hbl).at hlt
      have hlt2 : k < (L.map rm).length := by omega
      have hst := rusE_step hlt2 hX.out
      have htk := txR_take (L.map rm) k hlt2
      have hrk : (L.map rm)[k] = rm L[k] := List.getElem_map ..
      rw [hrk] at hst htk
      obtain ⟨r, hr⟩ : ∃ r, L[k] = r := ⟨_, rfl⟩
      rw [hr] at d0 d1 hIr hst htk
      have HBl := Lib.hid hBl
      have HBe := Lib.hid hbl
      have hIr2 : IsRu (wr.alloc (bxO r.1 r.2.1 r.2.2.2.length r.2.2.1)) r := hIr.go ((Below.refl _ _).alloc (Nat.le_refl _) _)
      by_cases he : (ruE (rm r)).2 = 0
      · rw [if_neg (by simpa using he)] at hst
        rcases hs : prnL (ruT (rm r)) with ⟨s, q, er⟩
        have her : er = 0 := by have := (ruE_ok he).2.2.2.2; rw [hs] at this; exact this
        subst her
        have hpr : prR (rm r) = (s, 0, 0) := by unfold prR; rw [if_neg (by simpa using he), hs]
        have hss := prn_size hs
        have HC := Lib.hid (printed_ r (wr.alloc (bxO r.1 r.2.1 r.2.2.2.length r.2.2.1)) hIr2 (HH.out.below (ba hbl _)) (HW.out.below (ba hbl _)) _ (Lib.hid hpr))
        rw [hs] at htk
        have hcat : (s ++ (⟨#[10]⟩ : ByteArray)).data.toList = s.data.toList ++ [10] := by simp
        have hsl : s.data.toList.length = s.size := by simp
        have hcs : (s ++ (⟨#[10]⟩ : ByteArray)).size = s.size + 1 := by rw [ByteArray.size_append]; rfl
        have j1 : ¬ (9223372036854775807 < s.size + 1) := by omega
        have HTk := Lib.hid (show txR ((L.map rm).take (k + 1)) = txR ((L.map rm).take k) ++ (s ++ (⟨#[10]⟩ : ByteArray)).data.toList by rw [htk, hcat])
        have HLn := Lib.hid (show (txR ((L.map rm).take (k + 1))).length ≤ 1001 * (k + 1) by rw [htk, List.length_append, List.length_append, hsl]; simp; omega)
        have HX2 := Lib.hid hst
        have HCs := Lib.hid hcs
        obtain ⟨id, A5, c5, es⟩ := r
        clear hst htk hrk hr hIr hIr2 hBl hbl hX hs hpr he hcat hsl hcs
        go_wp2_with fail
        (with_reducible refine (HC.out).mono ?_); rintro e w3 ⟨rfl, hb3⟩
        have HBl3 := Lib.hid ((HBl.out.alloc (bxO id A5 es.length c5)).below hb3)
        have HBe3 := Lib.hid (bt (ba HBe.out _) hb3)
        clear hb3 d0 d1
        go_wp2_with fail
        (with_reducible refine (bl_write w _ w.heap.size _ _ HBl3.out HBe3.out (by have := HCs.out; omega)).mono ?_); rintro e w4 ⟨rfl, hB4, hb4, _⟩
        have HB4 := Lib.hid hB4
        clear hB4
        go_wp2
        go_roundw
        case rel => exact ⟨k + 1, by omega, by go_num, by rw [HTk.out]; exact HB4.out, hb4, HLn.out, HX2⟩
        case measure => (simp [intOf]) <;> omega
      · rw [if_pos he] at hst
        rcases hxy : ruE (rm r) with ⟨x, y⟩
        have hpr : prR (rm r) = (⟨#[]⟩, x, y) := by unfold prR; rw [if_pos he, hxy]
        rw [hxy] at hst he
        have HC := Lib.hid (printed_ r (wr.alloc (bxO r.1 r.2.1 r.2.2.2.length r.2.2.1)) hIr2 (HH.out.below (ba hbl _)) (HW.out.below (ba hbl _)) _ (Lib.hid hpr))
        have hp2 := HP.out
        rw [hst] at hp2
        have HN := Lib.hid (show p = ([], k, x, y) from hp2.symm)
        have e1 : (y != 0) = true := by simpa using he
        obtain ⟨id, A5, c5, es⟩ := r
        clear hst htk hrk hr hIr hIr2 hBl hbl hX hpr he hp2 hxy
        go_wp2_with fail
        (with_reducible refine (HC.out).mono ?_); rintro e w3 ⟨rfl, hb3⟩
        have HBe3 := Lib.hid (bt (ba HBe.out (bxO id A5 es.length c5)) hb3)
        clear hb3 d0 d1
        go_wp2
        refine bodyPost_ret (v := .tuple #[.string ⟨#[]⟩, .int .i64 (k : Int), .int .i64 x, .int .i64 y]) (by simp [results, go_sem]) rfl ?_
        rw [HN.out]
        exact ⟨rfl, HBe3.out⟩
    · obtain rfl : k = L.length := by omega
      have i3 : ¬ ((L.length : Int) < (L.length : Int)) := by omega
      have hn : rusE (L.map rm) 0 = none := by rw [hX.out, List.drop_of_length_le (by omega)]; rfl
      have hta : (L.map rm).take L.length = L.map rm := List.take_of_length_le (by omega)
      rw [hta] at hBl hsz
      have hp2 := HP.out
      rw [hn] at hp2
      simp only at hp2
      generalize txR (L.map rm) = T at *
      have HBl := Lib.hid hBl
      have HBe := Lib.hid hbl
      have HLen := Lib.hid (bl_len w wr w.heap.size T hBl)
      by_cases h4 : 4000 < T.length
      · rw [if_pos h4] at hp2
        have HN := Lib.hid hp2.symm
        have i4 : (4000 : Int) < (T.length : Int) := by omega
        clear hBl hbl hX hn hta hp2 hsz HP
        go_wp2_with fail
        (with_reducible refine (HLen.out).mono ?_); rintro e w3 ⟨rfl, hw3⟩; subst hw3
        go_wp2
        refine bodyPost_ret (v := .tuple #[.string ⟨#[]⟩, .int .i64 0, .int .i64 0, .int .i64 3]) (by simp [results, go_sem]) rfl ?_
        rw [HN.out]
        exact ⟨rfl, HBe.out⟩
      · rw [if_neg h4] at hp2
        have HN := Lib.hid hp2.symm
        have i4 : ¬ ((4000 : Int) < (T.length : Int)) := by omega
        clear hBl hbl hX hn hta hp2 hsz HP
        go_wp2_with fail
        (with_reducible refine (HLen.out).mono ?_); rintro e w3 ⟨rfl, hw3⟩; subst hw3
        go_wp2_with fail
        (with_reducible refine (bl_string w _ w.heap.size T HBl.out HBe.out).mono ?_); rintro e w4 ⟨rfl, _, hb4, _⟩
        go_wp2
        refine bodyPost_ret (v := .tuple #[.string ⟨T.toArray⟩, .int .i64 0, .int .i64 0, .int .i64 0]) (by simp [results, go_sem]) rfl ?_
        rw [HN.out]
        exact ⟨rfl, hb4⟩
end Go.Proofs.YtcopnpllaoahaaaGreatDoor
