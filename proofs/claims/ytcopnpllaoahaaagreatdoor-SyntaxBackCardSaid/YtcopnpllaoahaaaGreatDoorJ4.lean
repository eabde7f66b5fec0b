/- Lexer: lists of tokens in memory; Line of the program. No condition. Lexer: sets and tokens compared; Check of both; Same. No condition. -/
import Derived.Test.YtcopnpllaoahaaaGreatDoorJ3
import Derived.Test.YtcopnpllaoahaaaGreatDoorK2
import Derived.Deep.DeepCutAuto
import Derived.ChangeKeysEq
namespace Go.Proofs.YtcopnpllaoahaaaGreatDoor
open Go.RowKit
/-- a token as it lies in memory: kind, from, to, number, string, set -/
abbrev T9 := Int × Int × Int × Int × ByteArray × (Nat → Bool)
abbrev Tok := Bd × Nat × Nat
def t9 (x : Tok) : T9 := ((x.1.1 : Nat), (x.2.1 : Nat), (x.2.2 : Nat), (x.1.2.1 : Nat), ⟨x.1.2.2.1.toArray⟩, x.1.2.2.2)
abbrev t9C (t : T9) : List Value := [.int .i64 t.1, .int .i64 t.2.1, .int .i64 t.2.2.1, .int .i64 t.2.2.2.1, .string t.2.2.2.2.1, .int .u64 ((wK t.2.2.2.2.2 0 : Nat) : Int), .int .u64 ((wK t.2.2.2.2.2 1 : Nat) : Int), .int .u64 ((wK t.2.2.2.2.2 2 : Nat) : Int), .int .u64 ((wK t.2.2.2.2.2 3 : Nat) : Int)]
def tks (l : List T9) : List Value := l.flatMap t9C
theorem tks_len (l : List T9) : (tks l).length = l.length * 9 := by
  induction l with
  | nil => rfl
  | cons x r ih => unfold tks at *; simp [ih]; omega
theorem tks_app (l m : List T9) : tks (l ++ m) = tks l ++ tks m := by unfold tks; simp
theorem tks_at (l : List T9) (k j : Nat) (hk : k < l.length) (hj : j < 9) : (tks l)[k * 9 + j]? = (t9C l[k])[j]? := by
  have e : l = l.take k ++ l[k] :: l.drop (k + 1) := by rw [← List.drop_eq_getElem_cons hk, List.take_append_drop]
  have h1 : (tks (l.take k)).length = k * 9 := by rw [tks_len, List.length_take, Nat.min_eq_left (by omega)]
  have h2 : tks l = tks (l.take k) ++ (t9C l[k] ++ tks (l.drop (k + 1))) := by
    conv => lhs; rw [e]
    rw [tks_app]
    rfl
  rw [h2, List.getElem?_append_right (by omega), h1, Nat.add_sub_cancel_left, List.getElem?_append_left (by simpa using hj)]
theorem tks_one (l : List T9) : ∀ u ∈ tks l, u.oneCell' = true := by
  intro u hu
  unfold tks at hu
  obtain ⟨t, _, h⟩ := List.mem_flatMap.1 hu
  simp only [List.mem_cons, List.not_mem_nil, or_false] at h
  rcases h with rfl | rfl | rfl | rfl | rfl | rfl | rfl | rfl | rfl <;> rfl
theorem tkEl : Elem Tryz.prog 46 58 (.agg #[.int .i64 0, .int .i64 0, .int .i64 0, .int .i64 0, .string ⟨#[]⟩, .int .u64 0, .int .u64 0, .int .u64 0, .int .u64 0]) 9 80 := ⟨Tryz.underlying46, by kernel_rfl, rfl, by decide⟩
theorem Reads.at9 {w : World} {B k : Nat} {A : Option Addr} {l : List T9} (h : Reads w B 9 A l.length (tks l)) (hk : k < l.length) :
    ∃ b off, A = some ⟨b, off, none⟩ ∧ b < B ∧ (w.cell? ⟨b, off + k * 9, none⟩ = some (.int .i64 l[k].1) ∧ w.cell? ⟨b, off + k * 9 + 1, none⟩ = some (.int .i64 l[k].2.1) ∧ w.cell? ⟨b, off + k * 9 + 2, none⟩ = some (.int .i64 l[k].2.2.1) ∧ w.cell? ⟨b, off + k * 9 + 3, none⟩ = some (.int .i64 l[k].2.2.2.1) ∧ w.cell? ⟨b, off + k * 9 + 4, none⟩ = some (.string l[k].2.2.2.2.1) ∧
      w.cell? ⟨b, off + k * 9 + 5, none⟩ = some (.int .u64 ((wK l[k].2.2.2.2.2 0 : Nat) : Int)) ∧ w.cell? ⟨b, off + k * 9 + 6, none⟩ = some (.int .u64 ((wK l[k].2.2.2.2.2 1 : Nat) : Int)) ∧ w.cell? ⟨b, off + k * 9 + 7, none⟩ = some (.int .u64 ((wK l[k].2.2.2.2.2 2 : Nat) : Int)) ∧ w.cell? ⟨b, off + k * 9 + 8, none⟩ = some (.int .u64 ((wK l[k].2.2.2.2.2 3 : Nat) : Int))) := by
  obtain ⟨b, off, e, hb, hc⟩ := h.2 (by omega)
  refine ⟨b, off, e, hb, ?_⟩
  have key : ∀ j u, j < 9 → (t9C l[k])[j]? = some u → w.cell? ⟨b, off + k * 9 + j, none⟩ = some u := fun j u hj hu => by
    have := hc (k * 9 + j) u ((tks_at l k j hk hj).trans hu)
    rwa [← Nat.add_assoc] at this
  exact ⟨key 0 _ (by decide) rfl, key 1 _ (by decide) rfl, key 2 _ (by decide) rfl, key 3 _ (by decide) rfl, key 4 _ (by decide) rfl, key 5 _ (by decide) rfl, key 6 _ (by decide) rfl, key 7 _ (by decide) rfl, key 8 _ (by decide) rfl⟩
theorem take_yes (s : ByteArray) (a m q : Nat) (b : Bd) (ha : a < s.size) (hs : s.size ≤ 100000) (hr : Hid (tkK uqK (s.data.toList.drop a) = .inl (b, m))) (hq : Hid (q = a + m)) (w : World) (hE : Esc w) (hM : ML w) :
    Calls Tryz.prog 48 #[.string s, .int .i64 (a : Int)] w fun e w' => e = .returned (.tuple #[tkV (b.1 : Int) (a : Int) (q : Int) (b.2.1 : Int) ⟨b.2.2.1.toArray⟩ b.2.2.2, .int .i64 0, .bool true]) ∧ Below w.heap.size w w' := by
  rw [hq.out]
  exact take_ s a ha hs _ hr w hE hM
theorem take_no (s : ByteArray) (a k q : Nat) (ha : a < s.size) (hs : s.size ≤ 100000) (hr : Hid (tkK uqK (s.data.toList.drop a) = .inr k)) (hq : Hid (q = a + k)) (w : World) (hE : Esc w) (hM : ML w) :
    Calls Tryz.prog 48 #[.string s, .int .i64 (a : Int)] w fun e w' => (∃ (K F T N : Int) (S : ByteArray) (f : Nat → Bool), e = .returned (.tuple #[tkV K F T N S f, .int .i64 (q : Int), .bool false])) ∧ Below w.heap.size w w' := by
  rw [hq.out]
  exact take_ s a ha hs _ hr w hE hM
/-- what a line gives -/
def RetLn (w : World) (r : List Tok × Nat × Int) (e : Ending) (w' : World) : Prop :=
  ∃ A c, e = .returned (.tuple #[.slice A r.1.length c, .int .i64 (r.2.1 : Int), .int .i64 r.2.2]) ∧ Below w.heap.size w w' ∧ Reads w' w'.heap.size 9 A r.1.length (tks (r.1.map t9)) ∧ r.1.length ≤ c ∧ c ≤ 9223372036854775807
theorem RetLn.no {w w' : World} {r : List Tok × Nat × Int} {p : Nat} {x er : Int} (h : r = ([], p, er)) (hx : x = (p : Int)) (hb : Below w.heap.size w w') : RetLn w r (.returned (.tuple #[.slice none 0 0, .int .i64 x, .int .i64 er])) w' := by
  subst h hx
  exact ⟨none, 0, rfl, hb, Reads.none_, by simp, by omega⟩
def lineK (L : List UInt8) : List Tok × Nat × Int := if 1000 < L.length then ([], 0, 3) else lnK (tkK uqK) 80 (L.length + 1) L 0 []
/-- where the reading of a line stands -/
def LnR (L : List UInt8) (R : List Tok × Nat × Int) (p : Nat) (acc : List Tok) : Prop := ∃ n, (L.drop p).length < n ∧ lnK (tkK uqK) 80 n (L.drop p) p acc = R
section
variable {L : List UInt8} {R : List Tok × Nat × Int} {p k m : Nat} {acc : List Tok} {c : UInt8} {t : List UInt8} {b : Bd}
theorem LnR.over (h : LnR L R p acc) (hp : L.length ≤ p) : R = (acc, 0, 0) := by
  obtain ⟨n, hn, e⟩ := h
  obtain ⟨n, rfl⟩ : ∃ n', n = n' + 1 := ⟨n - 1, by omega⟩
  rw [List.drop_of_length_le hp] at e
  exact e.symm
theorem LnR.blank (h : LnR L R p acc) (hd : L.drop p = 32 :: t) : LnR L R (p + 1) acc := by
  obtain ⟨n, hn, e⟩ := h
  obtain ⟨n, rfl⟩ : ∃ n', n = n' + 1 := ⟨n - 1, by omega⟩
  have ht : L.drop (p + 1) = t := by rw [← List.drop_drop, hd]; rfl
  rw [hd] at e hn
  rw [lnK, if_pos rfl] at e
  refine ⟨n, ?_, ?_⟩
  · rw [ht]; simp only [List.length_cons] at hn; omega
  · rw [ht]; exact e
theorem LnR.full (h : LnR L R p acc) (hd : L.drop p = c :: t) (hc : c ≠ 32) (ha : acc.length = 80) : R = ([], p, 3) := by
  obtain ⟨n, hn, e⟩ := h
  obtain ⟨n, rfl⟩ : ∃ n', n = n' + 1 := ⟨n - 1, by omega⟩
  rw [hd] at e
  rw [lnK, if_neg hc, if_pos ha] at e
  exact e.symm
theorem LnR.bad (h : LnR L R p acc) (hd : L.drop p = c :: t) (hc : c ≠ 32) (ha : acc.length ≠ 80) (ht : tkK uqK (L.drop p) = .inr k) : R = ([], p + k, 6) := by
  obtain ⟨n, hn, e⟩ := h
  obtain ⟨n, rfl⟩ : ∃ n', n = n' + 1 := ⟨n - 1, by omega⟩
  rw [hd] at e ht
  rw [lnK, if_neg hc, if_neg ha, ht] at e
  exact e.symm
theorem LnR.stop (h : LnR L R p acc) (hd : L.drop p = c :: t) (hc : c ≠ 32) (ha : acc.length ≠ 80) (ht : tkK uqK (L.drop p) = .inl (b, m)) (hn : ¬ ((L.drop (p + m)).head? = none ∨ (L.drop (p + m)).head? = some 32)) : R = ([], p + m, 6) := by
  obtain ⟨n, hn', e⟩ := h
  obtain ⟨n, rfl⟩ : ∃ n', n = n' + 1 := ⟨n - 1, by omega⟩
  rw [← List.drop_drop, hd] at hn
  rw [hd] at e ht
  rw [lnK, if_neg hc, if_neg ha, ht] at e
  simp only at e
  rw [if_neg hn] at e
  exact e.symm
theorem LnR.go (h : LnR L R p acc) (hd : L.drop p = c :: t) (hc : c ≠ 32) (ha : acc.length ≠ 80) (ht : tkK uqK (L.drop p) = .inl (b, m)) (hn : (L.drop (p + m)).head? = none ∨ (L.drop (p + m)).head? = some 32) (hm : 0 < m) : LnR L R (p + m) (acc ++ [(b, p, p + m)]) := by
  obtain ⟨n, hn', e⟩ := h
  obtain ⟨n, rfl⟩ : ∃ n', n = n' + 1 := ⟨n - 1, by omega⟩
  rw [← List.drop_drop, hd] at hn
  have hl : (L.drop (p + m)).length < n := by rw [← List.drop_drop, List.length_drop]; rw [hd] at hn' ⊢; simp only [List.length_cons] at hn' ⊢; omega
  rw [hd] at e ht
  rw [lnK, if_neg hc, if_neg ha, ht] at e
  simp only at e
  rw [if_pos hn] at e
  refine ⟨n, hl, ?_⟩
  rw [← List.drop_drop, hd]
  exact e
end
end Go.Proofs.YtcopnpllaoahaaaGreatDoor
namespace Go.Proofs.YtcopnpllaoahaaaGreatDoor
open Go.RowKit
@[go_sem] theorem eqgSt : Tryz.prog.eqGuardType Tryz.prog.depth 36 = false := by kernel_rfl
@[go_sem] theorem eqgTk : Tryz.prog.eqGuardType Tryz.prog.depth 58 = false := by kernel_rfl
theorem eqStD (k : Nat) (a b c d a' b' c' d' : Int) (w : World) : (Op.equalIn (k + 1 + 1) 36 (.agg #[.int .u64 a, .int .u64 b, .int .u64 c, .int .u64 d]) (.agg #[.int .u64 a', .int .u64 b', .int .u64 c', .int .u64 d'])).run Tryz.prog w = .ok (decide ((a, b, c, d) = (a', b', c', d'))) w := by
  have u5 := Tryz.underlying34
  have hI : (Tryz.prog.info? 34).isSome = true := by kernel_rfl
  obtain ⟨i, hi⟩ := Option.isSome_iff_exists.1 hI
  clear hI
  have hC : Tryz.prog.cellsOf 34 = 1 := by kernel_rfl
  rw [run_equalIn_array (e := 34) (n := 4) (i := i) w (k + 1) _ _ (by kernel_rfl) hi, hC]
  simp only [List.range, List.range.loop, Op.eqItems]
  go_simp
  by_cases h1 : a = a' <;> by_cases h2 : b = b' <;> by_cases h3 : c = c' <;> by_cases h4 : d = d' <;> simp [h1, h2, h3, h4]
@[go_sem] theorem eqSt (a b c d a' b' c' d' : Int) (w : World) : (Op.equalIn 10000 36 (.agg #[.int .u64 a, .int .u64 b, .int .u64 c, .int .u64 d]) (.agg #[.int .u64 a', .int .u64 b', .int .u64 c', .int .u64 d'])).run Tryz.prog w = .ok (decide ((a, b, c, d) = (a', b', c', d'))) w := eqStD 9998 a b c d a' b' c' d' w
/-- two sets are one -/
def sQ (f g : Nat → Bool) : Bool := decide ((wK f 0, wK f 1, wK f 2, wK f 3) = (wK g 0, wK g 1, wK g 2, wK g 3))
theorem sQ_iff (f g : Nat → Bool) : sQ f g = true ↔ ∀ i, i < 256 → f i = g i := by
  unfold sQ
  rw [decide_eq_true_eq]
  constructor
  · intro h
    simp only [Prod.mk.injEq] at h
    obtain ⟨h0, h1, h2, h3⟩ := h
    refine wK_inj fun j hj => ?_
    rcases (show j = 0 ∨ j = 1 ∨ j = 2 ∨ j = 3 by omega) with rfl | rfl | rfl | rfl
    · exact h0
    · exact h1
    · exact h2
    · exact h3
  · intro h
    have h0 := wK_congr h (show 0 < 4 by decide)
    have h1 := wK_congr h (show 1 < 4 by decide)
    have h2 := wK_congr h (show 2 < 4 by decide)
    have h3 := wK_congr h (show 3 < 4 by decide)
    generalize wK f 0 = a0 at *
    generalize wK f 1 = a1 at *
    generalize wK f 2 = a2 at *
    generalize wK f 3 = a3 at *
    rw [h0, h1, h2, h3]
theorem sQ_int (f g : Nat → Bool) : decide ((((wK f 0 : Nat) : Int), ((wK f 1 : Nat) : Int), ((wK f 2 : Nat) : Int), ((wK f 3 : Nat) : Int)) = (((wK g 0 : Nat) : Int), ((wK g 1 : Nat) : Int), ((wK g 2 : Nat) : Int), ((wK g 3 : Nat) : Int))) = sQ f g := by
  unfold sQ
  generalize wK f 0 = a0
  generalize wK f 1 = a1
  generalize wK f 2 = a2
  generalize wK f 3 = a3
  generalize wK g 0 = b0
  generalize wK g 1 = b1
  generalize wK g 2 = b2
  generalize wK g 3 = b3
  rw [Bool.eq_iff_iff, decide_eq_true_eq, decide_eq_true_eq]
  simp only [Prod.mk.injEq]
  omega
/-- a token's first five cells -/
theorem eqTkD (K F T N K' F' T' N' : Int) (S S' : ByteArray) (a b c d a' b' c' d' : Int) (w : World) :
    (Op.equalIn 10000 58 (.agg #[.int .i64 K, .int .i64 F, .int .i64 T, .int .i64 N, .string S, .int .u64 a, .int .u64 b, .int .u64 c, .int .u64 d]) (.agg #[.int .i64 K', .int .i64 F', .int .i64 T', .int .i64 N', .string S', .int .u64 a', .int .u64 b', .int .u64 c', .int .u64 d'])).run Tryz.prog w = .ok (decide ((K, F, T, N, S) = (K', F', T', N', S')) && decide ((a, b, c, d) = (a', b', c', d'))) w := by
  have u3 := Tryz.underlying3
  have hS : Tryz.prog.underlying 58 = some (.struct (Tryz.prog.fieldsOf 58)) := by kernel_rfl
  have hq := eqStD 9997 a b c d a' b' c' d' w
  have e := bytes_eq S S'
  rw [show (10000 : Nat) = 9999 + 1 from rfl, run_equalIn_agg w 9999 58 _ _ hS (by kernel_rfl)]
  simp only [Program.fieldsOf, Tryz.underlying58]
  go_simp
  by_cases h1 : K = K'
  case neg => simp [h1]
  by_cases h2 : F = F'
  case neg => simp [h2]
  by_cases h3 : T = T'
  case neg => simp [h3]
  by_cases h4 : N = N'
  case neg => simp [h4]
  by_cases h5 : S = S'
  case neg => simp [h5]
  by_cases h6 : a = a' ∧ b = b' ∧ c = c' ∧ d = d'
  · obtain ⟨rfl, rfl, rfl, rfl⟩ := h6
    simp [h1, h2, h3, h4, h5]
  · have h7 : a = a' → b = b' → c = c' → ¬ d = d' := fun x y z t => h6 ⟨x, y, z, t⟩
    have h8 : decide ((a, b, c, d) = (a', b', c', d')) = false := by
      rw [decide_eq_false_iff_not]
      intro h
      simp only [Prod.mk.injEq] at h
      exact h6 h
    simp only [Prod.mk.injEq] at h8
    rw [if_pos h1, if_pos h2, if_pos h3, if_pos h4, if_pos h5, if_pos h7]
    simp
    exact fun _ _ _ _ _ => h7
/-- two values of tokens, of sets are one -/
abbrev N9 := Int × Int × Int × Int × ByteArray × Int × Int × Int × Int
def tkQ (x y : N9) : Bool := decide ((x.1, x.2.1, x.2.2.1, x.2.2.2.1, x.2.2.2.2.1) = (y.1, y.2.1, y.2.2.1, y.2.2.2.1, y.2.2.2.2.1)) && decide (x.2.2.2.2.2 = y.2.2.2.2.2)
def stQ (x y : Int × Int × Int × Int) : Bool := decide (x = y)
theorem eqTk (K F T N K' F' T' N' : Int) (S S' : ByteArray) (a b c d a' b' c' d' : Int) (w : World) :
    (Op.equalIn 10000 58 (.agg #[.int .i64 K, .int .i64 F, .int .i64 T, .int .i64 N, .string S, .int .u64 a, .int .u64 b, .int .u64 c, .int .u64 d]) (.agg #[.int .i64 K', .int .i64 F', .int .i64 T', .int .i64 N', .string S', .int .u64 a', .int .u64 b', .int .u64 c', .int .u64 d'])).run Tryz.prog w = .ok (tkQ (K, F, T, N, S, a, b, c, d) (K', F', T', N', S', a', b', c', d')) w := by
  rw [eqTkD]
  rfl
@[go_sem high] theorem neqTk (K F T N K' F' T' N' : Int) (S S' : ByteArray) (a b c d a' b' c' d' : Int) (w : World) :
    (binOp .neq 58 (.agg #[.int .i64 K, .int .i64 F, .int .i64 T, .int .i64 N, .string S, .int .u64 a, .int .u64 b, .int .u64 c, .int .u64 d]) (.agg #[.int .i64 K', .int .i64 F', .int .i64 T', .int .i64 N', .string S', .int .u64 a', .int .u64 b', .int .u64 c', .int .u64 d'])).run Tryz.prog w = .ok (.bool (!(tkQ (K, F, T, N, S, a, b, c, d) (K', F', T', N', S', a', b', c', d')))) w := by
  rw [run_neq_struct, eqTk]; rfl
@[go_sem high] theorem neqSt (a b c d a' b' c' d' : Int) (w : World) : (binOp .neq 36 (.agg #[.int .u64 a, .int .u64 b, .int .u64 c, .int .u64 d]) (.agg #[.int .u64 a', .int .u64 b', .int .u64 c', .int .u64 d'])).run Tryz.prog w = .ok (.bool (!(stQ (a, b, c, d) (a', b', c', d')))) w := by
  rw [run_neq_struct, eqSt]; rfl
@[go_sem high] theorem eqlSt (a b c d a' b' c' d' : Int) (w : World) : (binOp .eql 36 (.agg #[.int .u64 a, .int .u64 b, .int .u64 c, .int .u64 d]) (.agg #[.int .u64 a', .int .u64 b', .int .u64 c', .int .u64 d'])).run Tryz.prog w = .ok (.bool (stQ (a, b, c, d) (a', b', c', d'))) w := by
  rw [run_eql_struct, eqSt]; rfl
/-- the words of a set, as the walk spells them -/
abbrev i4 (f : Nat → Bool) : Int × Int × Int × Int := (((wK f 0 : Nat) : Int), ((wK f 1 : Nat) : Int), ((wK f 2 : Nat) : Int), ((wK f 3 : Nat) : Int))
theorem stQ_sets (f g : Nat → Bool) : stQ (i4 f) (i4 g) = sQ f g := sQ_int f g
theorem i4_no : i4 (fun _ => false) = (0, 0, 0, 0) := by unfold i4; rw [wK_no, wK_no, wK_no, wK_no]; rfl
theorem tkQ_iff {K F T N K' F' T' N' : Int} {S S' : ByteArray} {x y : Int × Int × Int × Int} : tkQ (K, F, T, N, S, x) (K', F', T', N', S', y) = true ↔ K = K' ∧ F = F' ∧ T = T' ∧ N = N' ∧ S = S' ∧ x = y := by
  unfold tkQ
  rw [Bool.and_eq_true, decide_eq_true_eq, decide_eq_true_eq]
  simp only [Prod.mk.injEq, and_assoc]
/-- two tokens are one -/
def t9Q (s t : T9) : Bool := tkQ (s.1, s.2.1, s.2.2.1, s.2.2.2.1, s.2.2.2.2.1, i4 s.2.2.2.2.2) (t.1, t.2.1, t.2.2.1, t.2.2.2.1, t.2.2.2.2.1, i4 t.2.2.2.2.2)
/-- what Check answers of a token -/
def ckT (K N : Int) (S : ByteArray) (f : Nat → Bool) : Int :=
  if K < 1 ∨ 6 < K ∨ (K ≠ 3 ∧ N ≠ 0) ∨ (K ≠ 4 ∧ K ≠ 5 ∧ S ≠ ⟨#[]⟩) ∨ (K ≠ 6 ∧ sQ f (fun _ => false) = false) then 2
  else if N < 0 ∨ 999999999 < N then 7 else if 2000 < S.size then 3 else 0
end Go.Proofs.YtcopnpllaoahaaaGreatDoor
