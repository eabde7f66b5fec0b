/- The text of a token is taken as the token: plain laws. No condition. Quoted forms end where they end: plain laws. No condition. words.Unquote; the reference's quoted and Unquote. The texts of numbers and of strings are read back: plain laws. No condition. -/
import Derived.Test.YtfleamgncodkpaaDoorK4
import Derived.Test.YtfleamgncodkpaaDoorQ1
import Derived.Test.YtfleamgncodkpaaDoorW3
import Derived.Test.YtfleamgncodkpaaDoorW2
import Derived.Test.YtfleamgncodkpaaDoorPd
namespace Go.Proofs.YtfleamgncodkpaaDoor
/-- the texts of numbers and of strings, and what is wanted of them -/
structure TxOk (uq : List UInt8 → List UInt8 × Int) (dg : Nat → List UInt8) (qb : List UInt8 → List UInt8) : Prop where
  num : ∀ n, n ≤ 999999999 → dg n ≠ [] ∧ (∀ c ∈ dg n, dgK c = true) ∧ (dg n).length ≤ 9 ∧ (dg n).foldl (fun n c => 10 * n + (c.toNat - 48)) 0 = n
  cl : ∀ s r, clK (qb s ++ r) = some (qb s).length
  un : ∀ s, uq (34 :: qb s) = (s, 0)
/-- the text of a token (qb: a quoted form behind its opening quote) -/
def txT (dg : Nat → List UInt8) (qb : List UInt8 → List UInt8) (b : Bd) (all : Bool) : List UInt8 :=
  if b.1 = 1 then ruleW else if b.1 = 2 then gapW else if b.1 = 3 then dg b.2.1 else if b.1 = 4 then 34 :: qb b.2.2.1 else if b.1 = 5 then 105 :: 34 :: qb b.2.2.1 else if all then [46] else prK b.2.2.2
theorem wd_other {c : UInt8} {u : List UInt8} (h1 : c ≠ 114) (h2 : c ≠ 103) : wdK (c :: u) ≠ ruleW ∧ wdK (c :: u) ≠ gapW := by
  unfold wdK
  rw [List.takeWhile_cons]
  by_cases hc : (c != 32) = true
  · rw [if_pos hc]
    exact ⟨fun e => by injection e with e _; exact h1 e, fun e => by injection e with e _; exact h2 e⟩
  · rw [if_neg hc]
    exact ⟨fun e => (by cases e), fun e => (by cases e)⟩
theorem tk_other (uq : List UInt8 → List UInt8 × Int) {c : UInt8} {u : List UInt8} (h1 : c ≠ 114) (h2 : c ≠ 103) : tkK uq (c :: u) = hdK uq (c :: u) := by
  obtain ⟨a, b⟩ := wd_other (u := u) h1 h2
  unfold tkK
  rw [if_neg a, if_neg b]
theorem dg_ne {c : UInt8} (h : dgK c = true) : c ≠ 114 ∧ c ≠ 103 := by
  unfold dgK at h
  have := of_decide_eq_true h
  exact ⟨fun e => by subst e; revert this; decide, fun e => by subst e; revert this; decide⟩
theorem tk_rule (uq : List UInt8 → List UInt8 × Int) {r : List UInt8} (hr : r.head? = none ∨ r.head? = some 32) : tkK uq (ruleW ++ r) = .inl ((1, 0, [], noK), 4) := by
  unfold tkK
  rw [wd_app _ _ hr, if_pos (by decide)]
theorem tk_gap (uq : List UInt8 → List UInt8 × Int) {r : List UInt8} (hr : r.head? = none ∨ r.head? = some 32) : tkK uq (gapW ++ r) = .inl ((2, 0, [], noK), 3) := by
  unfold tkK
  rw [wd_app _ _ hr, if_neg (by decide), if_pos (by decide)]
theorem tk_num {uq : List UInt8 → List UInt8 × Int} {dg : Nat → List UInt8} {qb : List UInt8 → List UInt8} (H : TxOk uq dg qb) {n : Nat} (hn : n ≤ 999999999) {r : List UInt8} (hr : r.head? = none ∨ r.head? = some 32) :
    tkK uq (dg n ++ r) = .inl ((3, n, [], noK), (dg n).length) := by
  obtain ⟨h1, h2, h3, h4⟩ := H.num n hn
  have hm := nmK_digits (dg n) 0 0 r h2 (by omega) hr
  rw [h4] at hm
  generalize dg n = ds at *
  cases ds with
  | nil => exact absurd rfl h1
  | cons c u =>
    have hc := h2 c List.mem_cons_self
    obtain ⟨a, b⟩ := dg_ne hc
    rw [List.cons_append] at hm ⊢
    rw [tk_other uq a b, hdK, if_pos hc, hm]
    simp
theorem tk_lit {uq : List UInt8 → List UInt8 × Int} {dg : Nat → List UInt8} {qb : List UInt8 → List UInt8} (H : TxOk uq dg qb) (s r : List UInt8) :
    tkK uq (34 :: qb s ++ r) = .inl ((4, 0, s, noK), (34 :: qb s).length) := by
  rw [List.cons_append, tk_other uq (by decide) (by decide), hdK, if_neg (by decide), if_pos rfl, H.cl s r]
  have hl : (qb s ++ r).take (qb s).length = qb s := List.take_left
  simp only
  rw [hl, H.un s, if_pos rfl]
  rfl
theorem tk_fold {uq : List UInt8 → List UInt8 × Int} {dg : Nat → List UInt8} {qb : List UInt8 → List UInt8} (H : TxOk uq dg qb) (s r : List UInt8) :
    tkK uq (105 :: 34 :: qb s ++ r) = .inl ((5, 0, s, noK), (105 :: 34 :: qb s).length) := by
  rw [List.cons_append, List.cons_append, tk_other uq (by decide) (by decide), hdK, if_neg (by decide), if_neg (by decide), if_pos ⟨rfl, rfl⟩]
  simp only [List.drop_succ_cons, List.drop_zero]
  rw [H.cl s r]
  have hl : (qb s ++ r).take (qb s).length = qb s := List.take_left
  simp only
  rw [hl, H.un s, if_pos rfl]
  rfl
theorem tk_all (uq : List UInt8 → List UInt8 × Int) (r : List UInt8) : tkK uq (46 :: r) = .inl ((6, 0, [], allK), 1) := by
  rw [tk_other uq (by decide) (by decide), hdK, if_neg (by decide), if_neg (by decide), if_neg (by rintro ⟨e, _⟩; exact absurd e (by decide)), if_pos rfl]
theorem prK_head (f : Nat → Bool) : ∃ u, prK f = 91 :: u := by
  unfold prK
  by_cases h : 128 < (mbK f).length
  · rw [if_pos h]; exact ⟨_, rfl⟩
  · rw [if_neg h]; exact ⟨_, rfl⟩
theorem tk_set (uq : List UInt8 → List UInt8 × Int) (f : Nat → Bool) (r : List UInt8) : ∃ g, tkK uq (prK f ++ r) = .inl ((6, 0, [], g), (prK f).length) ∧ ∀ i, i < 256 → g i = f i := by
  obtain ⟨g, h1, h2⟩ := pf_pr f r
  refine ⟨g, ?_, h2⟩
  obtain ⟨u, hu⟩ := prK_head f
  have h3 : prK f ++ r = 91 :: (u ++ r) := by rw [hu]; rfl
  rw [h3] at h1 ⊢
  rw [tk_other uq (by decide) (by decide), hdK, if_neg (by decide), if_neg (by decide), if_neg (by rintro ⟨e, _⟩; exact absurd e (by decide)), if_neg (by decide), if_pos rfl, h1]
  simp
end Go.Proofs.YtfleamgncodkpaaDoor
namespace Go.Proofs.YtfleamgncodkpaaDoor
theorem esc_shape (c : UInt8) : (escB c = [c] ∧ c ≠ 34 ∧ c ≠ 92) ∨ (∃ x, escB c = [92, x]) ∨ (∃ a b, escB c = [92, 120, a, b] ∧ a ≠ 34 ∧ a ≠ 92 ∧ b ≠ 34 ∧ b ≠ 92) := by
  refine u8_all (P := fun c => (escB c = [c] ∧ c ≠ 34 ∧ c ≠ 92) ∨ (∃ x, escB c = [92, x]) ∨ (∃ a b, escB c = [92, 120, a, b] ∧ a ≠ 34 ∧ a ≠ 92 ∧ b ≠ 34 ∧ b ≠ 92)) (fun n hn => ?_) c
  have key : ∀ k : Fin 256, (escB (UInt8.ofNat k) = [UInt8.ofNat k] ∧ UInt8.ofNat k ≠ 34 ∧ UInt8.ofNat k ≠ 92) ∨ (escB (UInt8.ofNat k) = [92, (escB (UInt8.ofNat k)).getD 1 0]) ∨ (escB (UInt8.ofNat k) = [92, 120, (escB (UInt8.ofNat k)).getD 2 0, (escB (UInt8.ofNat k)).getD 3 0] ∧ (escB (UInt8.ofNat k)).getD 2 0 ≠ 34 ∧ (escB (UInt8.ofNat k)).getD 2 0 ≠ 92 ∧ (escB (UInt8.ofNat k)).getD 3 0 ≠ 34 ∧ (escB (UInt8.ofNat k)).getD 3 0 ≠ 92) := by decide +kernel
  rcases key ⟨n, hn⟩ with h | h | h
  · exact .inl h
  · exact .inr (.inl ⟨_, h⟩)
  · exact .inr (.inr ⟨_, _, h⟩)
theorem clK_plain {c : UInt8} (h1 : c ≠ 34) (h2 : c ≠ 92) (t : List UInt8) : clK (c :: t) = (clK t).map (· + 1) := by
  cases t with
  | nil => simp [clK, h1]
  | cons d r => rw [clK, if_neg h1, if_neg h2]
theorem clK_esc (x : UInt8) (t : List UInt8) : clK (92 :: x :: t) = (clK t).map (· + 2) := by
  rw [clK, if_neg (by decide), if_pos rfl]
theorem clK_escB (c : UInt8) (t : List UInt8) : clK (escB c ++ t) = (clK t).map (· + (escB c).length) := by
  rcases esc_shape c with ⟨e, h1, h2⟩ | ⟨x, e⟩ | ⟨a, b, e, h1, h2, h3, h4⟩
  · rw [e]
    exact clK_plain h1 h2 t
  · rw [e]
    exact clK_esc x t
  · rw [e]
    show clK (92 :: 120 :: a :: b :: t) = _
    rw [clK_esc, clK_plain h1 h2, clK_plain h3 h4, Option.map_map, Option.map_map]
    rfl
theorem clK_quote : ∀ (s r : List UInt8), clK (s.flatMap escB ++ 34 :: r) = some ((s.flatMap escB).length + 1)
  | [], r => by
    cases r with
    | nil => rfl
    | cons x y => rw [List.flatMap_nil, List.nil_append, clK, if_pos rfl]; rfl
  | c :: s, r => by
    rw [List.flatMap_cons, List.append_assoc, clK_escB, clK_quote s r, Option.map_some, List.length_append]
    congr 1; omega
end Go.Proofs.YtfleamgncodkpaaDoor
namespace Go.Proofs.YtfleamgncodkpaaDoor
open Go.RowKit
theorem unq_le (l : List UInt8) : (unquoteL l).2 ≤ l.length := by
  match l with
  | [] => simp [unquoteL]
  | x :: r =>
    unfold unquoteL
    simp only
    by_cases hx : x = 34
    · rw [if_pos hx]
      rcases hq : unq (r.length + 1) r with _ | ⟨b, k⟩
      · simp
      · obtain ⟨h1, h2⟩ := unq_form hq
        have := congrArg List.length h1
        simp only [List.length_append, List.length_cons] at this ⊢
        omega
    · rw [if_neg hx]; simp
def uqOk (l : List UInt8) : Bool := decide ((unquoteL l).2 ≠ 0) && decide ((unquoteL l).2 = l.length)
/-- what Unquote returns -/
def uqS (l : List UInt8) : ByteArray := if uqOk l = true then ⟨(unquoteL l).1.toArray⟩ else ⟨#[]⟩
def uqE (l : List UInt8) : Int := if uqOk l = true then 0 else 6
theorem uq_yes {l : List UInt8} (h : uqOk l = true) : uqS l = ⟨(unquoteL l).1.toArray⟩ ∧ uqE l = 0 := ⟨if_pos h, if_pos h⟩
theorem uq_no {l : List UInt8} (h : uqOk l = false) : uqS l = ⟨#[]⟩ ∧ uqE l = 6 := by
  unfold uqS uqE; rw [h]; exact ⟨rfl, rfl⟩
theorem ret_us {a b : ByteArray} {k : IntKind} {x y : Int} (h : a = b) (h' : x = y) : Ending.returned (.tuple #[.string a, .int k x]) = .returned (.tuple #[.string b, .int k y]) := by rw [h, h']
theorem unquote' (s : ByteArray) (w : World) (hE : Esc w) (hsz : s.size ≤ 1099511627776) {b : List UInt8} {n : Nat} (h : Hid (unquoteL s.data.toList = (b, n))) :
    Calls Tryd.prog 79 #[.string s] w fun e w' => e = .returned (.tuple #[.string ⟨b.toArray⟩, .int .i64 (n : Int)]) ∧ Below w.heap.size w w' := by
  have := unquote s w hE hsz
  unfold unqV at this
  rw [h.out] at this
  exact this
set_option maxRecDepth 100000 in
set_option maxHeartbeats 400000 in
theorem unquoteW (s : ByteArray) (w : World) (hE : Esc w) (hsz : s.size ≤ 1099511627776) :
    Calls Tryd.prog 59 #[.string s] w fun e w' => e = .returned (.tuple #[.string (uqS s.data.toList), .int .i64 (uqE s.data.toList)]) ∧ Below w.heap.size w w' := by
  rcases hq : unquoteL s.data.toList with ⟨b, n⟩
  have hle := unq_le s.data.toList
  have hsl : s.data.toList.length = s.size := by simp
  rw [hq, hsl] at hle
  simp only at hle
  have Hq := Lib.hid hq
  by_cases hn : n = 0
  · have m1 : ((n : Int) == 0) = true := by simp [hn]
    have hR := Lib.hid (uq_no (l := s.data.toList) (by unfold uqOk; rw [hq]; simp [hn]))
    clear hq hsl hn
    go_enter Tryd.func59, Tryd.ntmps59
    go_wp2_with fail
    (with_reducible refine (unquote' s w hE hsz Hq).mono ?_); rintro e w1 ⟨rfl, hb1⟩
    go_wp2
    go_ret2
    exact ⟨ret_us (by rw [hR.out.1]) (by rw [hR.out.2]), hb1⟩
  have m1 : ((n : Int) == 0) = false := by rw [beq_eq_false_iff_ne]; omega
  by_cases hns : n = s.size
  · have m2 : s.size ≤ n := by omega
    have hR := Lib.hid (uq_yes (l := s.data.toList) (by unfold uqOk; rw [hq, hsl]; simp only [Bool.and_eq_true, decide_eq_true_eq]; exact ⟨by omega, hns⟩))
    rw [hq] at hR
    clear hq hsl hn hns
    go_enter Tryd.func59, Tryd.ntmps59
    go_wp2_with fail
    (with_reducible refine (unquote' s w hE hsz Hq).mono ?_); rintro e w1 ⟨rfl, hb1⟩
    go_wp2
    go_ret2
    exact ⟨ret_us (by rw [hR.out.1]) (by rw [hR.out.2]), hb1⟩
  · have m2 : n < s.size := by omega
    have hR := Lib.hid (uq_no (l := s.data.toList) (by unfold uqOk; rw [hq, hsl]; simp [hns]))
    clear hq hsl hn hns
    go_enter Tryd.func59, Tryd.ntmps59
    go_wp2_with fail
    (with_reducible refine (unquote' s w hE hsz Hq).mono ?_); rintro e w1 ⟨rfl, hb1⟩
    go_wp2
    go_ret2
    exact ⟨ret_us (by rw [hR.out.1]) (by rw [hR.out.2]), hb1⟩

theorem escapedI (i : Int) (c : UInt8) (hi : Hid (i = (c.toNat : Int))) (w : World) :
    Calls Tryd.prog 49 #[.int .u8 i] w fun e w' => e = .returned (.string (escS c)) ∧ Below w.heap.size w w' := by
  rw [hi.out]; exact escaped c w
/-- the search for the byte whose form stands here -/
def Seek (R : List UInt8) (out out' : List UInt8) (a a' : Nat) (found : Bool) (c : Nat) : Prop :=
  (found = false ∧ out' = out ∧ a' = a ∧ ∀ d, d < c → ¬ escB (UInt8.ofNat d) <+: R) ∨ (found = true ∧ ∃ d n, headQ R = some (d, n) ∧ out' = out ++ [d] ∧ a' = a + n)
theorem headQ_pre {R : List UInt8} {c : UInt8} (h : escB c <+: R) : headQ R = some (c, (escB c).length) := by
  obtain ⟨t, rfl⟩ := h
  exact headQ_esc c t
theorem headQ_nopre {R : List UInt8} (h : ∀ d, d < 256 → ¬ escB (UInt8.ofNat d) <+: R) : headQ R = none := by
  rcases hh : headQ R with _ | ⟨c, n⟩
  · rfl
  · obtain ⟨h1, _⟩ := headQ_form hh
    have hh2 := h c.toNat c.toNat_lt
    rw [UInt8.ofNat_toNat] at hh2
    exact absurd ⟨_, h1.symm⟩ hh2
theorem ext_list2 (s : ByteArray) (a b : Nat) : (s.extract a b).data.toList = (s.data.toList.drop a).take (b - a) := by
  rw [ByteArray.data_extract, Array.toList_extract]
theorem ext_pre {s f : ByteArray} {a : Nat} (h : f.data.toList <+: s.data.toList.drop a) (ha : a ≤ s.size) : a + f.size ≤ s.size ∧ s.extract a (a + f.size) = f := by
  have h1 := h.length_le
  have h2 : f.data.toList.length = f.size := by simp
  have h3 : s.data.toList.length = s.size := by simp
  rw [List.length_drop] at h1
  refine ⟨by omega, ?_⟩
  apply ByteArray.ext
  apply Array.toList_inj.1
  rw [ext_list2, show a + f.size - a = f.data.toList.length by omega]
  exact (List.prefix_iff_eq_take.1 h).symm
theorem pre_ext {s f : ByteArray} {a : Nat} (h : s.extract a (a + f.size) = f) : f.data.toList <+: s.data.toList.drop a := by
  have := congrArg (fun b : ByteArray => b.data.toList) h
  rw [ext_list2] at this
  rw [← this]
  exact List.take_prefix _ _
theorem beq_list {a b : ByteArray} : (a.toList == b.toList) = decide (a = b) := by
  have e : (a.toList = b.toList) ↔ a = b := ⟨fun h => by rw [ByteArray.toList_eq, ByteArray.toList_eq] at h; exact ByteArray.ext (Array.toList_inj.1 h), fun h => by rw [h]⟩
  rw [Bool.eq_iff_iff]
  simp [e]
end Go.Proofs.YtfleamgncodkpaaDoor
namespace Go.Proofs.YtfleamgncodkpaaDoor
/-- what Unquote answers, in lists -/
def uqK (l : List UInt8) : List UInt8 × Int := ((uqS l).data.toList, uqE l)
/-- a quoted form behind its opening quote -/
def qbK (s : List UInt8) : List UInt8 := s.flatMap escB ++ [34]
theorem qb_quote (s : List UInt8) : quoteB s = 34 :: qbK s := rfl
theorem uq_quoted (s : List UInt8) : uqK (34 :: qbK s) = (s, 0) := by
  have h1 := unquoteL_quote s
  rw [qb_quote] at h1
  have h2 : uqOk (34 :: qbK s) = true := by
    unfold uqOk
    rw [h1]
    simp
  obtain ⟨h3, h4⟩ := uq_yes h2
  unfold uqK
  rw [h3, h4, h1]
theorem txOk : TxOk uqK Lib.decDigits qbK := by
  refine ⟨fun n hn => ?_, fun s r => ?_, uq_quoted⟩
  · obtain ⟨h1, h2, _, h4, _⟩ := dec_parts n
    obtain ⟨d1, d2⟩ := dec_digs n
    refine ⟨h4, fun c hc => ?_, ?_, h2⟩
    · have := (digB_iff c).1 (List.all_eq_true.1 h1 c hc)
      unfold dgK
      exact decide_eq_true this
    · rcases Nat.lt_or_ge 9 (Lib.decDigits n).length with h | h
      · exfalso
        have h5 := digs_ge d1 (by omega)
        have h6 : 10 ^ 9 ≤ 10 ^ ((Lib.decDigits n).length - 1) := Nat.pow_le_pow_right (by decide) (by omega)
        rw [d2] at h5
        omega
      · exact h
  · unfold qbK
    rw [List.append_assoc]
    have := clK_quote s r
    rw [List.length_append]
    exact this
end Go.Proofs.YtfleamgncodkpaaDoor
