/- Lexer: the text of a token (text of the program). No condition. Lexer: Print of the program. No condition. -/
import Derived.Test.YtfleamgncodkpaaDoorJ7
import Derived.Test.YtfleamgncodkpaaDoorDig
import Derived.Deep.DeepCutAuto
import Derived.Test.YtfleamgncodkpaaDoorCmp
namespace Go.Proofs.YtfleamgncodkpaaDoor
open Go.RowKit
/-- the text of a token in memory -/
def tx9 (K N : Int) (S : ByteArray) (f : Nat → Bool) : ByteArray :=
  if K = 1 then ⟨#[114, 117, 108, 101]⟩ else if K = 2 then ⟨#[103, 97, 112]⟩ else if K = 3 then Dg N else if K = 4 then ⟨(quoteB S.data.toList).toArray⟩ else if K = 5 then ⟨#[105]⟩ ++ ⟨(quoteB S.data.toList).toArray⟩
  else if sQ f (fun _ => true) = true then ⟨#[46]⟩ else ⟨(prK f).toArray⟩
/-- what the text of tokens reads in memory -/
structure LxW (w : World) : Prop where
  esc : Esc w
  pow : Pow w
  tzt : Tzt w
theorem LxW.below {w w' : World} (h : LxW w) (hb : Below w.heap.size w w') : LxW w' := ⟨h.esc.below hb, h.pow.below hb, h.tzt.below hb⟩
abbrev T8 (w : World) (f : Nat → Bool) (w' : World) : Prop := Below w.heap.size w w' ∧ w.heap.size < w'.heap.size ∧ w'.cell? ⟨w.heap.size, 5, none⟩ = some (.int .u64 ((wK f 0 : Nat) : Int)) ∧ w'.cell? ⟨w.heap.size, 6, none⟩ = some (.int .u64 ((wK f 1 : Nat) : Int)) ∧ w'.cell? ⟨w.heap.size, 7, none⟩ = some (.int .u64 ((wK f 2 : Nat) : Int)) ∧ w'.cell? ⟨w.heap.size, 8, none⟩ = some (.int .u64 ((wK f 3 : Nat) : Int))
section
variable {w w1 w2 : World} {f : Nat → Bool}
theorem T8.of {K F T N : Int} {S : ByteArray} (hb : Below w.heap.size w w1) (h : w1.heap[w.heap.size]? = some (tkO K F T N S f)) : T8 w f w1 :=
  ⟨hb, heap_lt h, Lib.cell_of_heap h 5, Lib.cell_of_heap h 6, Lib.cell_of_heap h 7, Lib.cell_of_heap h 8⟩
theorem T8.drew (h : T8 w f w1) : T8 w f w1.drew := ⟨h.1.drew, h.2⟩
theorem T8.go (h : T8 w f w1) (hb : Below w1.heap.size w1 w2) : T8 w f w2 := by
  obtain ⟨h1, h2, h3, h4, h5, h6⟩ := h
  exact ⟨bt h1 hb, Nat.lt_of_lt_of_le h2 hb.size, (hb.cell (p := ⟨w.heap.size, 5, none⟩) h2).trans h3, (hb.cell (p := ⟨w.heap.size, 6, none⟩) h2).trans h4, (hb.cell (p := ⟨w.heap.size, 7, none⟩) h2).trans h5, (hb.cell (p := ⟨w.heap.size, 8, none⟩) h2).trans h6⟩
end
set_option maxRecDepth 100000 in
set_option maxHeartbeats 8000000 in
theorem text_ (K F T N : Int) (S : ByteArray) (f : Nat → Bool) (hK : 1 ≤ K ∧ K ≤ 6) (hN : -9223372036854775808 ≤ N ∧ N ≤ 9223372036854775807) (hS : S.size ≤ 100000) (u : ByteArray) (hu : Hid (tx9 K N S f = u)) (w : World) (hW : LxW w) :
    Calls Tryd.prog 17 #[tkV K F T N S f] w fun e w' => e = .returned (.string u) ∧ Below w.heap.size w w' := by
  obtain ⟨hN0, hN1⟩ := hN
  have HW := Lib.hid (hW.below (ba (Below.refl _ _) (tkO K F T N S f)))
  have HF := Lib.hid ((Fr.start w).newN (g := w.heap.size) rfl (tkO K F T N S f))
  have hu0 := hu.out
  unfold tx9 at hu0
  have HN := Lib.hid (And.intro hN0 hN1)
  clear hW hu hN0 hN1
  by_cases h1 : K = 1
  · subst h1
    have HU := Lib.hid (show (⟨#[114, 117, 108, 101]⟩ : ByteArray) = u by rw [← hu0]; rfl)
    clear hu0
    go_enter Tryd.func17, Tryd.ntmps17
    go_wp2
    go_ret
    exact ⟨by rw [← HU.out]; rfl, HF.out.bel⟩
  rw [if_neg h1] at hu0
  by_cases h2 : K = 2
  · subst h2
    have HU := Lib.hid (show (⟨#[103, 97, 112]⟩ : ByteArray) = u by rw [← hu0]; rfl)
    clear hu0
    go_enter Tryd.func17, Tryd.ntmps17
    go_wp2
    go_ret
    exact ⟨by rw [← HU.out]; rfl, HF.out.bel⟩
  rw [if_neg h2] at hu0
  by_cases h3 : K = 3
  · subst h3
    have HU := Lib.hid (show Dg N = u by rw [← hu0]; rfl)
    clear hu0
    go_enter Tryd.func17, Tryd.ntmps17
    go_wp2_with fail
    (with_reducible refine (itoa_ N HN.out.1 HN.out.2 _ HW.out.pow).mono ?_); rintro e w1 ⟨rfl, hb1⟩
    have HB := Lib.hid (bt HF.out.bel hb1)
    clear hb1
    go_wp2
    go_ret
    exact ⟨by rw [← HU.out]; rfl, HB.out⟩
  rw [if_neg h3] at hu0
  by_cases h4 : K = 4
  · subst h4
    have HU := Lib.hid (show (⟨(quoteB S.data.toList).toArray⟩ : ByteArray) = u by rw [← hu0]; rfl)
    clear hu0
    go_enter Tryd.func17, Tryd.ntmps17
    go_wp2_with fail
    (with_reducible refine (quote S _ HW.out.esc (by omega)).mono ?_); rintro e w1 ⟨rfl, hb1⟩
    have HB := Lib.hid (bt HF.out.bel hb1)
    clear hb1
    rw [HU.out]
    go_wp2
    go_ret
    exact ⟨rfl, HB.out⟩
  rw [if_neg h4] at hu0
  by_cases h5 : K = 5
  · subst h5
    have hql : (quoteB S.data.toList).length ≤ 500000 := by
      have := qB_len S.data.toList
      unfold qB at this
      unfold quoteB
      simp only [List.length_cons, List.length_append, List.length_nil] at *
      have h9 : S.data.toList.length = S.size := by simp
      omega
    have hqs : (⟨(quoteB S.data.toList).toArray⟩ : ByteArray).size ≤ 500000 := by show (quoteB S.data.toList).toArray.size ≤ _; simpa using hql
    have HU := Lib.hid (show (⟨#[105]⟩ : ByteArray) ++ ⟨(quoteB S.data.toList).toArray⟩ = u by rw [← hu0]; rfl)
    have HQ := Lib.hid (fun W (h : Esc W) => quote S W h (by omega))
    generalize (⟨(quoteB S.data.toList).toArray⟩ : ByteArray) = qs at *
    have j1 : ¬ (9223372036854775807 < 1 + qs.size) := by omega
    clear hu0 hql
    go_enter Tryd.func17, Tryd.ntmps17
    go_wp2_with fail
    (with_reducible refine (HQ.out _ HW.out.esc).mono ?_); rintro e w1 ⟨rfl, hb1⟩
    have HB := Lib.hid (bt HF.out.bel hb1)
    clear hb1
    go_wp2
    go_ret
    exact ⟨by rw [← HU.out]; rfl, HB.out⟩
  rw [if_neg h5] at hu0
  obtain rfl : K = 6 := by omega
  have hst := stQ_sets f (fun _ => true)
  have hT : T8 w f (w.alloc (tkO 6 F T N S f)) := T8.of (ba (Below.refl _ _) _) (alloc1_new _ _)
  have Hal := Lib.hid (fun W => all_ W)
  have HP := Lib.hid (fun W h => print_ f W h)
  generalize (fun _ => true : Nat → Bool) = fa at *
  rcases hq : sQ f fa with _ | _
  · rw [hq] at hst hu0
    have HU := Lib.hid (show (⟨(prK f).toArray⟩ : ByteArray) = u by rw [← hu0]; rfl)
    generalize (⟨(prK f).toArray⟩ : ByteArray) = ps at *
    clear hq hu0
    go_enter Tryd.func17, Tryd.ntmps17
    go_wp2
    generalize w.alloc (tkO 6 F T N S f) = W1 at *
    go_region_held3 (fun w' => T8 w f w')
      (with_reducible (first | exact T8.drew hT | exact T8.go (by assumption) hb2 | assumption))
      ((go_at_call 25; refine (Hal.out _).mono ?_; rintro e w2 ⟨rfl, hb2⟩))
    have hb2' : Below W1.drew.heap.size W1.drew w2 := by assumption
    obtain ⟨hB, hl, c5, c6, c7, c8⟩ : T8 w f w2 := by assumption
    have HW2 := Lib.hid (LxW.below (w := W1.drew) ⟨HW.out.esc, HW.out.pow, HW.out.tzt⟩ hb2')
    have HB := Lib.hid hB
    clear hB hT hb2' HW HF
    go_wp2_with fail
    (with_reducible refine (HP.out _ HW2.out.tzt).mono ?_); rintro e w3 ⟨rfl, hb3⟩
    have HB3 := Lib.hid (bt HB.out hb3)
    clear hb3
    go_wp2
    go_ret
    exact ⟨by rw [← HU.out]; rfl, HB3.out⟩
  · rw [hq] at hst hu0
    have HU := Lib.hid (show (⟨#[46]⟩ : ByteArray) = u by rw [← hu0]; rfl)
    clear hq hu0
    go_enter Tryd.func17, Tryd.ntmps17
    go_wp2
    generalize w.alloc (tkO 6 F T N S f) = W1 at *
    go_region_held3 (fun w' => T8 w f w')
      (with_reducible (first | exact T8.drew hT | exact T8.go (by assumption) hb2 | assumption))
      ((go_at_call 25; refine (Hal.out _).mono ?_; rintro e w2 ⟨rfl, hb2⟩))
    obtain ⟨hB, hl, c5, c6, c7, c8⟩ : T8 w f w2 := by assumption
    have HB := Lib.hid hB
    clear hB hT HW HF
    go_wp2
    go_ret
    exact ⟨by rw [← HU.out]; rfl, HB.out⟩
end Go.Proofs.YtfleamgncodkpaaDoor
namespace Go.Proofs.YtfleamgncodkpaaDoor
open Go.RowKit
abbrev sbs (l : List ByteArray) : List Value := l.map Value.string
theorem stEl : Elem Tryd.prog 42 9 (.string ⟨#[]⟩) 1 16 := ⟨Tryd.underlying42, by kernel_rfl, rfl, by decide⟩
abbrev ck9 (t : T9) : Int := ckT t.1 t.2.2.2.1 t.2.2.2.2.1 t.2.2.2.2.2
abbrev tx (t : T9) : ByteArray := tx9 t.1 t.2.2.2.1 t.2.2.2.2.1 t.2.2.2.2.2
/-- the first token with an error -/
def errL : List T9 → Nat → Option (Nat × Int)
  | [], _ => none
  | t :: r, i => if ck9 t ≠ 0 then some (i, ck9 t) else errL r (i + 1)
def joinT (l : List T9) : ByteArray := ⟨(Lib.join (l.map fun t => (tx t).data.toList) [32]).toArray⟩
/-- what Print answers -/
def prnL (l : List T9) : ByteArray × Nat × Int := match errL l 0 with
  | some (i, e) => (⟨#[]⟩, i, e)
  | none => if 80 < l.length then (⟨#[]⟩, 0, 3) else if 1000 < (joinT l).size then (⟨#[]⟩, 0, 3) else (joinT l, 0, 0)
theorem errL_none {l : List T9} {i : Nat} (h : errL l i = none) : ∀ t ∈ l, ck9 t = 0 := by
  induction l generalizing i with
  | nil => intro t ht; cases ht
  | cons x r ih =>
    intro t ht
    unfold errL at h
    by_cases hx : ck9 x ≠ 0
    · rw [if_pos hx] at h; cases h
    · rw [if_neg hx] at h
      rcases List.mem_cons.1 ht with rfl | ht
      · simpa using hx
      · exact ih h t ht
theorem ck_kind {K N : Int} {S : ByteArray} {f : Nat → Bool} (h : ckT K N S f = 0) : (1 ≤ K ∧ K ≤ 6) ∧ (0 ≤ N ∧ N ≤ 999999999) ∧ S.size ≤ 2000 := by
  unfold ckT at h
  by_cases h1 : K < 1 ∨ 6 < K ∨ (K ≠ 3 ∧ N ≠ 0) ∨ (K ≠ 4 ∧ K ≠ 5 ∧ S ≠ ⟨#[]⟩) ∨ (K ≠ 6 ∧ sQ f (fun _ => false) = false)
  · rw [if_pos h1] at h; cases h
  rw [if_neg h1] at h
  by_cases h2 : N < 0 ∨ 999999999 < N
  · rw [if_pos h2] at h; cases h
  rw [if_neg h2] at h
  by_cases h3 : 2000 < S.size
  · rw [if_pos h3] at h; cases h
  · omega
theorem prK_len (f : Nat → Bool) : (prK f).length ≤ 3000 := by
  have h : ∀ g : Nat → Bool, ((rnK (mbK g)).flatMap itK).length ≤ 2304 := fun g => by
    have h1 := its_len (rnK (mbK g))
    have h2 := rnK_len (mbK g)
    have h3 : (mbK g).length ≤ 256 := by rw [← cnt_mb]; exact bsum_le _ _
    omega
  unfold prK
  have h1 := h f
  have h2 := h fun i => !f i
  split <;> simp only [List.length_cons, List.length_append, List.length_nil] <;> omega
theorem tx_len {t : T9} (h : ck9 t = 0) : (tx t).size ≤ 10000 := by
  obtain ⟨hK, hN, hS⟩ := ck_kind h
  have hq : (quoteB t.2.2.2.2.1.data.toList).length ≤ 9000 := by
    have := qB_len t.2.2.2.2.1.data.toList
    have h9 : t.2.2.2.2.1.data.toList.length = t.2.2.2.2.1.size := by simp
    unfold qB at this
    unfold quoteB
    simp only [List.length_cons, List.length_append, List.length_nil] at *
    omega
  have hp := prK_len t.2.2.2.2.2
  have hz : ∀ l : List UInt8, (⟨l.toArray⟩ : ByteArray).size = l.length := fun l => by show l.toArray.size = _; simp
  unfold tx tx9
  split
  · decide
  split
  · decide
  split
  · have := Dg_size t.2.2.2.1 (by omega) (by omega); omega
  split
  · rw [hz]; omega
  split
  · have h1 : (⟨#[105]⟩ : ByteArray).size = 1 := rfl
    have h2 := hz (quoteB t.2.2.2.2.1.data.toList)
    rw [ByteArray.size_append, h1, h2]
    omega
  split
  · decide
  · rw [hz]; omega
theorem join_len (xs : List (List UInt8)) (h : ∀ x ∈ xs, x.length ≤ 10000) : (Lib.join xs [32]).length ≤ 10001 * xs.length := by
  induction xs with
  | nil => simp [Lib.join]
  | cons x r ih =>
    have h1 := h x List.mem_cons_self
    have h2 := ih fun y hy => h y (List.mem_cons_of_mem _ hy)
    cases r with
    | nil => simp [Lib.join] at *; omega
    | cons y t => simp [Lib.join] at *; omega
theorem errR {l : List T9} {k : Nat} (hk : k < l.length) (h : errL l 0 = errL (l.drop k) k) : errL l 0 = if ck9 l[k] ≠ 0 then some (k, ck9 l[k]) else errL (l.drop (k + 1)) (k + 1) := by
  rw [h, List.drop_eq_getElem_cons hk, errL]
def RetPr (w : World) (r : ByteArray × Nat × Int) (e : Ending) (w' : World) : Prop := e = .returned (.tuple #[.string r.1, .int .i64 (r.2.1 : Int), .int .i64 r.2.2]) ∧ Below w.heap.size w w'
theorem RetPr.of {w w' : World} {r : ByteArray × Nat × Int} {s : ByteArray} {n : Nat} {x er : Int} (h : r = (s, n, er)) (hx : x = (n : Int)) (hb : Below w.heap.size w w') : RetPr w r (.returned (.tuple #[.string s, .int .i64 x, .int .i64 er])) w' := by
  subst h hx; exact ⟨rfl, hb⟩
theorem take_tx (l : List T9) (k : Nat) (hk : k < l.length) : sbs ((l.take (k + 1)).map tx) = sbs ((l.take k).map tx) ++ [.string (tx l[k])] := by
  rw [List.take_add_one, List.getElem?_eq_getElem hk, List.map_append, sbs, sbs, List.map_append]
  rfl
theorem join_none (A : Option Addr) (c : Nat) (w : World) : Calls Tryd.prog 18 #[.slice A 0 c, .string ⟨#[32]⟩] w fun e w' => e = .returned (.string ⟨#[]⟩) ∧ Below w.heap.size w w' :=
  (Tryd.strings_Join_none A c ⟨#[32]⟩ w).mono fun e w' ⟨h1, h2⟩ => ⟨h1, by rw [h2]; exact Below.refl _ _⟩
theorem join_ (xs : List ByteArray) (w : World) (A : Option Addr) (c : Nat) (h : Reads w w.heap.size 1 A xs.length (sbs xs)) (hn : 0 < xs.length) (hc : xs.length ≤ c) (hN : xs.length ≤ 80) (hl : ∀ x ∈ xs, x.size ≤ 10000) (u : ByteArray) (hu : Hid ((⟨(Lib.join (xs.map (·.data.toList)) [32]).toArray⟩ : ByteArray) = u)) :
    Calls Tryd.prog 18 #[.slice A xs.length c, .string ⟨#[32]⟩] w fun e w' => e = .returned (.string u) ∧ Below w.heap.size w w' := by
  obtain ⟨b, off, rfl, hb, hcell⟩ := h.2 hn
  have hj := join_len (xs.map (·.data.toList)) (fun x hx => by
    obtain ⟨y, hy, rfl⟩ := List.mem_map.1 hx
    have := hl y hy
    simpa using this)
  rw [List.length_map] at hj
  rw [← hu.out]
  exact Tryd.strings_Join b off c xs ⟨#[32]⟩ w (fun j x hx => hcell j _ (by rw [List.getElem?_map, hx]; rfl)) hb (by omega) hc (by show (Lib.join _ [32]).length ≤ _; omega)
end Go.Proofs.YtfleamgncodkpaaDoor
