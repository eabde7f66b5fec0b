/- Lexer: the text of a token (text of the program). No condition. Lexer: Print of the program. No condition. How a law of this seat is closed: arguments that are read again behind a call that leaves all that stood; the row; the card. No condition. The table of escapes, out of what the row lists. What the rows of the lexer lay: the table of escapes, of powers, of trailing zeros. -/
import Derived.Test.YtcopnpllaoahaaaGreatDoorJ7
import Derived.Test.YtcopnpllaoahaaaGreatDoorDig
import Derived.Deep.DeepCutAuto
import Derived.Test.YtcopnpllaoahaaaGreatDoorCmp
import Derived.Test.YtcopnpllaoahaaaGreatDoorOwn
import Derived.Test.YtcopnpllaoahaaaGreatDoorCards
import Derived.Test.YtcopnpllaoahaaaGreatDoorTie
import Derived.ProofKit
import Derived.OpenShut
import Derived.ReadAgain
import Derived.ChangeMaps5
import Derived.Deep.Slices
import Derived.Deep.Fields
import Derived.Deep.DeepHandedRow
import Derived.Lib.LaidTab
import Derived.Test.YtcopnpllaoahaaaGreatDoorW1
import Derived.Lib.TrailingZeros
namespace Go.Proofs.YtcopnpllaoahaaaGreatDoor
open Go.RowKit
/-- the text of a token in memory -/
def tx9 (K N : Int) (S : ByteArray) (f : Nat → Bool) : ByteArray :=
  if K = 1 then ⟨#[114, 117, 108, 101]⟩ else if K = 2 then ⟨#[103, 97, 112]⟩ else if K = 3 then Dg N else if K = 4 then ⟨(quoteB S.data.toList).toArray⟩ else if K = 5 then ⟨#[105]⟩ ++ ⟨(quoteB S.data.toList).toArray⟩
  else if sQ f (fun _ => true) = true then ⟨#[46]⟩ else ⟨(prK f).toArray⟩
/-- what the text of tokens reads in memory -/
structure LxW (w : World) : Prop where
  esc : Esc w
  pow : Pow w
  tzt : Tzt w
theorem LxW.below {w w' : World} (h : LxW w) (hb : Below w.heap.size w w') : LxW w' := ⟨h.esc.below hb, h.pow.below hb, h.tzt.below hb⟩
abbrev T8 (w : World) (f : Nat → Bool) (w' : World) : Prop := Below w.heap.size w w' ∧ w.heap.size < w'.heap.size ∧ w'.cell? ⟨w.heap.size, 5, none⟩ = some (.int .u64 ((wK f 0 : Nat) : Int)) ∧ w'.cell? ⟨w.heap.size, 6, none⟩ = some (.int .u64 ((wK f 1 : Nat) : Int)) ∧ w'.cell? ⟨w.heap.size, 7, none⟩ = some (.int .u64 ((wK f 2 : Nat) : Int)) ∧ w'.cell? ⟨w.heap.size, 8, none⟩ = some (.int .u64 ((wK f 3 : Nat) : Int))
section
variable {w w1 w2 : World} {f : Nat → Bool}
theorem T8.of {K F T N : Int} {S : ByteArray} (hb : Below w.heap.size w w1) (h : w1.heap[w.heap.size]? = some (tkO K F T N S f)) : T8 w f w1 :=
  ⟨hb, heap_lt h, Lib.cell_of_heap h 5, Lib.cell_of_heap h 6, Lib.cell_of_heap h 7, Lib.cell_of_heap h 8⟩
theorem T8.drew (h : T8 w f w1) : T8 w f w1.drew := ⟨h.1.drew, h.2⟩
theorem T8.go (h : T8 w f w1) (hb : Below w1.heap.size w1 w2) : T8 w f w2 := by
  obtain ⟨h1, h2, h3, h4, h5, h6⟩ := h
  exact ⟨bt h1 hb, Nat.lt_of_lt_of_le h2 hb.size, (hb.cell (p := ⟨w.heap.size, 5, none⟩) h2).trans h3, (hb.cell (p := ⟨w.heap.size, 6, none⟩) h2).trans h4, (hb.cell (p := ⟨w.heap.size, 7, none⟩) h2).trans h5, (hb.cell (p := ⟨w.heap.size, 8, none⟩) h2).trans h6⟩
end
set_option maxRecDepth 100000 in
set_option maxHeartbeats 8000000 in
theorem text_ (K F T N : Int) (S : ByteArray) (f : Nat → Bool) (hK : 1 ≤ K ∧ K ≤ 6) (hN : -9223372036854775808 ≤ N ∧ N ≤ 9223372036854775807) (hS : S.size ≤ 100000) (u : ByteArray) (hu : Hid (tx9 K N S f = u)) (w : World) (hW : LxW w) :
    Calls Tryz.prog 66 #[tkV K F T N S f] w fun e w' => e = .returned (.string u) ∧ Below w.heap.size w w' := by
  obtain ⟨hN0, hN1⟩ := hN
  have HW := Lib.hid (hW.below (ba (Below.refl _ _) (tkO K F T N S f)))
  have HF := Lib.hid ((Fr.start w).newN (g := w.heap.size) rfl (tkO K F T N S f))
  have hu0 := hu.out
  unfold tx9 at hu0
  have HN := Lib.hid (And.intro hN0 hN1)
  clear hW hu hN0 hN1
  by_cases h1 : K = 1
  · subst h1
    have HU := Lib.hid (show (⟨#[114, 117, 108, 101]⟩ : ByteArray) = u by rw [← hu0]; rfl)
    clear hu0
    go_enter Tryz.func66, Tryz.ntmps66
    go_wp2
    go_ret
    exact ⟨by rw [← HU.out]; rfl, HF.out.bel⟩
  rw [if_neg h1] at hu0
  by_cases h2 : K = 2
  · subst h2
    have HU := Lib.hid (show (⟨#[103, 97, 112]⟩ : ByteArray) = u by rw [← hu0]; rfl)
    clear hu0
    go_enter Tryz.func66, Tryz.ntmps66
    go_wp2
    go_ret
    exact ⟨by rw [← HU.out]; rfl, HF.out.bel⟩
  rw [if_neg h2] at hu0
  by_cases h3 : K = 3
  · subst h3
    have HU := Lib.hid (show Dg N = u by rw [← hu0]; rfl)
    clear hu0
    go_enter Tryz.func66, Tryz.ntmps66
    go_wp2_with fail
    (with_reducible refine (itoa_ N HN.out.1 HN.out.2 _ HW.out.pow).mono ?_); rintro e w1 ⟨rfl, hb1⟩
    have HB := Lib.hid (bt HF.out.bel hb1)
    clear hb1
    go_wp2
    go_ret
    exact ⟨by rw [← HU.out]; rfl, HB.out⟩
  rw [if_neg h3] at hu0
  by_cases h4 : K = 4
  · subst h4
    have HU := Lib.hid (show (⟨(quoteB S.data.toList).toArray⟩ : ByteArray) = u by rw [← hu0]; rfl)
    clear hu0
    go_enter Tryz.func66, Tryz.ntmps66
    go_wp2_with fail
    (with_reducible refine (quote S _ HW.out.esc (by omega)).mono ?_); rintro e w1 ⟨rfl, hb1⟩
    have HB := Lib.hid (bt HF.out.bel hb1)
    clear hb1
    rw [HU.out]
    go_wp2
    go_ret
    exact ⟨rfl, HB.out⟩
  rw [if_neg h4] at hu0
  by_cases h5 : K = 5
  · subst h5
    have hql : (quoteB S.data.toList).length ≤ 500000 := by
      have := qB_len S.data.toList
      unfold qB at this
      unfold quoteB
      simp only [List.length_cons, List.length_append, List.length_nil] at *
      have h9 : S.data.toList.length = S.size := by simp
      omega
    have hqs : (⟨(quoteB S.data.toList).toArray⟩ : ByteArray).size ≤ 500000 := by show (quoteB S.data.toList).toArray.size ≤ _; simpa using hql
    have HU := Lib.hid (show (⟨#[105]⟩ : ByteArray) ++ ⟨(quoteB S.data.toList).toArray⟩ = u by rw [← hu0]; rfl)
    have HQ := Lib.hid (fun W (h : Esc W) => quote S W h (by omega))
    generalize (⟨(quoteB S.data.toList).toArray⟩ : ByteArray) = qs at *
    have j1 : ¬ (9223372036854775807 < 1 + qs.size) := by omega
    clear hu0 hql
    go_enter Tryz.func66, Tryz.ntmps66
    go_wp2_with fail
    (with_reducible refine (HQ.out _ HW.out.esc).mono ?_); rintro e w1 ⟨rfl, hb1⟩
    have HB := Lib.hid (bt HF.out.bel hb1)
    clear hb1
    go_wp2
    go_ret
    exact ⟨by rw [← HU.out]; rfl, HB.out⟩
  rw [if_neg h5] at hu0
  obtain rfl : K = 6 := by omega
  have hst := stQ_sets f (fun _ => true)
  have hT : T8 w f (w.alloc (tkO 6 F T N S f)) := T8.of (ba (Below.refl _ _) _) (alloc1_new _ _)
  have Hal := Lib.hid (fun W => all_ W)
  have HP := Lib.hid (fun W h => print_ f W h)
  generalize (fun _ => true : Nat → Bool) = fa at *
  rcases hq : sQ f fa with _ | _
  · rw [hq] at hst hu0
    have HU := Lib.hid (show (⟨(prK f).toArray⟩ : ByteArray) = u by rw [← hu0]; rfl)
    generalize (⟨(prK f).toArray⟩ : ByteArray) = ps at *
    clear hq hu0
    go_enter Tryz.func66, Tryz.ntmps66
    go_wp2
    generalize w.alloc (tkO 6 F T N S f) = W1 at *
    go_region_held3 (fun w' => T8 w f w')
      (with_reducible (first | exact T8.drew hT | exact T8.go (by assumption) hb2 | assumption))
      ((go_at_call 62; refine (Hal.out _).mono ?_; rintro e w2 ⟨rfl, hb2⟩))
    have hb2' : Below W1.drew.heap.size W1.drew w2 := by assumption
    obtain ⟨hB, hl, c5, c6, c7, c8⟩ : T8 w f w2 := by assumption
    have HW2 := Lib.hid (LxW.below (w := W1.drew) ⟨HW.out.esc, HW.out.pow, HW.out.tzt⟩ hb2')
    have HB := Lib.hid hB
    clear hB hT hb2' HW HF
    go_wp2_with fail
    (with_reducible refine (HP.out _ HW2.out.tzt).mono ?_); rintro e w3 ⟨rfl, hb3⟩
    have HB3 := Lib.hid (bt HB.out hb3)
    clear hb3
    go_wp2
    go_ret
    exact ⟨by rw [← HU.out]; rfl, HB3.out⟩
  · rw [hq] at hst hu0
    have HU := Lib.hid (show (⟨#[46]⟩ : ByteArray) = u by rw [← hu0]; rfl)
    clear hq hu0
    go_enter Tryz.func66, Tryz.ntmps66
    go_wp2
    generalize w.alloc (tkO 6 F T N S f) = W1 at *
    go_region_held3 (fun w' => T8 w f w')
      (with_reducible (first | exact T8.drew hT | exact T8.go (by assumption) hb2 | assumption))
      ((go_at_call 62; refine (Hal.out _).mono ?_; rintro e w2 ⟨rfl, hb2⟩))
    obtain ⟨hB, hl, c5, c6, c7, c8⟩ : T8 w f w2 := by assumption
    have HB := Lib.hid hB
    clear hB hT HW HF
    go_wp2
    go_ret
    exact ⟨by rw [← HU.out]; rfl, HB.out⟩
end Go.Proofs.YtcopnpllaoahaaaGreatDoor
namespace Go.Proofs.YtcopnpllaoahaaaGreatDoor
open Go.RowKit
abbrev sbs (l : List ByteArray) : List Value := l.map Value.string
theorem stEl : Elem Tryz.prog 76 9 (.string ⟨#[]⟩) 1 16 := ⟨Tryz.underlying76, by kernel_rfl, rfl, by decide⟩
abbrev ck9 (t : T9) : Int := ckT t.1 t.2.2.2.1 t.2.2.2.2.1 t.2.2.2.2.2
abbrev tx (t : T9) : ByteArray := tx9 t.1 t.2.2.2.1 t.2.2.2.2.1 t.2.2.2.2.2
/-- the first token with an error -/
def errL : List T9 → Nat → Option (Nat × Int)
  | [], _ => none
  | t :: r, i => if ck9 t ≠ 0 then some (i, ck9 t) else errL r (i + 1)
def joinT (l : List T9) : ByteArray := ⟨(Lib.join (l.map fun t => (tx t).data.toList) [32]).toArray⟩
/-- what Print answers -/
def prnL (l : List T9) : ByteArray × Nat × Int := match errL l 0 with
  | some (i, e) => (⟨#[]⟩, i, e)
  | none => if 80 < l.length then (⟨#[]⟩, 0, 3) else if 1000 < (joinT l).size then (⟨#[]⟩, 0, 3) else (joinT l, 0, 0)
theorem errL_none {l : List T9} {i : Nat} (h : errL l i = none) : ∀ t ∈ l, ck9 t = 0 := by
  induction l generalizing i with
  | nil => intro t ht; cases ht
  | cons x r ih =>
    intro t ht
    unfold errL at h
    by_cases hx : ck9 x ≠ 0
    · rw [if_pos hx] at h; cases h
    · rw [if_neg hx] at h
      rcases List.mem_cons.1 ht with rfl | ht
      · simpa using hx
      · exact ih h t ht
theorem ck_kind {K N : Int} {S : ByteArray} {f : Nat → Bool} (h : ckT K N S f = 0) : (1 ≤ K ∧ K ≤ 6) ∧ (0 ≤ N ∧ N ≤ 999999999) ∧ S.size ≤ 2000 := by
  unfold ckT at h
  by_cases h1 : K < 1 ∨ 6 < K ∨ (K ≠ 3 ∧ N ≠ 0) ∨ (K ≠ 4 ∧ K ≠ 5 ∧ S ≠ ⟨#[]⟩) ∨ (K ≠ 6 ∧ sQ f (fun _ => false) = false)
  · rw [if_pos h1] at h; cases h
  rw [if_neg h1] at h
  by_cases h2 : N < 0 ∨ 999999999 < N
  · rw [if_pos h2] at h; cases h
  rw [if_neg h2] at h
  by_cases h3 : 2000 < S.size
  · rw [if_pos h3] at h; cases h
  · omega
theorem prK_len (f : Nat → Bool) : (prK f).length ≤ 3000 := by
  have h : ∀ g : Nat → Bool, ((rnK (mbK g)).flatMap itK).length ≤ 2304 := fun g => by
    have h1 := its_len (rnK (mbK g))
    have h2 := rnK_len (mbK g)
    have h3 : (mbK g).length ≤ 256 := by rw [← cnt_mb]; exact bsum_le _ _
    omega
  unfold prK
  have h1 := h f
  have h2 := h fun i => !f i
  split <;> simp only [List.length_cons, List.length_append, List.length_nil] <;> omega
theorem tx_len {t : T9} (h : ck9 t = 0) : (tx t).size ≤ 10000 := by
  obtain ⟨hK, hN, hS⟩ := ck_kind h
  have hq : (quoteB t.2.2.2.2.1.data.toList).length ≤ 9000 := by
    have := qB_len t.2.2.2.2.1.data.toList
    have h9 : t.2.2.2.2.1.data.toList.length = t.2.2.2.2.1.size := by simp
    unfold qB at this
    unfold quoteB
    simp only [List.length_cons, List.length_append, List.length_nil] at *
    omega
  have hp := prK_len t.2.2.2.2.2
  have hz : ∀ l : List UInt8, (⟨l.toArray⟩ : ByteArray).size = l.length := fun l => by show l.toArray.size = _; simp
  unfold tx tx9
  split
  · decide
  split
  · decide
  split
  · have := Dg_size t.2.2.2.1 (by omega) (by omega); omega
  split
  · rw [hz]; omega
  split
  · have h1 : (⟨#[105]⟩ : ByteArray).size = 1 := rfl
    have h2 := hz (quoteB t.2.2.2.2.1.data.toList)
    rw [ByteArray.size_append, h1, h2]
    omega
  split
  · decide
  · rw [hz]; omega
theorem join_len (xs : List (List UInt8)) (h : ∀ x ∈ xs, x.length ≤ 10000) : (Lib.join xs [32]).length ≤ 10001 * xs.length := by
  induction xs with
  | nil => simp [Lib.join]
  | cons x r ih =>
    have h1 := h x List.mem_cons_self
    have h2 := ih fun y hy => h y (List.mem_cons_of_mem _ hy)
    cases r with
    | nil => simp [Lib.join] at *; omega
    | cons y t => simp [Lib.join] at *; omega
theorem errR {l : List T9} {k : Nat} (hk : k < l.length) (h : errL l 0 = errL (l.drop k) k) : errL l 0 = if ck9 l[k] ≠ 0 then some (k, ck9 l[k]) else errL (l.drop (k + 1)) (k + 1) := by
  rw [h, List.drop_eq_getElem_cons hk, errL]
def RetPr (w : World) (r : ByteArray × Nat × Int) (e : Ending) (w' : World) : Prop := e = .returned (.tuple #[.string r.1, .int .i64 (r.2.1 : Int), .int .i64 r.2.2]) ∧ Below w.heap.size w w'
theorem RetPr.of {w w' : World} {r : ByteArray × Nat × Int} {s : ByteArray} {n : Nat} {x er : Int} (h : r = (s, n, er)) (hx : x = (n : Int)) (hb : Below w.heap.size w w') : RetPr w r (.returned (.tuple #[.string s, .int .i64 x, .int .i64 er])) w' := by
  subst h hx; exact ⟨rfl, hb⟩
theorem take_tx (l : List T9) (k : Nat) (hk : k < l.length) : sbs ((l.take (k + 1)).map tx) = sbs ((l.take k).map tx) ++ [.string (tx l[k])] := by
  rw [List.take_add_one, List.getElem?_eq_getElem hk, List.map_append, sbs, sbs, List.map_append]
  rfl
theorem join_none (A : Option Addr) (c : Nat) (w : World) : Calls Tryz.prog 67 #[.slice A 0 c, .string ⟨#[32]⟩] w fun e w' => e = .returned (.string ⟨#[]⟩) ∧ Below w.heap.size w w' :=
  (Tryz.strings_Join_none A c ⟨#[32]⟩ w).mono fun e w' ⟨h1, h2⟩ => ⟨h1, by rw [h2]; exact Below.refl _ _⟩
theorem join_ (xs : List ByteArray) (w : World) (A : Option Addr) (c : Nat) (h : Reads w w.heap.size 1 A xs.length (sbs xs)) (hn : 0 < xs.length) (hc : xs.length ≤ c) (hN : xs.length ≤ 80) (hl : ∀ x ∈ xs, x.size ≤ 10000) (u : ByteArray) (hu : Hid ((⟨(Lib.join (xs.map (·.data.toList)) [32]).toArray⟩ : ByteArray) = u)) :
    Calls Tryz.prog 67 #[.slice A xs.length c, .string ⟨#[32]⟩] w fun e w' => e = .returned (.string u) ∧ Below w.heap.size w w' := by
  obtain ⟨b, off, rfl, hb, hcell⟩ := h.2 hn
  have hj := join_len (xs.map (·.data.toList)) (fun x hx => by
    obtain ⟨y, hy, rfl⟩ := List.mem_map.1 hx
    have := hl y hy
    simpa using this)
  rw [List.length_map] at hj
  rw [← hu.out]
  exact Tryz.strings_Join b off c xs ⟨#[32]⟩ w (fun j x hx => hcell j _ (by rw [List.getElem?_map, hx]; rfl)) hb (by omega) hc (by show (Lib.join _ [32]).length ≤ _; omega)
end Go.Proofs.YtcopnpllaoahaaaGreatDoor
namespace Go.Proofs.YtcopnpllaoahaaaGreatDoor
open Go.ChangeShapes Go.WideShapes Go.ChangeAt Go.RowKit Go.Deep
section
variable {H : Type} {enc : TypeId × Value → H} {P : Program}
theorem same_of_below {W W' : World} (hb : Below W.heap.size W W') {p : MemPlace} (hp : p.block < W.heap.size) : W.sameAt W' p := by
  cases p with
  | cell b off => exact hb.cell (p := ⟨b, off, none⟩) hp
  | map b => exact hb.block b hp
theorem Trod_below {W W' : World} {base : Nat} {sp : Nat → Bool} {held : Bool} (hb : Below W.heap.size W W') {t : TypeId} {v : Value} {d : DataW H} {ps : List MemPlace} (h : DataW.Trod enc P W base sp held t v d ps) (hp : ∀ p ∈ ps, p.block < W.heap.size) :
    DataW.Trod enc P W' base sp held t v d ps := by
  obtain ⟨n, hn⟩ := h
  exact ⟨n, DataW.trod_carry n _ _ _ hn fun p h => same_of_below hb (hp p h)⟩
theorem TrodAll_below {W W' : World} {base : Nat} {sp : Nat → Bool} {held : Bool} (hb : Below W.heap.size W W') : ∀ {ts : List TypeId} {vs : List Value} {ds : List (DataW H)} {ps : List MemPlace},
    DataW.TrodAll enc P W base sp held ts vs ds ps → (∀ p ∈ ps, p.block < W.heap.size) → DataW.TrodAll enc P W' base sp held ts vs ds ps
  | [], [], [], _, h, _ => h
  | _ :: _, _ :: _, _ :: _, _, ⟨p, q, h1, h2, e⟩, hp =>
    ⟨p, q, Trod_below hb h1 (fun x hx => hp x (by rw [e]; exact List.mem_append_left _ hx)), TrodAll_below hb h2 (fun x hx => hp x (by rw [e]; exact List.mem_append_right _ hx)), e⟩
theorem TrodAll_again (hl : laidOutB P = true) (hm : mapsRowed P = true) (hz : ∀ t e, t < P.types.size → P.underlying t = some (.slice e) → 0 < P.cellsOf e) {W W' : World} (hb : Below W.heap.size W W') {ts : List TypeId} {vs : List Value} {ds : List (DataW H)} {ps : List MemPlace}
    (hT : ∀ t ∈ ts, t < P.types.size) (h : DataW.TrodAll enc P W 0 (fun _ => true) true ts vs ds ps) {sp : Nat → Bool} (hs : ∀ p ∈ ps, sp p.block = true) : DataW.TrodAll enc P W' 0 sp true ts vs ds ps :=
  (TrodAll_below hb h h.lt).respare (kids_rows hl hm) hz hT hs

/-- the row's last step: the law returned true, and all that stood stands -/
theorem post_law (hl : laidOutB P = true) (hm : mapsRowed P = true) (hz : ∀ t e, t < P.types.size → P.underlying t = some (.slice e) → 0 < P.cellsOf e) {f : Func} {s : ChangeSpec} {fresh handsOn again : Bool} {W W' : World} {args : Array Value} {ds gs : List (DataW H)} {before : List MemPlace} {tb : TypeId}
    (hW : DataW.Whole enc P f.params.toList s.vars false W args.toList ds gs before) (hv : s.vars = []) (hT : ∀ t ∈ f.params.toList, t < P.types.size) (hr : f.resultTypes = #[tb]) (htb : P.underlying tb = some .bool)
    (hfn : s.fn H (ds ++ gs) = { results := [.lit (.bool true)], args := ds }) (hb : Below W.heap.size W W') :
    s.post enc P f false fresh handsOn again W args (.bool true) W' := by
  have hlt : ∀ p ∈ before, p.block < W.heap.size := fun p hp => hW.lt p hp
  have hold : ∀ p ∈ before, (fun b => decide (b < W.heap.size)) p.block = true := fun p hp => by simpa using hlt p hp
  have hW2 := hW
  obtain ⟨p, q, hA, hV, hps, hzf, hn⟩ := hW
  rw [hv] at hV
  obtain ⟨rfl, rfl⟩ := trodVars_none hV
  rw [List.append_nil] at hps
  subst hps
  have hargs : ∀ sp : Nat → Bool, (∀ p ∈ before, sp p.block = true) → DataW.TrodAll enc P W' 0 sp true f.params.toList args.toList (s.fn H (ds ++ [])).args before := fun sp hs => by
    rw [hfn]
    exact TrodAll_again hl hm hz hb hT hA hs
  have hres : ∀ (b : Nat) (sp : Nat → Bool) (hd : Bool), DataW.TrodAll enc P W' b sp hd f.resultTypes.toList ((Value.bool true).resultList f.resultTypes.size) (s.fn H (ds ++ [])).results [] := fun b sp hd => by
    rw [hfn, hr]
    exact trodAll_mk1 (shut_bool htb true)
  have hvars : ∀ sp : Nat → Bool, DataW.TrodVars enc P W' sp s.vars (s.fn H (ds ++ [])).vars [] := fun sp => by rw [hfn, hv]; rfl
  refine ⟨ds, [], before, [], before, [], hW2, hres _ _ _, hargs _ hold, hvars _, World.keptBut_mono (fun p hp => ⟨hp, ?_⟩) (hb.frame (· ∈ before)), fun _ => ?_⟩
  · exact Or.inr (Or.inl hp)
  · refine ⟨?_, _, _, ([] ++ before) ++ [], ⟨[] ++ before, [], trodAll_append (hargs _ (fun _ _ => rfl)) (hres _ _ _), hvars _, rfl, ?_, ?_⟩, ?_⟩
    · exact ok_one hr rfl (okWide_bool_mk htb _)
    · intro b off hp
      have hin : MemPlace.cell b off ∈ before := by simpa using hp
      rw [hb.frozen (hlt _ hin)]
      exact hzf b off hin
    · intro ha; cases ha
    · intro p hp _
      simpa using hp
end
theorem laidOut : laidOutB Tryz.prog = true := by kernel_rfl
theorem rowed : mapsRowed Tryz.prog = true := by kernel_rfl
theorem slicesFull : ∀ t e, t < Tryz.prog.types.size → Tryz.prog.underlying t = some (.slice e) → 0 < Tryz.prog.cellsOf e := slices_full_of Tryz.prog (by kernel_rfl)
theorem own : ownKnob Tryz.prog.godebug = none := by kernel_rfl

/-- a listed variable stands as it was laid -/
theorem laidVars_mem {P : Program} {w : World} {n : String} {d : DataW Unit} : ∀ {l : List (String × DataW Unit)} {ps : List MemPlace}, DataW.LaidVars P w l ps → (n, d) ∈ l →
    ∃ g t cs fuel p, P.globalNamed n = some g ∧ (P.globals[g]?).map (·.type) = some t ∧ w.var? P n = some cs ∧ DataW.trod (fun _ => ()) P w 0 (fun _ => true) false fuel t cs.toList = some (d, p)
  | [], _, _, hm => by cases hm
  | (n', d') :: r, ps, h, hm => by
    obtain ⟨g, t, cs, fuel, p, q, h1, h2, h3, h4, h5, _⟩ := h
    rcases List.mem_cons.1 hm with e | hm
    · injection e with e1 e2
      subst e1 e2
      exact ⟨g, t, cs, fuel, p, h1, h2, h3, h4⟩
    · exact laidVars_mem h5 hm
end Go.Proofs.YtcopnpllaoahaaaGreatDoor
namespace Go.Proofs.YtcopnpllaoahaaaGreatDoor
open Go.ChangeShapes Go.WideShapes Go.ChangeAt Go.RowKit Go.Deep
theorem u8Cells : Tryz.prog.cellsOf 5 = 1 := by kernel_rfl
theorem pairCells : Tryz.prog.cellsOf 155 = 2 := by kernel_rfl
theorem pairsCells : Tryz.prog.cellsOf 156 = 10 := by kernel_rfl
theorem escGlobal : Tryz.prog.globalNamed "dragnet/words.escapes" = some 4 := by kernel_rfl
theorem escType : (Tryz.prog.globals[4]?).map (·.type) = some 156 := by kernel_rfl
set_option maxRecDepth 100000 in
theorem pair_of {W : World} {b : Nat} {sp : Nat → Bool} {hd : Bool} {m : Nat} {cs : List Value} {y z : Int} {p : List MemPlace}
    (h : DataW.trod (fun _ => ()) Tryz.prog W b sp hd m 155 cs = some (.agg [.lit (.int .u8 y), .lit (.int .u8 z)], p)) : cs = [.int .u8 y, .int .u8 z] := by
  obtain ⟨xs, n, _, hx, hl, hxl, hf⟩ := DataW.trod_struct Tryz.underlying155 h
  rw [pairCells] at hl
  match cs, hl, xs, hxl with
  | [c0, c1], _, [x0, x1], _ =>
    have h0 : DataW.trod (fun _ => ()) Tryz.prog W b sp hd n 5 (([c0, c1].drop 0).take (Tryz.prog.cellsOf 5)) = [x0, x1][0]? := hf 0 _ rfl
    have h1 : DataW.trod (fun _ => ()) Tryz.prog W b sp hd n 5 (([c0, c1].drop 1).take (Tryz.prog.cellsOf 5)) = [x0, x1][1]? := hf 1 _ rfl
    rw [u8Cells] at h0 h1
    obtain ⟨k0, e0, e0', _⟩ := DataW.trod_int Tryz.underlying5 h0
    obtain ⟨k1, e1, e1', _⟩ := DataW.trod_int Tryz.underlying5 h1
    simp at e0 e1
    subst e0 e1
    subst e0' e1'
    simp at hx
    obtain ⟨⟨rfl, rfl⟩, _⟩ := hx
    rfl
set_option maxRecDepth 100000 in
theorem esc_of {l : List (String × DataW Unit)} {W : World} (h : laidMet Tryz.prog l W) (hm : ("dragnet/words.escapes", Rows.laid_dragnet_words_escapes) ∈ l) : Esc W := by
  obtain ⟨ps, hv, _, _⟩ := h
  obtain ⟨g, t, cs, fuel, p, hg, ht, hvar, htr⟩ := laidVars_mem hv hm
  obtain rfl := Option.some.inj (escGlobal.symm.trans hg)
  obtain rfl := Option.some.inj (escType.symm.trans ht)
  have hcell := World.var?_cell escGlobal hvar
  obtain ⟨xs, m, _, hx, hl, hxl, hel⟩ := DataW.trod_array Tryz.underlying156 htr
  rw [pairsCells] at hl
  obtain ⟨cl⟩ := cs
  match cl, hl, xs, hxl with
  | [c0, c1, c2, c3, c4, c5, c6, c7, c8, c9], _, [x0, x1, x2, x3, x4], _ =>
    simp only [Rows.laid_dragnet_words_escapes, Prod.mk.injEq, DataW.agg.injEq, List.map_cons, List.map_nil, List.cons.injEq, and_true] at hx
    obtain ⟨⟨h0, h1, h2, h3, h4⟩, _⟩ := hx
    have g0 := hel 0 (by decide)
    have g1 := hel 1 (by decide)
    have g2 := hel 2 (by decide)
    have g3 := hel 3 (by decide)
    have g4 := hel 4 (by decide)
    simp only [pairCells] at g0 g1 g2 g3 g4
    obtain ⟨a0, p0⟩ := x0
    obtain ⟨a1, p1⟩ := x1
    obtain ⟨a2, p2⟩ := x2
    obtain ⟨a3, p3⟩ := x3
    obtain ⟨a4, p4⟩ := x4
    simp only at h0 h1 h2 h3 h4
    subst h0 h1 h2 h3 h4
    have r0 := pair_of (cs := [c0, c1]) g0
    have r1 := pair_of (cs := [c2, c3]) g1
    have r2 := pair_of (cs := [c4, c5]) g2
    have r3 := pair_of (cs := [c6, c7]) g3
    have r4 := pair_of (cs := [c8, c9]) g4
    injection r0 with q0 r0; injection r0 with q1 _
    injection r1 with q2 r1; injection r1 with q3 _
    injection r2 with q4 r2; injection r2 with q5 _
    injection r3 with q6 r3; injection r3 with q7 _
    injection r4 with q8 r4; injection r4 with q9 _
    subst q0 q1 q2 q3 q4 q5 q6 q7 q8 q9
    refine ⟨?_, fun i _ => by rw [hcell i]; simp [escCells]⟩
    have c := hcell 0
    rcases Nat.lt_or_ge 4 W.heap.size with hlt | hge
    · exact hlt
    · unfold World.cell? at c
      simp [Array.getElem?_eq_none hge] at c
end Go.Proofs.YtcopnpllaoahaaaGreatDoor
namespace Go.Proofs.YtcopnpllaoahaaaGreatDoor
open Go.ChangeShapes Go.WideShapes Go.ChangeAt Go.RowKit Go.Deep
theorem powType : (Tryz.prog.globals[5]?).map (·.type) = some 168 := by kernel_rfl
set_option maxRecDepth 100000 in
theorem pow_of {l : List (String × DataW Unit)} {W : World} (h : laidMet Tryz.prog l W) (hm : ("internal/strconv.uint64pow10", Rows.laid_internal_strconv_uint64pow10) ∈ l) : Pow W := by
  obtain ⟨ps, hv, _, _⟩ := h
  obtain ⟨g, t, cs, fuel, p, hg, ht, hvar, htr⟩ := laidVars_mem hv hm
  obtain rfl := Option.some.inj (pow_global.symm.trans hg)
  obtain rfl := Option.some.inj (powType.symm.trans ht)
  have := Lib.cells_of_tab (zs := Lib.pow10Tab) (k := .u64) Tryz.underlying168 Tryz.underlying34 (by kernel_rfl) (by kernel_rfl) htr
  unfold Pow Lib.TabIs
  rw [hvar, ← this]
theorem tztType : (Tryz.prog.globals[6]?).map (·.type) = some 171 := by kernel_rfl
theorem tzt_global : Tryz.prog.globalNamed "math/bits.deBruijn64tab" = some 6 := by kernel_rfl
set_option maxRecDepth 100000 in
theorem tzt_of {l : List (String × DataW Unit)} {W : World} (h : laidMet Tryz.prog l W) (hm : ("math/bits.deBruijn64tab", Rows.laid_math_bits_deBruijn64tab) ∈ l) : Tzt W := by
  obtain ⟨ps, hv, _, _⟩ := h
  obtain ⟨g, t, cs, fuel, p, hg, ht, hvar, htr⟩ := laidVars_mem hv hm
  obtain rfl := Option.some.inj (tzt_global.symm.trans hg)
  obtain rfl := Option.some.inj (tztType.symm.trans ht)
  have hc := Lib.cells_of_tab (zs := Lib.deBruijn64tab.map Int.ofNat) (k := .u8) Tryz.underlying171 Tryz.underlying5 (by kernel_rfl) (by kernel_rfl) htr
  intro j hj
  have hcs : cs = (Lib.deBruijn64tab.map (fun n : Nat => Value.int .u8 (n : Int))).toArray := by
    apply Array.toList_inj.1
    rw [hc, List.map_map]
    rfl
  unfold World.var? at hvar
  simp only [tzt_global, Option.bind_some] at hvar
  unfold World.cell?
  have hlen : j < Lib.deBruijn64tab.length := by rw [show Lib.deBruijn64tab.length = 64 by decide +kernel]; exact hj
  rcases hh : W.heap[6]? with _ | o
  · rw [hh] at hvar; cases hvar
  · rw [hh] at hvar
    cases o with
    | cells a b c =>
      simp only [Option.some.injEq] at hvar
      subst hvar
      rw [hcs]
      simp [hlen]
    | _ => cases hvar
theorem lx_of {l : List (String × DataW Unit)} {W : World} (h : laidMet Tryz.prog l W) (hl : l = [("math/bits.deBruijn32tab", Rows.laid_math_bits_deBruijn32tab), ("math/bits.deBruijn64tab", Rows.laid_math_bits_deBruijn64tab), ("internal/strconv.uint64pow10", Rows.laid_internal_strconv_uint64pow10), ("dragnet/words.escapes", Rows.laid_dragnet_words_escapes)]) : LxW W := by
  subst hl
  exact ⟨esc_of h (by simp), pow_of h (by simp), tzt_of h (by simp)⟩
end Go.Proofs.YtcopnpllaoahaaaGreatDoor
