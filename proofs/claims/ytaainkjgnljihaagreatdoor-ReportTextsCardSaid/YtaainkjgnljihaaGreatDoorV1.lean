/- Reports' texts: plain laws of a report's text: what Parse answers, and that Print and Parse undo each other. No condition. -/
import Derived.Test.YtaainkjgnljihaaGreatDoorR9
import Derived.Test.YtaainkjgnljihaaGreatDoorP15
import Derived.Test.YtaainkjgnljihaaGreatDoorPd
import Derived.Test.YtaainkjgnljihaaGreatDoorLn
namespace Go.Proofs.YtaainkjgnljihaaGreatDoor
open Go.RowKit
/-- the number that a field holds -/
def numF (f : Fd) : Option Int := if f.2 = false ∧ (intR f.1 0 1000000000).2 = 0 then some (intR f.1 0 1000000000).1 else none
def numsF : List Fd → Option (List Int)
  | [] => some []
  | f :: r => match numF f with
    | none => none
    | some n => (numsF r).map (n :: ·)
/-- the numbers behind a word of a line -/
def lineN (word : List UInt8) (many : Nat) (x : List UInt8) : Option (List Int) :=
  if (splitL x).2 ≠ 0 then none else match (splitL x).1 with
    | [] => none
    | f :: r => if r.length = many ∧ f = (word, false) then numsF r else none
def lnT (word : List UInt8) (ns : List Int) : List UInt8 := word ++ numsL ns
theorem rowL_ln (word : List UInt8) (ns : List Int) : rowL word ns = lnT word ns ++ [10] := by unfold rowL lnT; rw [List.append_assoc]
theorem numsF_len : ∀ (l : List Fd) (ns : List Int), numsF l = some ns → ns.length = l.length
  | [], ns, h => by injection h with h; subst h; rfl
  | f :: r, ns, h => by
    unfold numsF at h
    rcases hf : numF f with _ | n
    · rw [hf] at h; cases h
    rw [hf] at h
    simp only at h
    rcases hr : numsF r with _ | m
    · rw [hr] at h; cases h
    rw [hr] at h
    injection h with h
    subst h
    simp [numsF_len r m hr]
theorem lineN_len {word x : List UInt8} {many : Nat} {ns : List Int} (h : lineN word many x = some ns) : ns.length = many := by
  unfold lineN at h
  split at h
  · cases h
  split at h
  · cases h
  split at h
  · rename_i hh
    rw [numsF_len _ _ h, hh.1]
  · cases h
theorem intR_zero {l : List UInt8} {n : Int} (h : intR l 0 1000000000 = (n, 0)) : decL l = true ∧ intL l = n ∧ 0 ≤ n ∧ n ≤ 1000000000 := by
  unfold intR at h
  split at h
  · cases h
  rename_i hd
  split at h
  · cases h
  rename_i hr
  injection h with h _
  subst h
  exact ⟨by simpa using hd, rfl, by omega, by omega⟩
theorem intR_of {n : Int} (h0 : 0 ≤ n) (h1 : n ≤ 1000000000) : intR (Lib.itoa n) 0 1000000000 = (n, 0) := by
  obtain ⟨h2, h3⟩ := int_digits n
  unfold intR
  rw [if_neg (by rw [show decL (Lib.itoa n) = true from h2]; simp), if_neg (by rw [show intL (Lib.itoa n) = n from h3]; omega), show intL (Lib.itoa n) = n from h3]
theorem numF_of {n : Int} (h0 : 0 ≤ n) (h1 : n ≤ 1000000000) : numF (Lib.itoa n, false) = some n := by
  unfold numF
  simp only [intR_of h0 h1, and_self, if_true]
theorem numF_some {f : Fd} {n : Int} (h : numF f = some n) : f = (Lib.itoa n, false) ∧ 0 ≤ n ∧ n ≤ 1000000000 := by
  unfold numF at h
  split at h
  · rename_i hh
    injection h with h
    obtain ⟨a, b⟩ := f
    simp only at hh h
    obtain ⟨h2, h3, h4, h5⟩ := intR_zero (l := a) (n := n) (Prod.ext h hh.2)
    refine ⟨?_, h4, h5⟩
    have := digits_int h2
    rw [h3] at this
    rw [← this, hh.1]
    rfl
  · cases h
theorem numsF_some : ∀ (l : List Fd) (ns : List Int), numsF l = some ns → l = ns.map (fun n => ((Lib.itoa n, false) : Fd)) ∧ ∀ n ∈ ns, 0 ≤ n ∧ n ≤ 1000000000
  | [], ns, h => by injection h with h; subst h; exact ⟨rfl, by simp⟩
  | f :: r, ns, h => by
    unfold numsF at h
    rcases hf : numF f with _ | n
    · rw [hf] at h; cases h
    rw [hf] at h
    simp only at h
    rcases hr : numsF r with _ | m
    · rw [hr] at h; cases h
    rw [hr] at h
    injection h with h
    subst h
    obtain ⟨h1, h2⟩ := numF_some hf
    obtain ⟨h3, h4⟩ := numsF_some r m hr
    refine ⟨by rw [List.map_cons, ← h1, ← h3], ?_⟩
    intro x hx
    rcases List.mem_cons.1 hx with rfl | hx
    · exact h2
    · exact h4 x hx
theorem numsF_of : ∀ (ns : List Int), (∀ n ∈ ns, 0 ≤ n ∧ n ≤ 1000000000) → numsF (ns.map (fun n => ((Lib.itoa n, false) : Fd))) = some ns
  | [], _ => rfl
  | n :: r, h => by
    rw [List.map_cons]
    unfold numsF
    rw [numF_of (h n List.mem_cons_self).1 (h n List.mem_cons_self).2]
    simp only
    rw [numsF_of r (fun m hm => h m (List.mem_cons_of_mem _ hm))]
    rfl
theorem joinT_nums : ∀ (w : Fd) (ns : List Int), joinT (w :: ns.map (fun n => ((Lib.itoa n, false) : Fd))) = txF w ++ numsL ns
  | w, [] => by rw [List.map_nil, joinT_one]; simp [numsL]
  | w, n :: r => by
    rw [List.map_cons, joinT_cons w (by simp), joinT_nums (Lib.itoa n, false) r]
    simp [numsL, numL, txF]
theorem itoa_bare (n : Int) : bareL (Lib.itoa n) = true := by
  obtain ⟨h1, h2⟩ := int_digits n
  have h3 : (Lib.itoa n) ≠ [] := by
    intro h
    rw [show dgL n = Lib.itoa n from rfl, h] at h1
    revert h1; decide
  refine bareL_yes ?_ h3
  rw [List.all_eq_true]
  intro c hc
  obtain ⟨k, hk⟩ := List.mem_iff_getElem?.1 hc
  have key : c = 45 ∨ digB c = true := by
    rcases dec_at (l := Lib.itoa n) h1 hk with h | h
    · exact .inl h.2
    · exact .inr h
  rcases key with rfl | h
  · decide
  · rw [digB_iff] at h
    unfold bareC plainB
    have h32 : (c == 32) = false := by
      rw [beq_eq_false_iff_ne]; intro e; subst e; revert h; decide
    rw [h32]
    simp
    omega
theorem itoa_short {n : Int} (h0 : 0 ≤ n) (h1 : n ≤ 1000000000) : (Lib.itoa n).length ≤ 21 := Lib.itoa_length_le n (by omega) (by omega)
/-- a line written is read -/
theorem lineN_of {word : List UInt8} {ns : List Int} (hb : bareL word = true) (hw : word.length ≤ 100) (hn : ∀ n ∈ ns, 0 ≤ n ∧ n ≤ 1000000000) (hl : ns.length ≤ 10) : lineN word ns.length (lnT word ns) = some ns := by
  have hj : joinL ((word, false) :: ns.map (fun n => ((Lib.itoa n, false) : Fd))) = (lnT word ns, 0) := by
    have hjt := joinT_nums (word, false) ns
    have htx : txF (word, false) = word := rfl
    rw [htx] at hjt
    have hlen := numsL_len ns (fun n h => by have := hn n h; omega)
    rw [joinL_ok (by simp; omega) ?_ ?_ (by rw [hjt, List.length_append]; omega), hjt]
    · rfl
    · unfold anyLong
      rw [List.any_eq_false]
      intro f hf
      rcases List.mem_cons.1 hf with rfl | hf
      · simp; omega
      · obtain ⟨n, h1, rfl⟩ := List.mem_map.1 hf
        have := itoa_short (hn n h1).1 (hn n h1).2
        simp; omega
    · rw [List.any_eq_false]
      intro f hf
      rcases List.mem_cons.1 hf with rfl | hf
      · simp [badB, hb]
      · obtain ⟨n, h1, rfl⟩ := List.mem_map.1 hf
        simp [badB, itoa_bare]
  have hs := split_join hj
  unfold lineN
  rw [hs]
  simp only [ne_eq, not_true_eq_false, if_false, List.length_map, and_self, if_true]
  exact numsF_of ns hn
/-- a line read is what is written -/
theorem lineN_some {word x : List UInt8} {many : Nat} {ns : List Int} (h : lineN word many x = some ns) : x = lnT word ns ∧ (∀ n ∈ ns, 0 ≤ n ∧ n ≤ 1000000000) ∧ ns.length = many := by
  have hlen := lineN_len h
  unfold lineN at h
  split at h
  · cases h
  rename_i he
  rcases hs : splitL x with ⟨fs, e⟩
  rw [hs] at h he
  simp only [ne_eq, Decidable.not_not] at he h
  subst he
  have hj := join_split hs
  rcases fs with _ | ⟨f, r⟩
  · cases h
  simp only at h
  split at h
  · rename_i hh
    obtain ⟨h1, h2⟩ := numsF_some _ _ h
    refine ⟨?_, h2, hlen⟩
    rw [hh.2, h1] at hj
    unfold joinL at hj
    repeat' split at hj
    all_goals first
      | (injection hj with h3 h4; exact absurd h4 (by decide))
      | (injection hj with h3 h4
         rw [← h3, joinT_nums]; rfl)
  · cases h
/-- the lines of hits -/
def hitF (x : List UInt8) : Option Hit := match lineN wHit 2 x with
  | some [a, b] => some (a, b)
  | _ => none
def hitsA : List ByteArray → List Hit → Nat → Nat → Nat × List Hit
  | [], acc, _, 0 => (0, acc)
  | [], _, p, _ + 1 => (p + 1, [])
  | _ :: _, _, p, 0 => (p + 1, [])
  | x :: r, acc, p, n + 1 => match hitF x.data.toList with
    | none => (p + 1, [])
    | some h => hitsA r (acc ++ [h]) (p + 1) n
def oneF (word x : List UInt8) : Option Int := match lineN word 1 x with
  | some [a] => some a
  | _ => none
/-- the fault's line (0: there is none), the hits, the number of those left out -/
def psL : List ByteArray → Nat × List Hit × Int
  | [] => (1, [], 0)
  | x :: r => match oneF wHits x.data.toList with
    | none => (1, [], 0)
    | some n => match r with
      | [] => (2, [], 0)
      | y :: t => match oneF wDropped y.data.toList with
        | none => (2, [], 0)
        | some d => if (hitsA t [] 2 n.toNat).1 = 0 then (0, (hitsA t [] 2 n.toNat).2, d) else ((hitsA t [] 2 n.toNat).1, [], 0)
structure PR where
  l : List Hit
  d : Int
  p : Int
  e : Int
def psR (s : ByteArray) (k : Int) : PR :=
  if capK k = false then ⟨[], 0, -1, 7⟩ else if (linesL s).2 ≠ 0 then ⟨[], 0, 0, (linesL s).2⟩ else
  if (psL (linesL s).1).1 ≠ 0 then ⟨[], 0, (psL (linesL s).1).1, 6⟩ else
  if (chkR (psL (linesL s).1).2.1 (decide (0 < (psL (linesL s).1).2.2)) (psL (linesL s).1).2.2 k).2 ≠ 0 then ⟨[], 0, 0, (chkR (psL (linesL s).1).2.1 (decide (0 < (psL (linesL s).1).2.2)) (psL (linesL s).1).2.2 k).2⟩ else
  ⟨(psL (linesL s).1).2.1, (psL (linesL s).1).2.2, 0, 0⟩
theorem hitF_some {x : List UInt8} {h : Hit} (e : hitF x = some h) : x = lnT wHit [h.1, h.2] ∧ lineN wHit 2 x = some [h.1, h.2] := by
  unfold hitF at e
  split at e
  · rename_i a b hl
    injection e with e
    subst e
    exact ⟨(lineN_some hl).1, hl⟩
  · cases e
theorem oneF_some {word x : List UInt8} {n : Int} (e : oneF word x = some n) : x = lnT word [n] ∧ 0 ≤ n ∧ n ≤ 1000000000 := by
  unfold oneF at e
  split at e
  · rename_i a hl
    injection e with e
    subst e
    obtain ⟨h1, h2, _⟩ := lineN_some hl
    exact ⟨h1, h2 a List.mem_cons_self⟩
  · cases e
theorem oneF_of {word : List UInt8} {n : Int} (hb : bareL word = true) (hw : word.length ≤ 100) (h0 : 0 ≤ n) (h1 : n ≤ 1000000000) : oneF word (lnT word [n]) = some n := by
  unfold oneF
  have := lineN_of hb hw (ns := [n]) (by simp; omega) (by simp)
  rw [show [n].length = 1 from rfl] at this
  rw [this]
theorem hitF_of {h : Hit} (ho : okH h = true) : hitF (lnT wHit [h.1, h.2]) = some h := by
  obtain ⟨⟨h1, h2⟩, h3, h4⟩ := okH_iff (E := h.1) (I := h.2) |>.1 ho
  unfold hitF
  have := lineN_of (word := wHit) (ns := [h.1, h.2]) (by decide) (by decide) (by simp; omega) (by simp)
  rw [show [h.1, h.2].length = 2 from rfl] at this
  rw [this]
/-- hits read are those written -/
theorem hitsA_of : ∀ (l acc : List Hit) (p : Nat), (∀ h ∈ l, okH h = true) → hitsA (l.map fun h => mkB (lnT wHit [h.1, h.2])) acc p l.length = (0, acc ++ l)
  | [], acc, p, _ => by simp [hitsA]
  | h :: r, acc, p, ho => by
    rw [List.map_cons, List.length_cons]
    unfold hitsA
    rw [mkB_data, hitF_of (ho h List.mem_cons_self)]
    simp only
    rw [hitsA_of r _ _ (fun x hx => ho x (List.mem_cons_of_mem _ hx))]
    simp
theorem hitsA_some : ∀ (L : List ByteArray) (acc : List Hit) (p n : Nat), (hitsA L acc p n).1 = 0 → ∃ l : List Hit, (hitsA L acc p n).2 = acc ++ l ∧ l.length = n ∧ L.map (·.data.toList) = l.map fun h => lnT wHit [h.1, h.2]
  | [], acc, p, 0, _ => ⟨[], by simp [hitsA], rfl, rfl⟩
  | [], acc, p, n + 1, h => by simp [hitsA] at h
  | x :: r, acc, p, 0, h => by simp [hitsA] at h
  | x :: r, acc, p, n + 1, h => by
    unfold hitsA at h ⊢
    rcases hf : hitF x.data.toList with _ | t
    · rw [hf] at h; simp at h
    rw [hf] at h
    simp only at h ⊢
    obtain ⟨l, h1, h2, h3⟩ := hitsA_some r _ _ _ h
    refine ⟨t :: l, by rw [h1]; simp, by simp [h2], ?_⟩
    rw [List.map_cons, List.map_cons, h3, (hitF_some hf).1]
/-- the lines of a text, each with its byte 10, are the text -/
theorem lns_back : ∀ (l cur : List UInt8), l.getLast? = some 10 → (lns cur l).flatMap (· ++ [10]) = cur ++ l
  | [], cur, h => by simp at h
  | c :: t, cur, h => by
    by_cases hc : c = 10
    · subst hc
      rw [lns_hit, List.flatMap_cons]
      cases t with
      | nil => simp [lns]
      | cons y r =>
        rw [lns_back (y :: r) [] (by rw [← h]; simp [List.getLast?_cons_cons])]
        simp
    · rw [lns_other hc]
      cases t with
      | nil => simp at h; exact absurd h hc
      | cons y r =>
        rw [lns_back (y :: r) _ (by rw [← h]; simp [List.getLast?_cons_cons])]
        simp
theorem no10_itoa (n : Int) : (10 : UInt8) ∉ Lib.itoa n := by
  intro h
  have hb := itoa_bare n
  unfold bareL at hb
  rw [Bool.and_eq_true, List.all_eq_true] at hb
  have := hb.1 _ h
  revert this; decide
theorem no10_nums : ∀ ns : List Int, (10 : UInt8) ∉ numsL ns
  | [] => by simp [numsL]
  | n :: r => by
    unfold numsL numL
    rw [List.mem_append, List.mem_cons]
    rintro ((h | h) | h)
    · revert h; decide
    · exact no10_itoa n h
    · exact no10_nums r h
theorem no10_ln {word : List UInt8} (hw : (10 : UInt8) ∉ word) (ns : List Int) : (10 : UInt8) ∉ lnT word ns := by
  unfold lnT
  rw [List.mem_append]
  rintro (h | h)
  · exact hw h
  · exact no10_nums ns h
theorem lns_hits : ∀ l : List Hit, lns [] (hitsL l) = l.map fun h => lnT wHit [h.1, h.2]
  | [] => rfl
  | h :: r => by
    unfold hitsL
    rw [rowL_ln, List.append_assoc, List.singleton_append, lns_app _ _ _ (no10_ln (by decide) _), lns_hits r]
    rfl
theorem hitsL_flat : ∀ l : List Hit, hitsL l = (l.map fun h => lnT wHit [h.1, h.2]).flatMap (· ++ [10])
  | [] => rfl
  | h :: r => by
    unfold hitsL
    rw [List.map_cons, List.flatMap_cons, rowL_ln, hitsL_flat r]
theorem prL_flat (l : List Hit) (d : Int) : prL l d = (lnT wHits [(l.length : Int)] :: lnT wDropped [d] :: l.map fun h => lnT wHit [h.1, h.2]).flatMap (· ++ [10]) := by
  unfold prL headL headH
  rw [hitsL_flat, rowL_ln, rowL_ln, List.flatMap_cons, List.flatMap_cons, List.append_assoc]
theorem lns_prL (l : List Hit) (d : Int) : lns [] (prL l d) = lnT wHits [(l.length : Int)] :: lnT wDropped [d] :: l.map fun h => lnT wHit [h.1, h.2] := by
  unfold prL headL headH
  rw [rowL_ln, rowL_ln, List.append_assoc, List.append_assoc, List.singleton_append, lns_app _ _ _ (no10_ln (by decide) _), List.append_assoc, List.singleton_append, lns_app _ _ _ (no10_ln (by decide) _), lns_hits]
  rfl
theorem last_append {a b : List UInt8} (h : b.getLast? = some 10) : (a ++ b).getLast? = some 10 := by
  rw [List.getLast?_append, h]; rfl
theorem last_row (word : List UInt8) (ns : List Int) : (rowL word ns).getLast? = some 10 := by rw [rowL_ln]; simp
theorem last_hits : ∀ l : List Hit, l = [] ∨ (hitsL l).getLast? = some 10
  | [] => .inl rfl
  | h :: r => by
    refine .inr ?_
    unfold hitsL
    rcases last_hits r with rfl | h2
    · simp [hitsL, last_row]
    · exact last_append h2
theorem last_prL (l : List Hit) (d : Int) : (prL l d).getLast? = some 10 := by
  unfold prL
  rcases last_hits l with rfl | h
  · simp only [hitsL, List.append_nil]
    unfold headL
    exact last_append (last_row _ _)
  · exact last_append h
theorem lines_prL {l : List Hit} {d : Int} (hl : l.length ≤ 32) (hd : 0 ≤ d ∧ d ≤ 65535) (ho : ∀ h ∈ l, okH h = true) :
    linesL (mkB (prL l d)) = (mkB (lnT wHits [(l.length : Int)]) :: mkB (lnT wDropped [d]) :: l.map fun h => mkB (lnT wHit [h.1, h.2]), 0) := by
  have e : lnsB (mkB (prL l d)) = mkB (lnT wHits [(l.length : Int)]) :: mkB (lnT wDropped [d]) :: l.map fun h => mkB (lnT wHit [h.1, h.2]) := by
    unfold lnsB
    rw [mkB_data, lns_prL]
    simp
  have h1 := headL_len l.length d (by omega) hd
  have h2 := hitsL_len l ho
  have h3 : (prL l d).length ≤ 57 + 48 * 32 := by unfold prL; rw [List.length_append]; omega
  have h4 : (mkB (prL l d)).size = (prL l d).length := rfl
  have h5 : (prL l d).length ≠ 0 := by
    intro h0
    have := last_prL l d
    rw [List.length_eq_zero_iff.1 h0] at this
    cases this
  rw [linesL_ok (by omega) (by omega) (by rw [mkB_data]; exact last_prL l d) (by rw [e]; simp; omega), e]
theorem psL_prL {l : List Hit} {d : Int} (hl : l.length ≤ 32) (hd : 0 ≤ d ∧ d ≤ 65535) (ho : ∀ h ∈ l, okH h = true) :
    psL (mkB (lnT wHits [(l.length : Int)]) :: mkB (lnT wDropped [d]) :: l.map fun h => mkB (lnT wHit [h.1, h.2])) = (0, l, d) := by
  unfold psL
  simp only
  rw [mkB_data, oneF_of (by decide) (by decide) (by omega) (by omega)]
  simp only
  rw [mkB_data, oneF_of (by decide) (by decide) (by omega) (by omega)]
  simp only
  rw [Int.toNat_natCast, hitsA_of l [] 2 ho]
  rfl
/-- Parse of Print is the report -/
theorem ps_pr {l : List Hit} {o : Bool} {d k : Int} (h : (chkR l o d k).2 = 0) : psR (prR l o d k) k = ⟨l, d, 0, 0⟩ ∧ o = decide (0 < d) := by
  obtain ⟨hk, hlk, hw0, hd, hfl⟩ := chkR_ok h
  have ho := wrgF_ok l 0 none hw0
  have hoe : o = decide (0 < d) := by
    unfold flgB at hfl
    rw [Bool.and_eq_true] at hfl
    exact beq_iff_eq.1 hfl.1
  refine ⟨?_, hoe⟩
  have hp : prR l o d k = mkB (prL l d) := if_pos h
  have hl := lines_prL (l := l) (by omega) hd ho
  have hs := psL_prL (l := l) (by omega) hd ho
  unfold psR
  rw [hp, hl, if_neg (by rw [capK_iff.2 hk]; simp)]
  simp only [hs]
  rw [← hoe, h]
  simp
theorem psL_some {L : List ByteArray} {l : List Hit} {d : Int} (h : psL L = (0, l, d)) : L.map (·.data.toList) = lnT wHits [(l.length : Int)] :: lnT wDropped [d] :: l.map fun h => lnT wHit [h.1, h.2] := by
  unfold psL at h
  split at h
  · cases h
  rename_i x r
  split at h
  · cases h
  rename_i n hn
  split at h
  · cases h
  rename_i y t
  split at h
  · cases h
  rename_i e he
  split at h
  · rename_i hz
    injection h with _ h
    injection h with h1 h2
    subst h2
    obtain ⟨m, h3, h4, h5⟩ := hitsA_some _ _ _ _ hz
    rw [h3, List.nil_append] at h1
    subst h1
    obtain ⟨i1, i2, i3⟩ := oneF_some hn
    obtain ⟨j1, _, _⟩ := oneF_some he
    rw [List.map_cons, List.map_cons, h5, i1, j1, h4, Int.toNat_of_nonneg i2]
  · rename_i hz
    injection h with h _
    exact absurd h hz
/-- Print of Parse is the text -/
theorem pr_ps {s : ByteArray} {k : Int} (h : (psR s k).e = 0) : prR (psR s k).l (decide (0 < (psR s k).d)) (psR s k).d k = s ∧ (chkR (psR s k).l (decide (0 < (psR s k).d)) (psR s k).d k).2 = 0 := by
  have key : ∀ q : PR, psR s k = q → q.e = 0 → prR q.l (decide (0 < q.d)) q.d k = s ∧ (chkR q.l (decide (0 < q.d)) q.d k).2 = 0 := by
    intro q hq he
    unfold psR at hq
    split at hq
    · subst hq; cases he
    split at hq
    · rename_i hh; subst hq; exact absurd he hh
    rename_i hl0
    split at hq
    · subst hq; cases he
    rename_i hp0
    split at hq
    · rename_i hh; subst hq; exact absurd he hh
    rename_i hc
    subst hq
    simp only [ne_eq, Decidable.not_not] at hl0 hp0 hc ⊢
    refine ⟨?_, hc⟩
    rcases hps : psL (linesL s).1 with ⟨z, l, d⟩
    rw [hps] at hc hp0
    simp only at hc hp0 ⊢
    subst hp0
    have hL := psL_some hps
    unfold prR
    rw [if_pos hc, prL_flat, ← hL]
    unfold linesL at hl0 hL hps ⊢
    split at hl0
    · cases hl0
    split at hl0
    · rename_i h1 h2
      rw [if_neg h1, if_pos h2] at hL
      cases hL
    split at hl0
    · cases hl0
    split at hl0
    · cases hl0
    rename_i h1 h2 h3 h4
    rw [if_neg h1, if_neg h2, if_neg h3, if_neg h4]
    simp only
    have e : (lnsB s).map (·.data.toList) = lns [] s.data.toList := by
      unfold lnsB
      rw [List.map_map]
      exact (List.map_congr_left (fun x _ => mkB_data x)).trans (List.map_id _)
    rw [e, lns_back _ _ (by simpa using h3)]
    rfl
  exact key _ rfl h
theorem psR_no {s : ByteArray} {k : Int} (h : (psR s k).e ≠ 0) : (psR s k).l = [] ∧ (psR s k).d = 0 := by
  have key : ∀ q : PR, psR s k = q → q.e ≠ 0 → q.l = [] ∧ q.d = 0 := by
    intro q hq he
    unfold psR at hq
    repeat' split at hq
    all_goals first
      | (subst hq; exact ⟨rfl, rfl⟩)
      | (subst hq; exact absurd rfl he)
  exact key _ rfl h
end Go.Proofs.YtaainkjgnljihaaGreatDoor
