/- Rows of bits, plain: the fields between the dots of a text; what Parse makes of a text. No condition. -/
import Derived.Test.YtaogplmcabbikaaGreatDoorB34
import Derived.Lib.SplitLaws
import Derived.Lib.IndexBytes
namespace Go.Proofs.YtaogplmcabbikaaGreatDoor
open Go.RowKit
def mkB (l : List UInt8) : ByteArray := ⟨l.toArray⟩
theorem mkB_data (l : List UInt8) : (mkB l).data.toList = l := by simp [mkB]
theorem mkB_eta (s : ByteArray) : mkB s.data.toList = s := by
  apply ByteArray.ext
  simp [mkB]
def fld (cur : List UInt8) : List UInt8 → List (List UInt8)
  | [] => [cur]
  | c :: t => if c = 46 then cur :: fld [] t else fld (cur ++ [c]) t
def flds (l : List UInt8) : List (List UInt8) := fld [] l
theorem fld_hit (cur t : List UInt8) : fld cur (46 :: t) = cur :: fld [] t := by rw [fld, if_pos rfl]
theorem fld_other {c : UInt8} (h : c ≠ 46) (cur t : List UInt8) : fld cur (c :: t) = fld (cur ++ [c]) t := by rw [fld, if_neg h]
theorem fld_none : ∀ (a cur : List UInt8), (46 : UInt8) ∉ a → fld cur a = [cur ++ a]
  | [], cur, _ => by simp [fld]
  | c :: a, cur, h => by
    rw [List.mem_cons, not_or] at h
    rw [fld_other (fun e => h.1 e.symm), fld_none a _ h.2]
    simp
theorem fld_app : ∀ (a cur t : List UInt8), (46 : UInt8) ∉ a → fld cur (a ++ 46 :: t) = (cur ++ a) :: fld [] t
  | [], cur, t, _ => by simp [fld_hit]
  | c :: a, cur, t, h => by
    rw [List.mem_cons, not_or] at h
    rw [List.cons_append, fld_other (fun e => h.1 e.symm), fld_app a _ _ h.2]
    simp
theorem fld_len : ∀ (l cur : List UInt8), (fld cur l).length = l.count 46 + 1
  | [], _ => rfl
  | c :: t, cur => by
    by_cases h : c = 46
    · subst h; rw [fld_hit, List.length_cons, fld_len t, List.count_cons_self]
    · rw [fld_other h, fld_len t, List.count_cons_of_ne h]
theorem flds_cases (l : List UInt8) : ((46 : UInt8) ∉ l ∧ flds l = [l]) ∨ ∃ p r, l = p ++ 46 :: r ∧ (46 : UInt8) ∉ p ∧ flds l = p :: flds r := by
  by_cases h : (46 : UInt8) ∈ l
  · obtain ⟨p, r, e, hp⟩ := List.eq_append_cons_of_mem h
    exact .inr ⟨p, r, e, hp, by rw [e]; unfold flds; rw [fld_app p [] r hp]; rfl⟩
  · exact .inl ⟨h, by unfold flds; rw [fld_none l [] h]; rfl⟩
theorem flds_ne (l : List UInt8) : flds l ≠ [] := by
  intro h
  have := fld_len l []
  unfold flds at h
  rw [h] at this
  simp at this
theorem splitK_fld : ∀ (n : Nat) (l : List UInt8), l.count 46 = n → Lib.splitK [46] 0 n l = fld [] l := by
  intro n
  induction n with
  | zero =>
    intro l h
    rw [fld_none l [] (List.count_eq_zero.1 h)]
    rfl
  | succ n ih =>
    intro l h
    have hix := Lib.index_one l 46
    have hge := Lib.indexByte_ge l 46
    by_cases hm : Lib.indexByte l 46 = -1
    · exfalso
      have hno := Lib.indexByte_none hm
      have : (46 : UInt8) ∈ l := List.count_pos_iff.1 (by omega)
      obtain ⟨k, hk⟩ := List.mem_iff_getElem?.1 this
      exact hno k hk
    · obtain ⟨o, ho⟩ : ∃ o : Nat, Lib.indexByte l 46 = o := ⟨(Lib.indexByte l 46).toNat, by omega⟩
      obtain ⟨h1, h2⟩ := Lib.indexByte_some ho
      have hlt : o < l.length := by
        rcases Nat.lt_or_ge o l.length with h' | h'
        · exact h'
        · rw [List.getElem?_eq_none h'] at h1; exact absurd h1 (by simp)
      have hsp : l = l.take o ++ 46 :: l.drop (o + 1) := by
        have e := List.drop_eq_getElem_cons hlt
        have e2 : l[o] = 46 := by rw [List.getElem?_eq_getElem hlt] at h1; exact Option.some.inj h1
        rw [e2] at e
        rw [← e, List.take_append_drop]
      have hno : (46 : UInt8) ∉ l.take o := by
        intro hmem
        obtain ⟨k, hk⟩ := List.mem_iff_getElem?.1 hmem
        have hko : k < o := by
          rcases Nat.lt_or_ge k o with h' | h'
          · exact h'
          · rw [List.getElem?_eq_none (by simp <;> omega)] at hk; exact absurd hk (by simp)
        rw [List.getElem?_take_of_lt hko] at hk
        exact h2 k hko hk
      have hc : (l.drop (o + 1)).count 46 = n := by
        have e := congrArg (List.count 46) hsp
        rw [List.count_append, List.count_cons_self, List.count_eq_zero.2 hno, h] at e
        omega
      rw [Lib.splitK, hix, ho, if_neg (by simp <;> omega)]
      have e1 : (o : Int).toNat = o := by simp
      rw [e1]
      show l.take (o + 0) :: Lib.splitK [46] 0 n (l.drop (o + 1)) = _
      rw [ih _ hc]
      conv => rhs; rw [hsp]
      rw [fld_app _ _ _ hno]
      simp
theorem count_one_byte (l : List UInt8) : Lib.count l [46] = l.count 46 := by
  induction hn : l.length using Nat.strongRecOn generalizing l with
  | _ n ih =>
    have hix := Lib.index_one l 46
    have hge := Lib.indexByte_ge l 46
    by_cases hm : Lib.indexByte l 46 = -1
    · rw [Lib.count_miss (hix.trans hm)]
      have hno := Lib.indexByte_none hm
      rw [eq_comm, List.count_eq_zero]
      intro hmem
      obtain ⟨k, hk⟩ := List.mem_iff_getElem?.1 hmem
      exact hno k hk
    · obtain ⟨o, ho⟩ : ∃ o : Nat, Lib.indexByte l 46 = o := ⟨(Lib.indexByte l 46).toNat, by omega⟩
      obtain ⟨h1, h2⟩ := Lib.indexByte_some ho
      have hlt : o < l.length := by
        rcases Nat.lt_or_ge o l.length with h' | h'
        · exact h'
        · rw [List.getElem?_eq_none h'] at h1; exact absurd h1 (by simp)
      have hsp : l = l.take o ++ 46 :: l.drop (o + 1) := by
        have e := List.drop_eq_getElem_cons hlt
        have e2 : l[o] = 46 := by rw [List.getElem?_eq_getElem hlt] at h1; exact Option.some.inj h1
        rw [e2] at e
        rw [← e, List.take_append_drop]
      have hno : (46 : UInt8) ∉ l.take o := by
        intro hmem
        obtain ⟨k, hk⟩ := List.mem_iff_getElem?.1 hmem
        have hko : k < o := by
          rcases Nat.lt_or_ge k o with h' | h'
          · exact h'
          · rw [List.getElem?_eq_none (by simp <;> omega)] at hk; exact absurd hk (by simp)
        rw [List.getElem?_take_of_lt hko] at hk
        exact h2 k hko hk
      rw [Lib.count_hit (by simp) (hix.trans ho)]
      show 1 + Lib.count (l.drop (o + 1)) [46] = _
      rw [ih (l.drop (o + 1)).length (by rw [List.length_drop]; omega) _ rfl]
      have e := congrArg (List.count 46) hsp
      rw [List.count_append, List.count_cons_self, List.count_eq_zero.2 hno] at e
      omega
/-- what strings.Split returns -/
theorem splitB_fld (s : ByteArray) : Lib.splitB ⟨#[46]⟩ 0 (Lib.countB s ⟨#[46]⟩) s = (flds s.data.toList).map mkB ∧ Lib.countB s ⟨#[46]⟩ + 1 = (flds s.data.toList).length := by
  have hc : Lib.countB s ⟨#[46]⟩ = s.data.toList.count 46 := by
    show Lib.count _ [46] = _
    rw [count_one_byte]
  have hs := Lib.splitB_data ⟨#[46]⟩ 0 (Lib.countB s ⟨#[46]⟩) s
  rw [hc] at hs
  have hs2 : (Lib.splitB ⟨#[46]⟩ 0 (s.data.toList.count 46) s).map (·.data.toList) = flds s.data.toList := by
    rw [hs]
    exact splitK_fld _ _ rfl
  rw [hc]
  constructor
  · rw [← hs2, List.map_map]
    conv => lhs; rw [← List.map_id (Lib.splitB ⟨#[46]⟩ 0 (s.data.toList.count 46) s)]
    apply List.map_congr_left
    intro a _
    exact (mkB_eta a).symm
  · exact (fld_len _ _).symm
theorem join_two (p q : List UInt8) (r : List (List UInt8)) : Lib.join (p :: q :: r) [46] = p ++ 46 :: Lib.join (q :: r) [46] := by
  unfold Lib.join
  simp [List.intercalate, List.intersperse]
theorem join_cons {p : List UInt8} {r : List (List UInt8)} (h : r ≠ []) : Lib.join (p :: r) [46] = p ++ 46 :: Lib.join r [46] := by
  cases r with
  | nil => exact absurd rfl h
  | cons q r => exact join_two p q r
theorem join_one (p : List UInt8) : Lib.join [p] [46] = p := by
  unfold Lib.join
  simp [List.intercalate]
theorem join_flds (l : List UInt8) : Lib.join (flds l) [46] = l := by
  induction hn : l.length using Nat.strongRecOn generalizing l with
  | _ n ih =>
    rcases flds_cases l with ⟨_, e⟩ | ⟨p, r, e1, _, e2⟩
    · rw [e, join_one]
    · rw [e2, join_cons (flds_ne r), ih r.length (by rw [← hn, e1]; simp <;> omega) r rfl, e1]
theorem flds_join : ∀ ws : List (List UInt8), ws ≠ [] → (∀ x ∈ ws, (46 : UInt8) ∉ x) → flds (Lib.join ws [46]) = ws
  | [], h, _ => absurd rfl h
  | [p], _, h => by
    rw [join_one]
    unfold flds
    rw [fld_none p [] (h p List.mem_cons_self)]
    rfl
  | p :: q :: r, _, h => by
    rw [join_two]
    have ih := flds_join (q :: r) (by simp) fun x hx => h x (List.mem_cons_of_mem _ hx)
    unfold flds at ih ⊢
    rw [fld_app p [] _ (h p List.mem_cons_self), ih]
    rfl
/-- what Parse answers -/
def psE (l : List UInt8) : Nat := if 135 < l.length then 3 else if (flds l).all wordB then 0 else 6
def psV (l : List UInt8) : List Nat := if psE l = 0 then ((flds l).map valB).reverse else []
theorem isHx_dot {c : UInt8} (h : isHx c = true) : c ≠ 46 := by
  intro e
  rw [e] at h
  exact absurd h (by decide)
theorem wordB_dot {l : List UInt8} (h : wordB l = true) : (46 : UInt8) ∉ l := by
  unfold wordB at h
  rw [Bool.and_eq_true] at h
  intro hm
  exact isHx_dot (List.all_eq_true.1 h.2 _ hm) rfl
theorem hd_fin2 : ∀ d : Fin 16, isHx (hd d.val) = true ∧ hv (hd d.val) = d.val ∧ (hd d.val).toNat < 128 := by decide +kernel
theorem hd_hx {d : Nat} (h : d < 16) : isHx (hd d) = true ∧ hv (hd d) = d := ⟨(hd_fin2 ⟨d, h⟩).1, (hd_fin2 ⟨d, h⟩).2.1⟩
theorem hv_fin : ∀ c : Fin 256, isHx (UInt8.ofNat c.val) = true → hd (hv (UInt8.ofNat c.val)) = UInt8.ofNat c.val ∧ hv (UInt8.ofNat c.val) < 16 := by decide +kernel
theorem hx_hd {c : UInt8} (h : isHx c = true) : hd (hv c) = c ∧ hv c < 16 := by
  have := hv_fin ⟨c.toNat, c.toNat_lt⟩
  simp only [UInt8.ofNat_toNat] at this
  exact this h
theorem hexD_all (n x : Nat) : ∀ c ∈ hexD n x, isHx c = true := by
  induction n generalizing x with
  | zero => intro c hc; cases hc
  | succ n ih =>
    intro c hc
    rw [hexD, List.mem_append] at hc
    rcases hc with hc | hc
    · exact ih _ c hc
    · rw [List.mem_singleton] at hc
      rw [hc]
      exact (hd_hx (Nat.mod_lt _ (by decide))).1
theorem hexD_word (x : Nat) : wordB (hexD 16 x) = true := by
  unfold wordB
  rw [hexD_len, List.all_eq_true.2 (hexD_all 16 x)]
  rfl
theorem valB_snoc (l : List UInt8) (c : UInt8) : valB (l ++ [c]) = valB l * 16 + hv c := by unfold valB; simp
theorem valB_hexD (n x : Nat) : valB (hexD n x) = x % 16 ^ n := by
  induction n generalizing x with
  | zero => rw [Nat.pow_zero, Nat.mod_one]; rfl
  | succ n ih =>
    rw [hexD, valB_snoc, ih, (hd_hx (Nat.mod_lt _ (by decide))).2, Nat.pow_succ, Nat.mul_comm (16 ^ n) 16, Nat.mod_mul]
    omega
theorem p16 : (16 : Nat) ^ 16 = 18446744073709551616 := by decide
theorem valB_hex16 {x : Nat} (h : x < 18446744073709551616) : valB (hexD 16 x) = x := (valB_hexD 16 x).trans (Nat.mod_eq_of_lt (by rw [p16]; exact h))
theorem hexD_snoc_val (l : List UInt8) (c : UInt8) (n : Nat) (hc : isHx c = true) : hexD (n + 1) (valB (l ++ [c])) = hexD n (valB l) ++ [c] := by
  obtain ⟨h1, h2⟩ := hx_hd hc
  rw [valB_snoc, hexD, show (valB l * 16 + hv c) / 16 = valB l by omega, show (valB l * 16 + hv c) % 16 = hv c by omega, h1]
theorem hexD_valB : ∀ (n : Nat) (l : List UInt8), l.length = n → (∀ c ∈ l, isHx c = true) → hexD n (valB l) = l
  | 0, l, hl, _ => by rw [List.eq_nil_of_length_eq_zero hl]; rfl
  | n + 1, l, hl, h => by
    obtain ⟨i, c, rfl⟩ : ∃ i c, l = i ++ [c] := ⟨l.dropLast, l.getLast (by intro e; rw [e] at hl; cases hl), (List.dropLast_concat_getLast _).symm⟩
    rw [hexD_snoc_val i c n (h c (by simp)), hexD_valB n i (by simpa using hl) fun x hx => h x (by simp [hx])]
theorem hexD_wordB {l : List UInt8} (h : wordB l = true) : hexD 16 (valB l) = l := by
  unfold wordB at h
  rw [Bool.and_eq_true] at h
  exact hexD_valB 16 l (by simpa using h.1) (List.all_eq_true.1 h.2)
theorem psV_w (l : List UInt8) : W64 (psV l) := by
  unfold psV
  split
  next h =>
    have ha : (flds l).all wordB = true := by
      unfold psE at h
      split at h
      · cases h
      · split at h
        · assumption
        · cases h
    intro x hx
    rw [List.mem_reverse, List.mem_map] at hx
    obtain ⟨p, hp, rfl⟩ := hx
    exact valB_lt (List.all_eq_true.1 ha p hp)
  · intro x hx; cases hx
theorem psE_cases (l : List UInt8) : psE l = 0 ∨ psE l = 3 ∨ psE l = 6 := by
  unfold psE
  split
  · exact .inr (.inl rfl)
  · split
    · exact .inl rfl
    · exact .inr (.inr rfl)
theorem psE_zero {l : List UInt8} (h : psE l = 0) : l.length ≤ 135 ∧ (flds l).all wordB = true := by
  unfold psE at h
  split at h
  · cases h
  · split at h
    · exact ⟨by omega, by assumption⟩
    · cases h
/-- the text of a row, read: the row -/
theorem ps_prt {l : List Nat} (hw : W64 l) (hc : chkB l.length = 0) : psE (prtB l) = 0 ∧ psV (prtB l) = l := by
  have hn := chkB_ok.1 hc
  have hl := prtB_len l
  have hne : l.reverse.map (hexD 16) ≠ [] := by
    intro e
    have h2 := congrArg List.length e
    rw [List.length_map, List.length_reverse, List.length_nil] at h2
    omega
  have hf : flds (prtB l) = l.reverse.map (hexD 16) := by
    unfold prtB
    refine flds_join _ hne fun x hx => ?_
    obtain ⟨y, _, rfl⟩ := List.mem_map.1 hx
    exact wordB_dot (hexD_word y)
  have h17 : (prtB l).length ≤ 135 := by
    have key : ∀ m : List Nat, m ≠ [] → (Lib.join (m.map (hexD 16)) [46]).length + 1 = 17 * m.length := by
      intro m
      induction m with
      | nil => intro h; exact absurd rfl h
      | cons x r ih =>
        intro _
        cases r with
        | nil => rw [List.map_cons, List.map_nil, join_one, hexD_len]; rfl
        | cons y r =>
          have := ih (by simp)
          rw [List.map_cons, join_cons (by simp), List.length_append, hexD_len, List.length_cons]
          simp only [List.length_cons] at this ⊢
          omega
    have := key l.reverse (by intro e; apply hne; rw [e]; rfl)
    rw [List.length_reverse] at this
    unfold prtB
    omega
  have hE : psE (prtB l) = 0 := by
    unfold psE
    rw [if_neg (by omega), if_pos]
    rw [hf, List.all_eq_true]
    intro x hx
    obtain ⟨y, _, rfl⟩ := List.mem_map.1 hx
    exact hexD_word y
  refine ⟨hE, ?_⟩
  unfold psV
  rw [if_pos hE, hf, List.map_map]
  have e : l.reverse.map (valB ∘ hexD 16) = l.reverse := by
    have hx16 : ∀ x ∈ l.reverse, (valB ∘ hexD 16) x = id x := fun x hx => by
      have hlt : x < 18446744073709551616 := hw x (List.mem_reverse.1 hx)
      have := valB_hex16 hlt
      rw [Function.comp_apply, this, id]
    rw [List.map_congr_left hx16, List.map_id]
  rw [e, List.reverse_reverse]
/-- the row of a text, printed: the text -/
theorem prt_ps {l : List UInt8} (h : psE l = 0) : prtB (psV l) = l := by
  obtain ⟨_, ha⟩ := psE_zero h
  unfold prtB psV
  rw [if_pos h, List.reverse_reverse, List.map_map]
  have e : (flds l).map (hexD 16 ∘ valB) = flds l := by
    conv => rhs; rw [← List.map_id (flds l)]
    exact List.map_congr_left fun x hx => hexD_wordB (List.all_eq_true.1 ha x hx)
  rw [e, join_flds]
theorem psV_len {l : List UInt8} (h : psE l = 0) : chkB (psV l).length = 0 := by
  obtain ⟨hl, ha⟩ := psE_zero h
  have hlen : 17 * (flds l).length = l.length + 1 := by
    have key : ∀ m : List (List UInt8), m ≠ [] → (∀ x ∈ m, x.length = 16) → (Lib.join m [46]).length + 1 = 17 * m.length := by
      intro m
      induction m with
      | nil => intro h; exact absurd rfl h
      | cons x r ih =>
        intro _ hm
        cases r with
        | nil => rw [join_one, hm x List.mem_cons_self]; rfl
        | cons y r =>
          have := ih (by simp) fun z hz => hm z (List.mem_cons_of_mem _ hz)
          rw [join_cons (by simp), List.length_append, hm x List.mem_cons_self, List.length_cons]
          simp only [List.length_cons] at this ⊢
          omega
    rw [← key (flds l) (flds_ne l) fun x hx => (wordB_ok (List.all_eq_true.1 ha x hx)).1, join_flds]
  have hne := flds_ne l
  have h0 : (flds l).length ≠ 0 := fun e => hne (List.eq_nil_of_length_eq_zero e)
  unfold psV
  rw [if_pos h, List.length_reverse, List.length_map]
  exact chkB_ok.2 (by omega)
end Go.Proofs.YtaogplmcabbikaaGreatDoor
