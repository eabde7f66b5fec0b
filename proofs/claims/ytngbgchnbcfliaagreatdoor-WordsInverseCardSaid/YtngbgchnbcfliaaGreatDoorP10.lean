/- words: contracts that ParseList of the program calls. No condition. -/
import Derived.Test.YtngbgchnbcfliaaGreatDoorP7
import Derived.Test.YtngbgchnbcfliaaGreatDoorP2
import Derived.Test.YtngbgchnbcfliaaGreatDoorMl
import Derived.Test.YtngbgchnbcfliaaGreatDoorN10
import Derived.Test.YtngbgchnbcfliaaGreatDoorN9
import Derived.Deep.DeepCutAuto
namespace Go.Proofs.YtngbgchnbcfliaaGreatDoor
open Go.RowKit
abbrev RetPl (w : World) (r : List Int × Int) : Ending → World → Prop := RetSl w 1 (ivs r.1) r.1.length r.2
theorem RetPl.none_ {w w' : World} {r : List Int × Int} {err : Int} (hb : Below w.heap.size w w') (h : r = ([], err)) : RetPl w r (.returned (.tuple #[.slice none 0 0, .int .i64 err])) w' := by
  subst h; exact RetSl.nil hb rfl rfl
theorem prE2 : Elem Tryz.prog 60 67 (.agg #[.string ⟨#[]⟩, .string ⟨#[]⟩]) 2 32 := ⟨Tryz.underlying60, by kernel_rfl, rfl, by decide⟩
theorem dgBig : Dg 1000000000 = ⟨#[49, 48, 48, 48, 48, 48, 48, 48, 48, 48]⟩ := by
  show (⟨(Lib.itoa 1000000000).toArray⟩ : ByteArray) = _
  have h : Lib.itoa 1000000000 = [49, 48, 48, 48, 48, 48, 48, 48, 48, 48] := by
    rw [show (1000000000 : Int) = ((1000000000 : Nat) : Int) from rfl, Lib.itoa_nonneg, Lib.decDigits_eq]
    decide +kernel
  rw [h]
theorem intEl : Elem Tryz.prog 22 3 (.int .i64 0) 1 8 := ⟨Tryz.underlying22, by kernel_rfl, rfl, by decide⟩
abbrev Ssb (l : List ByteArray) : List Value := l.map Value.string
abbrev dat (s : ByteArray) : List UInt8 := s.data.toList
abbrev dd (x : ByteArray × ByteArray) : List UInt8 × List UInt8 := (x.1.data.toList, x.2.data.toList)
abbrev prs (l : List (ByteArray × ByteArray)) : List Value := flat2 (fun x => Value.string x.1) (fun x => Value.string x.2) l
theorem sbAt {w : World} {B n k : Nat} {A : Option Addr} {l : List ByteArray} (h : Reads w B 1 A n (Ssb l)) (hn : n = l.length) (hk : k < l.length) :
    ∃ b off, A = some ⟨b, off, none⟩ ∧ b < B ∧ w.cell? ⟨b, off + k, none⟩ = some (.string l[k]) := by
  obtain ⟨b, off, e, hb, hc⟩ := h.2 (by omega)
  exact ⟨b, off, e, hb, hc k _ (by simp [hk])⟩
/-- strings.Split at a byte -/
theorem splitP (d : UInt8) (D : ByteArray) (hD : Hid (D = ⟨#[d]⟩)) (s : ByteArray) (w : World) (hM : ML w) (hs : s.size ≤ 1000000) {L : List ByteArray} (hL : Hid (ptsB d s = L)) :
    Calls Tryz.prog 27 #[.string s, .string D] w fun e w' => (∃ A, e = .returned (.slice A L.length L.length) ∧ Reads w' w'.heap.size 1 A L.length (Ssb L)) ∧ Below w.heap.size w w' := by
  obtain ⟨m, hm⟩ := hM
  rw [hD.out]
  obtain ⟨h1, h2⟩ := splitB_pts d s
  refine (Tryz.strings_Split s ⟨#[d]⟩ m w (by omega) hm (by show 0 < 1; decide)).mono ?_
  rintro e w' ⟨rfl, rfl⟩
  rw [h1, h2, hL.out]
  refine ⟨⟨_, rfl, ?_⟩, ba (Below.refl _ _) _⟩
  exact reads_blkN (alloc1_new _ _) (by simp)
theorem cutP (s a b : ByteArray) (is : Bool) (w : World) (hM : ML w) (hs : s.size ≤ 1000000) (h : Hid (Lib.cut s.data.toList [45] = (a.data.toList, b.data.toList, is))) :
    Calls Tryz.prog 28 #[.string s, .string ⟨#[45]⟩] w fun e w' => e = .returned (.tuple #[.string a, .string b, .bool is]) ∧ Below w.heap.size w w' := by
  obtain ⟨m, hm⟩ := hM
  refine (Tryz.strings_Cut s ⟨#[45]⟩ m w (by omega) hm).mono ?_
  rintro e w' ⟨rfl, n, rfl⟩
  refine ⟨?_, drewN_below _ _⟩
  rw [show (⟨#[45]⟩ : ByteArray).data.toList = [45] from rfl, h.out]
theorem decP (s : ByteArray) (b : Bool) (w : World) (hs : s.size ≤ 1000000) (h : Hid (decL s.data.toList = b)) :
    Calls Tryz.prog 29 #[.string s] w fun e w' => e = .returned (.bool b) ∧ Below w.heap.size w w' := by
  rw [← h.out]; exact isDecimal_ s w (by omega)
theorem cmpP (a b : ByteArray) (r : Int) (w : World) (ha : a.size ≤ 1000000) (hb : b.size ≤ 1000000) (h : Hid (cmpI a.data.toList b.data.toList = r)) :
    Calls Tryz.prog 30 #[.string a, .string b] w fun e w' => e = .returned (.int .i64 r) ∧ w' = w := by
  rw [← h.out]; exact compare_ a b w (by omega) (by omega)
theorem folP (a b : ByteArray) (r : Bool) (w : World) (ha : a.size ≤ 1000000) (hb : b.size ≤ 1000000) (hd : Hid (a.data.toList.all digB = true)) (h : Hid (decide (cmpI (nextL a.data.toList) b.data.toList < 0) = r)) :
    Calls Tryz.prog 31 #[.string a, .string b] w fun e w' => e = .returned (.bool r) ∧ Below w.heap.size w w' := by
  rw [← h.out]; exact follows_ a b w (by omega) (by omega) hd.out
theorem atoiP (s : ByteArray) (v : Nat) (w : World) (hs : s.size ≤ 1000000) (h : Hid (Lib.atoiAll s.data.toList = .ok (v : Int))) :
    Calls Tryz.prog 32 #[.string s] w fun e w' => e = .returned (.tuple #[.int .i64 (v : Int), .nilIface]) ∧ Below w.heap.size w w' := by
  refine (Tryz.strconv_Atoi_ok s (by omega) v h.out w).mono ?_
  rintro e w' ⟨rfl, rfl | ⟨t, rfl⟩⟩
  · exact ⟨rfl, Below.refl _ _⟩
  · exact ⟨rfl, Lib.bytesWorld_below _ _ _⟩
theorem decL_no45 {l : List UInt8} (h : ∀ r, l ≠ 45 :: r) : decL l = digsL l := by
  unfold decL
  split
  · rename_i x r; exact absurd rfl (h _)
  · rfl
theorem no45_head {l : List UInt8} (h : (45 : UInt8) ∉ l) : ∀ r, l ≠ 45 :: r := by rintro r rfl; exact h (by simp)
theorem digs_head_ne {T : ByteArray} (h : digsL T.data.toList = true) : ∃ h0 : 0 < T.size, ((T[0].toNat : Int) == 45) = false := by
  have h0 : 0 < T.size := by
    have := (digsL_all h).2
    rcases Nat.eq_zero_or_pos T.size with e | e
    · exact absurd (List.eq_nil_of_length_eq_zero (by simpa using e)) this
    · exact e
  refine ⟨h0, ?_⟩
  obtain ⟨r, hr⟩ := data_cons T h0
  rw [beq_eq_false_iff_ne]
  intro e
  have e2 : T[0] = 45 := UInt8.toNat_inj.1 (by have : (45 : UInt8).toNat = 45 := rfl; omega)
  exact digs_no45 h (by rw [hr, e2]; simp)
/-- behind the sign's place: what the program looks at -/
theorem dec_split (T : ByteArray) : (decL T.data.toList = false ∧ digsL T.data.toList = false) ∨ (decL T.data.toList = true ∧ digsL T.data.toList = false ∧ ∃ h0 : 0 < T.size, ((T[0].toNat : Int) == 45) = true) ∨ (decL T.data.toList = true ∧ digsL T.data.toList = true) := by
  rcases hd : digsL T.data.toList with _ | _
  · rcases hc : decL T.data.toList with _ | _
    · exact .inl ⟨rfl, rfl⟩
    · refine .inr (.inl ⟨rfl, rfl, ?_⟩)
      by_cases h : ∃ r, T.data.toList = 45 :: r
      · obtain ⟨r, hr⟩ := h
        have h0 : 0 < T.size := by
          have : T.data.toList.length = T.size := rfl
          rw [hr] at this
          simp at this
          omega
        refine ⟨h0, ?_⟩
        obtain ⟨r', hr'⟩ := data_cons T h0
        rw [hr] at hr'
        injection hr' with e _
        rw [← e]; rfl
      · rw [decL_no45 (fun r e => h ⟨r, e⟩), hd] at hc
        cases hc
  · exact .inr (.inr ⟨(digs_decL hd).1, rfl⟩)
theorem cut_len (d : UInt8) (s : ByteArray) (a b : List UInt8) (is : Bool) (h : Lib.cut s.data.toList [d] = (a, b, is)) : (mkB a).size ≤ s.size ∧ (mkB b).size ≤ s.size := by
  have hl : s.data.toList.length = s.size := rfl
  have e1 : (mkB a).size = a.length := by show a.toArray.size = _; simp
  have e2 : (mkB b).size = b.length := by show b.toArray.size = _; simp
  rcases cut_cases d s.data.toList with ⟨_, hc⟩ | ⟨x, t, hx, _, hc⟩
  · rw [hc] at h
    injection h with h1 h2; injection h2 with h2 h3; subst h1 h2
    rw [e1, e2]; simp
  · rw [hc] at h
    injection h with h1 h2; injection h2 with h2 h3; subst h1 h2
    have := congrArg List.length hx
    simp at this
    rw [e1, e2]; omega
def pO (k : Nat) (s : ByteArray) : Option Nat := if k = 0 then none else some (natL s.data.toList)
/-- what is known of the runs read -/
def LdP (k : Nat) (s : ByteArray) (acc : List (ByteArray × ByteArray)) : Prop := 0 < k → digsL s.data.toList = true ∧ lastP (acc.map dd) = s.data.toList
theorem LdP.next (k : Nat) {F E : ByteArray} (acc : List (ByteArray × ByteArray)) (h : digsL E.data.toList = true) : LdP (k + 1) E (acc ++ [(F, E)]) := fun _ => ⟨h, by unfold lastP; simp⟩
theorem gap_yes {k : Nat} {S F : ByteArray} {acc : List (ByteArray × ByteArray)} (h : LdP k S acc) (h0 : 0 < k) (hF : digsL F.data.toList = true) : decide (cmpI (nextL S.data.toList) F.data.toList < 0) = gapB (pO k S) (natL F.data.toList) := by
  unfold pO gapB
  rw [if_neg (by omega)]
  simp only
  rw [decide_eq_decide]
  exact follows_nat (h h0).1 hF
theorem prs_snoc (acc : List (ByteArray × ByteArray)) (F E : ByteArray) : prs (acc ++ [(F, E)]) = prs acc ++ [.string F, .string E] := flat2_append acc [(F, E)]
theorem ivs_snoc (l : List Int) (x : Int) : ivs (l ++ [x]) = ivs l ++ [.int .i64 x] := by simp
theorem ptsB_dat (d : UInt8) (s : ByteArray) : (ptsB d s).map dat = pts d [] s.data.toList := by
  unfold ptsB
  rw [List.map_map]
  conv => rhs; rw [← List.map_id (pts d [] s.data.toList)]
  apply List.map_congr_left
  intro a _
  exact mkB_dat a
theorem ptsB_size (d : UInt8) (s : ByteArray) : (ptsB d s).length ≤ s.size + 1 ∧ 0 < (ptsB d s).length := by
  unfold ptsB
  rw [List.length_map, pts_len]
  have h1 : s.data.toList.length = s.size := rfl
  have := List.count_le_length (a := d) (l := s.data.toList)
  omega
theorem pts_sz (d : UInt8) : ∀ (l cur x : List UInt8), x ∈ pts d cur l → x.length ≤ cur.length + l.length
  | [], cur, x, h => by
    unfold pts at h
    rw [List.mem_singleton.1 h]; simp
  | c :: t, cur, x, h => by
    by_cases hc : c = d
    · subst hc
      rw [pts_hit] at h
      rcases List.mem_cons.1 h with rfl | h
      · simp
      · have := pts_sz c t [] x h
        simp at this ⊢; omega
    · rw [pts_other hc] at h
      have := pts_sz d t _ x h
      simp at this ⊢; omega
theorem ptsB_sz {d : UInt8} {s x : ByteArray} (h : x ∈ ptsB d s) : x.size ≤ s.size := by
  unfold ptsB at h
  obtain ⟨y, hy, rfl⟩ := List.mem_map.1 h
  have := pts_sz d _ _ _ hy
  have h1 : s.data.toList.length = s.size := rfl
  have e1 : (mkB y).size = y.length := by show y.toArray.size = _; simp
  rw [e1]; simp at this; omega
theorem datDrop {l : List ByteArray} {k : Nat} (h : k < l.length) : (l.map dat).drop k = dat l[k] :: (l.map dat).drop (k + 1) := by
  have := List.drop_eq_getElem_cons (l := l.map dat) (i := k) (by simpa using h)
  rw [this, List.getElem_map]
theorem bigB : digsL (⟨#[49, 48, 48, 48, 48, 48, 48, 48, 48, 48]⟩ : ByteArray).data.toList = true ∧ natL (⟨#[49, 48, 48, 48, 48, 48, 48, 48, 48, 48]⟩ : ByteArray).data.toList = 1000000000 := by decide +kernel
theorem runP_fst {r : List UInt8} (h : (45 : UInt8) ∉ r) (h2 : digsL r = true) : runP r = some (r, r) := by rw [runP_one h, if_pos h2]
theorem runP_no1 {r : List UInt8} (h : (45 : UInt8) ∉ r) (h2 : digsL r = false) : runP r = none := by rw [runP_one h, if_neg (by simp [h2])]
theorem runP_snd {a t : List UInt8} (h : (45 : UInt8) ∉ a) (h1 : digsL a = true) (h2 : digsL t = true) (h3 : natL a < natL t) : runP (a ++ 45 :: t) = some (a, t) := by rw [runP_two h, if_pos ⟨h1, h2, h3⟩]
theorem runP_no2 {a t : List UInt8} (h : (45 : UInt8) ∉ a) (h1 : digsL a = false ∨ digsL t = false ∨ ¬ natL a < natL t) : runP (a ++ 45 :: t) = none := by
  rw [runP_two h, if_neg]
  rintro ⟨h2, h3, h4⟩
  rcases h1 with h1 | h1 | h1
  · rw [h1] at h2; cases h2
  · rw [h1] at h3; cases h3
  · exact h1 h4
end Go.Proofs.YtngbgchnbcfliaaGreatDoor
