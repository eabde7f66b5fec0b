/- strings.Split at a byte; slices of strings. No condition. Syntax: lexer.Lines. No condition. -/
import Derived.Test.YtcopnpllaoahaaaGreatDoorMem
import Derived.Test.YtcopnpllaoahaaaGreatDoorOwn
import Derived.Test.YtcopnpllaoahaaaGreatDoorY1
import Derived.Test.YtcopnpllaoahaaaGreatDoorJ5
import Derived.Test.YtcopnpllaoahaaaGreatDoorY5
import Derived.Test.YtcopnpllaoahaaaGreatDoorBld
namespace Go.Proofs.YtcopnpllaoahaaaGreatDoor
open Go.RowKit
abbrev Ssb (l : List ByteArray) : List Value := l.map Value.string
abbrev dat (s : ByteArray) : List UInt8 := s.data.toList
theorem sbAt {w : World} {B n k : Nat} {A : Option Addr} {l : List ByteArray} (h : Reads w B 1 A n (Ssb l)) (hn : n = l.length) (hk : k < l.length) :
    ∃ b off, A = some ⟨b, off, none⟩ ∧ b < B ∧ w.cell? ⟨b, off + k, none⟩ = some (.string l[k]) := by
  obtain ⟨b, off, e, hb, hc⟩ := h.2 (by omega)
  exact ⟨b, off, e, hb, hc k _ (by simp [hk])⟩
theorem splitP (d : UInt8) (D : ByteArray) (hD : Hid (D = ⟨#[d]⟩)) (s : ByteArray) (w : World) (hM : ML w) (hs : s.size ≤ 1000000) {L : List ByteArray} (hL : Hid (ptsB d s = L)) :
    Calls Tryz.prog 34 #[.string s, .string D] w fun e w' => (∃ A, e = .returned (.slice A L.length L.length) ∧ Reads w' w'.heap.size 1 A L.length (Ssb L)) ∧ Below w.heap.size w w' := by
  obtain ⟨m, hm⟩ := hM
  rw [hD.out]
  obtain ⟨h1, h2⟩ := splitB_pts d s
  refine (Tryz.strings_Split s ⟨#[d]⟩ m w (by omega) hm (by show 0 < 1; decide)).mono ?_
  rintro e w' ⟨rfl, rfl⟩
  rw [h1, h2, hL.out]
  refine ⟨⟨_, rfl, ?_⟩, ba (Below.refl _ _) _⟩
  exact reads_blkN (alloc1_new _ _) (by simp)
theorem ptsB_dat (d : UInt8) (s : ByteArray) : (ptsB d s).map dat = pts d [] s.data.toList := by
  unfold ptsB
  rw [List.map_map]
  conv => rhs; rw [← List.map_id (pts d [] s.data.toList)]
  apply List.map_congr_left
  intro a _
  exact mkB_dat a
theorem pts_sz (d : UInt8) : ∀ (l cur x : List UInt8), x ∈ pts d cur l → x.length ≤ cur.length + l.length
  | [], cur, x, h => by
    unfold pts at h
    rw [List.mem_singleton.1 h]; simp
  | c :: t, cur, x, h => by
    by_cases hc : c = d
    · subst hc
      rw [pts_hit] at h
      rcases List.mem_cons.1 h with rfl | h
      · simp
      · have := pts_sz c t [] x h
        simp at this ⊢; omega
    · rw [pts_other hc] at h
      have := pts_sz d t _ x h
      simp at this ⊢; omega
theorem ptsB_sz {d : UInt8} {s x : ByteArray} (h : x ∈ ptsB d s) : x.size ≤ s.size := by
  unfold ptsB at h
  obtain ⟨y, hy, rfl⟩ := List.mem_map.1 h
  have := pts_sz d _ _ _ hy
  have h1 : s.data.toList.length = s.size := rfl
  have e1 : (mkB y).size = y.length := by show y.toArray.size = _; simp
  rw [e1]; simp at this; omega
theorem ptsB_len (d : UInt8) (s : ByteArray) : (ptsB d s).length = (pts d [] s.data.toList).length := by unfold ptsB; rw [List.length_map]
end Go.Proofs.YtcopnpllaoahaaaGreatDoor
namespace Go.Proofs.YtcopnpllaoahaaaGreatDoor
open Go.RowKit
/-- what Lines answers -/
def llK (L : List UInt8) : List (List Tok) × Nat × Nat × Int :=
  if 4000 < L.length then ([], 0, 0, 3) else if L = [] then ([], 0, 0, 0) else if L.getLast? ≠ some 10 then ([], 0, 0, 6) else
  match lxE (pcs [] L) 0 with
  | some (i, p, e) => ([], i + 1, p, e)
  | none => ((pcs [] L).map fun x => (lineK x).1, 0, 0, 0)
theorem psK_ll (L : List UInt8) : psK L = if (llK L).2.2.2 ≠ 0 then ([], (llK L).2.1, (((llK L).2.2.1 : Nat) : Int), (llK L).2.2.2) else rdS (llK L).1 0 [] := by
  unfold psK llK
  by_cases h1 : 4000 < L.length
  · rw [if_pos h1, if_pos h1]; rfl
  rw [if_neg h1, if_neg h1]
  by_cases h2 : L = []
  · rw [if_pos h2, if_pos h2]; rfl
  rw [if_neg h2, if_neg h2]
  by_cases h3 : L.getLast? ≠ some 10
  · rw [if_pos h3, if_pos h3]; rfl
  rw [if_neg h3, if_neg h3]
  rcases hx : lxE (pcs [] L) 0 with _ | ⟨i, p, e⟩
  · rfl
  · have := (lxE_fault (pcs [] L) 0 i p e L.length (fun x hx => by have := (pcs_len L []).2 x hx; simpa using this) hx).1
    simp only
    rw [if_pos this]
theorem pcs_pts : ∀ (l cur : List UInt8), pcs cur (l ++ [10]) = pts 10 cur l
  | [], cur => by rw [List.nil_append, pcs, if_pos rfl]; rfl
  | c :: t, cur => by
    by_cases h : c = 10
    · subst h; rw [List.cons_append, pcs, if_pos rfl, pts_hit, pcs_pts t []]
    · rw [List.cons_append, pcs, if_neg h, pts_other h, pcs_pts t]
theorem suffix_10 (l : List UInt8) : Lib.hasSuffix l [10] = decide (l.getLast? = some 10) := by
  unfold Lib.hasSuffix
  rw [Bool.eq_iff_iff, List.isSuffixOf_iff_suffix, decide_eq_true_eq]
  constructor
  · rintro ⟨t, rfl⟩; simp
  · intro h
    obtain ⟨i, hi⟩ := List.getLast?_eq_some_iff.1 h
    exact ⟨i, hi.symm⟩
theorem cutsuf_no (s : ByteArray) (hs : s.size ≤ 1000000) (h : s.data.toList.getLast? ≠ some 10) (w : World) : Calls Tryz.prog 33 #[.string s, .string ⟨#[10]⟩] w fun e w' => (∃ t, e = .returned (.tuple #[.string t, .bool false])) ∧ w' = w := by
  refine (Tryz.strings_CutSuffix s ⟨#[10]⟩ w (by omega)).mono ?_
  rintro e w' ⟨rfl, rfl⟩
  rw [show (⟨#[10]⟩ : ByteArray).data.toList = [10] from rfl, suffix_10, decide_eq_false h]
  exact ⟨⟨_, rfl⟩, rfl⟩
theorem cutsuf_yes (s t : ByteArray) (hs : s.size ≤ 1000000) (h : s.data.toList = t.data.toList ++ [10]) (w : World) : Calls Tryz.prog 33 #[.string s, .string ⟨#[10]⟩] w fun e w' => e = .returned (.tuple #[.string t, .bool true]) ∧ w' = w := by
  refine (Tryz.strings_CutSuffix s ⟨#[10]⟩ w (by omega)).mono ?_
  rintro e w' ⟨rfl, rfl⟩
  have hl : Lib.hasSuffix s.data.toList [10] = true := by rw [suffix_10, h]; simp
  rw [show (⟨#[10]⟩ : ByteArray).data.toList = [10] from rfl]
  unfold Lib.trimSuffix
  rw [if_pos hl, hl, h]
  have e : (t.data.toList ++ [10]).take ((t.data.toList ++ [10]).length - [(10 : UInt8)].length) = t.data.toList := by simp
  rw [e]
  refine ⟨?_, rfl⟩
  have e2 : (⟨t.data.toList.toArray⟩ : ByteArray) = t := by apply ByteArray.ext; simp
  rw [e2]
/-- the lines read so far -/
structure LlS (w : World) (PL : List (List UInt8)) (v : Value) (Ls : List Lt) (w' : World) : Prop where
  own : w'.ownsRow w.heap.size 46 1 v Ls.length (lts Ls)
  bel : Below w.heap.size w w'
  el : ∀ x ∈ Ls, w'.ownsRow w.heap.size 58 9 (.slice x.1 x.2.2.length x.2.1) x.2.2.length (tks (x.2.2.map t9))
  ls : Ls.map (fun x => x.2.2) = (PL.take Ls.length).map (fun x => (lineK x).1)
  le : lxE PL 0 = lxE (PL.drop Ls.length) Ls.length
theorem LlS.start (w : World) (PL : List (List UInt8)) : LlS w PL (.slice none 0 0) [] w :=
  ⟨World.ownsRow_nil _ _ _ _, Below.refl _ _, (fun x hx => by cases hx), by simp, by simp⟩
theorem LlS.go {w w1 w2 : World} {PL : List (List UInt8)} {v : Value} {Ls : List Lt} (h : LlS w PL v Ls w1) (hb : Below w1.heap.size w1 w2) : LlS w PL v Ls w2 :=
  ⟨own_below h.own hb, bt h.bel hb, fun r hr => own_below (h.el r hr) hb, h.ls, h.le⟩
theorem LlS.step {w w1 w2 : World} {PL : List (List UInt8)} {v v' : Value} {Ls : List Lt} {A : Option Addr} {c n : Nat} {x : List UInt8} {m : List Tok} {p : Nat} (h : LlS w PL v Ls w1) (hx : PL[Ls.length]? = some x) (hm : lineK x = (m, p, 0))
    (ho : w1.ownsRow w.heap.size 58 9 (.slice A m.length c) m.length (tks (m.map t9)))
    (hO : w2.ownsRow w.heap.size 46 1 v' n (lts Ls ++ [.slice A m.length c])) (hn : n = Ls.length + 1) (hb : Below w.heap.size w w2) (hg : w1.grownBy w2 v.ownBlock) : LlS w PL v' (Ls ++ [(A, c, m)]) w2 := by
  have hgr : ∀ {A' c' n' xs}, w1.ownsRow w.heap.size 58 9 (.slice A' n' c') n' xs → w2.ownsRow w.heap.size 58 9 (.slice A' n' c') n' xs := fun ho => own_grown ho hg (own_own_ne ho h.own (by decide))
  obtain ⟨hlt, hxe⟩ := List.getElem?_eq_some_iff.1 hx
  subst hn
  refine ⟨?_, hb, ?_, ?_, ?_⟩
  · rw [lts_app, List.length_append]; exact hO
  · intro r hr
    rcases List.mem_append.1 hr with hr | hr
    · exact hgr (h.el r hr)
    · rw [List.mem_singleton.1 hr]; exact hgr ho
  · rw [List.map_append, h.ls, List.length_append, List.length_singleton, List.take_add_one, hx, List.map_append]
    simp [hm]
  · rw [h.le, List.length_append, List.length_singleton, List.drop_eq_getElem_cons hlt, hxe, lxE, hm, if_neg (by simp)]
theorem LlS.done {w w1 : World} {PL : List (List UInt8)} {n c : Nat} {A : Option Addr} {Ls : List Lt} (h : LlS w PL (.slice A n c) Ls w1) : IsLts w1 A Ls := by
  refine ⟨?_, fun x hx => ?_⟩
  · obtain ⟨A2, c2, e, hr, _⟩ := own_sl h.own
    cases e; exact hr
  · obtain ⟨A2, c2, e, hr, h1, h2⟩ := own_sl (h.el x hx)
    cases e; exact ⟨hr, h1, h2⟩
/-- what comes back -/
def RetLl (w : World) (r : List (List Tok) × Nat × Nat × Int) (e : Ending) (w' : World) : Prop :=
  ∃ A c Ls, e = .returned (.tuple #[.slice A r.1.length c, .int .i64 (r.2.1 : Int), .int .i64 (r.2.2.1 : Int), .int .i64 r.2.2.2]) ∧ Below w.heap.size w w' ∧ IsLts w' A Ls ∧ Ls.map (fun x => x.2.2) = r.1 ∧ r.1.length ≤ c ∧ c ≤ 9223372036854775807
theorem RetLl.no {w w' : World} {r : List (List Tok) × Nat × Nat × Int} {a b : Nat} {x y er : Int} (h : r = ([], a, b, er)) (hx : x = (a : Int)) (hy : y = (b : Int)) (hb : Below w.heap.size w w') : RetLl w r (.returned (.tuple #[.slice none 0 0, .int .i64 x, .int .i64 y, .int .i64 er])) w' := by
  subst h hx hy
  exact ⟨none, 0, [], rfl, hb, ⟨Reads.none_, fun x hx => by cases hx⟩, rfl, by simp, by omega⟩
set_option maxRecDepth 100000 in
set_option maxHeartbeats 4000000 in
theorem lines_ (s : ByteArray) (r : List (List Tok) × Nat × Nat × Int) (hr : Hid (llK s.data.toList = r)) (hs : s.size ≤ 140737488351232) (w : World) (hE : Esc w) (hM : ML w) :
    Calls Tryz.prog 23 #[.string s] w (RetLl w r) := by
  have hsl : s.data.toList.length = s.size := by simp
  by_cases h1 : 4000 < s.size
  · have HN := Lib.hid (show r = ([], 0, 0, 3) by rw [← hr.out]; unfold llK; rw [if_pos (by rw [hsl]; exact h1)])
    have i1 : (4000 : Int) < (s.size : Int) := by omega
    clear h1 hsl hr
    go_enter Tryz.func23, Tryz.ntmps23
    go_wp2
    exact bodyPost_ret (v := .tuple #[.slice none 0 0, .int .i64 0, .int .i64 0, .int .i64 3]) (by simp [results, go_sem]) rfl (RetLl.no HN.out rfl rfl (Below.refl _ _))
  have i1 : ¬ ((4000 : Int) < (s.size : Int)) := by omega
  have hr1 := hr.out
  unfold llK at hr1
  rw [if_neg (by rw [hsl]; exact h1)] at hr1
  by_cases h2 : s.size = 0
  · have h20 : s.data.toList = [] := List.length_eq_zero_iff.1 (by rw [hsl]; exact h2)
    have HN := Lib.hid (show r = ([], 0, 0, 0) by rw [← hr1, if_pos h20])
    have hz2 : s.toList.isEmpty = true := List.isEmpty_iff.2 ((toList_nil s).2 h2)
    clear h1 hsl hr hr1 h20 h2
    go_enter Tryz.func23, Tryz.ntmps23
    go_wp2
    exact bodyPost_ret (v := .tuple #[.slice none 0 0, .int .i64 0, .int .i64 0, .int .i64 0]) (by simp [results, go_sem]) rfl (RetLl.no HN.out rfl rfl (Below.refl _ _))
  have h20 : s.data.toList ≠ [] := fun e => h2 (by rw [← hsl, e]; rfl)
  have hz2 : s.toList.isEmpty = false := by rw [List.isEmpty_eq_false_iff]; exact fun e => h2 ((toList_nil s).1 e)
  rw [if_neg h20] at hr1
  by_cases h3 : s.data.toList.getLast? = some 10
  case neg =>
    have HN := Lib.hid (show r = ([], 0, 0, 6) by rw [← hr1, if_pos h3])
    have HC := Lib.hid (cutsuf_no s (by omega) h3)
    clear h1 hsl hr hr1 h20 h2 h3
    go_enter Tryz.func23, Tryz.ntmps23
    go_wp2_with fail
    (with_reducible refine (HC.out _).mono ?_); rintro e w1 ⟨⟨t, rfl⟩, hw1⟩; subst hw1
    go_wp2
    exact bodyPost_ret (v := .tuple #[.slice none 0 0, .int .i64 0, .int .i64 0, .int .i64 6]) (by simp [results, go_sem]) rfl (RetLl.no HN.out rfl rfl (Below.refl _ _))
  obtain ⟨i, hi⟩ := List.getLast?_eq_some_iff.1 h3
  rw [if_neg (fun h => h h3)] at hr1
  obtain ⟨t, htl⟩ : ∃ t : ByteArray, t.data.toList = i := ⟨mkB i, mkB_dat i⟩
  have HC := Lib.hid (cutsuf_yes s t (by omega) (by rw [hi, htl]))
  rw [hi, pcs_pts, ← htl] at hr1
  obtain ⟨PB, hPB⟩ : ∃ L, ptsB 10 t = L := ⟨_, rfl⟩
  have hPL : pts 10 [] t.data.toList = PB.map dat := by rw [← hPB, ptsB_dat]
  rw [hPL] at hr1
  have hts : t.size ≤ 4000 := by
    have e1 : t.data.toList.length = t.size := by simp
    have e2 : s.data.toList.length = t.data.toList.length + 1 := by rw [hi, htl]; simp
    omega
  have hsz : ∀ x ∈ PB, x.size ≤ 4000 := fun x hx => by
    have h := pts_sz 10 t.data.toList [] (dat x) (by rw [hPL]; exact List.mem_map.2 ⟨x, hx, rfl⟩)
    have e1 : (dat x).length = x.size := by simp
    have e2 : t.data.toList.length = t.size := by simp
    rw [e1, e2] at h
    simp at h; omega
  have hPBl : PB.length ≤ 4001 := by
    have e1 := congrArg List.length hPL
    rw [pts_len, List.length_map] at e1
    have e2 : t.data.toList.length = t.size := by simp
    have e3 := List.count_le_length (a := (10 : UInt8)) (l := t.data.toList)
    omega
  have HP := Lib.hid hPB
  have HR := Lib.hid hr1
  have HS := Lib.hid hsz
  have HE := Lib.hid hE
  have HM := Lib.hid hM
  clear h1 hsl hr hr1 h20 h2 h3 hi htl hPB hPL hsz hE hM
  go_enter Tryz.func23, Tryz.ntmps23
  go_wp2_with fail
  (with_reducible refine (HC.out _).mono ?_); rintro e w1 ⟨rfl, hw1⟩; subst hw1
  go_wp2_with fail
  (with_reducible refine (splitP 10 _ (Lib.hid rfl) t _ HM.out (by omega) HP).mono ?_); rintro e w1 ⟨⟨AP, rfl, hrP⟩, hb1⟩
  have HB1 := Lib.hid hb1
  have HRP := Lib.hid hrP
  clear hb1 hrP HC HP
  go_wp2
  go_loopw [2, 28] (fun l u wr => ∃ Ls : List Lt, Ls.length ≤ PB.length ∧ u = .int .i64 (Ls.length : Int) ∧ LlS w1 (PB.map dat) l Ls wr) (fun _ u _ => PB.length - (intOf u).toNat)
  case atStart => exact ⟨[], Nat.zero_le _, rfl, LlS.start _ _⟩
  case round =>
    obtain ⟨Ls, hk, rfl, hX⟩ := hrel
    obtain ⟨A0, c0, rfl, hrd, hcp, hcm⟩ := own_sl hX.own
    by_cases hlt : Ls.length < PB.length
    case neg =>
      have he : Ls.length = PB.length := by omega
      have i2 : ¬ ((Ls.length : Int) < (PB.length : Int)) := by omega
      have hn : lxE (PB.map dat) 0 = none := by rw [hX.le, List.drop_of_length_le (by simp; omega)]; rfl
      have hR2 := HR.out
      rw [hn] at hR2
      simp only at hR2
      have hls := hX.ls
      rw [List.take_of_length_le (by simp; omega)] at hls
      have hre : r = (Ls.map (fun x => x.2.2), 0, 0, 0) := by rw [← hR2, hls]
      have HRe := Lib.hid hre
      have HX := Lib.hid hX
      clear hX hrd hn hR2 hls hre he HR HRP
      go_wp2
      refine bodyPost_ret (v := .tuple #[.slice A0 Ls.length c0, .int .i64 0, .int .i64 0, .int .i64 0]) (by simp [results, go_sem]) rfl ?_
      rw [HRe.out]
      exact ⟨A0, c0, Ls, by simp, bt HB1.out HX.out.bel, HX.out.done, rfl, by simpa using hcp, hcm⟩
    have i2 : (Ls.length : Int) < (PB.length : Int) := by omega
    have i0 : (0 : Int) ≤ (Ls.length : Int) := by omega
    obtain ⟨bP, oP, rfl, hbP, a0⟩ := sbAt (HRP.out.below hX.bel) rfl hlt
    have hxx : (PB.map dat)[Ls.length]? = some PB[Ls.length].data.toList := by rw [List.getElem?_map, List.getElem?_eq_getElem hlt]; rfl
    have hls := HS.out _ (List.getElem_mem hlt)
    obtain ⟨x, hx⟩ : ∃ x, PB[Ls.length] = x := ⟨_, rfl⟩
    rw [hx] at a0 hxx hls
    obtain ⟨m, p, er, hm⟩ : ∃ m p er, lineK x.data.toList = (m, p, er) := ⟨_, _, _, rfl⟩
    have HL := Lib.hid (fun W => line_o x (by omega) (m, p, er) (Lib.hid hm) W)
    have HX := Lib.hid hX
    have Hxx := Lib.hid hxx
    have Hm := Lib.hid hm
    clear hX hrd hx hxx hm
    by_cases he0 : er = 0
    · subst he0
      go_wp2_with fail
      (with_reducible refine (HL.out _ (HE.out.below (bt HB1.out HX.out.bel)) (HM.out.below (bt HB1.out HX.out.bel))).mono ?_); rintro e w3 ⟨A5, c5, rfl, hb3, ho3⟩
      have hX3 := HX.out.go hb3
      have hX4 := hX3.go ((Below.refl _ _).alloc (Nat.le_refl _) (.cells #[.slice A5 m.length c5] 46))
      have Ho3 := Lib.hid (own_base (own_below ho3 ((Below.refl w3.heap.size w3).alloc (Nat.le_refl _) (.cells #[.slice A5 m.length c5] 46))) HX.out.bel.size)
      have hown4 := hX4.own
      have hbel4 := hX4.bel
      have HX4 := Lib.hid hX4
      clear hb3 ho3 hX3 hX4 a0
      go_wp2_with (at_builtin; refine wpList_ap ltEl (w0 := w1) hown4 hbel4 [.slice A5 m.length c5] (by exact alloc1_new _ _) ?_)
      intro g7 cap7 w7 hO7 hb7 hg7
      have HX7 := Lib.hid (HX4.out.step Hxx.out Hm.out Ho3.out hO7 rfl hb7 hg7)
      clear hO7 hb7 hg7 hown4 hbel4
      go_wp2
      go_roundw
      case rel => exact ⟨Ls ++ [(A5, c5, m)], by simp; omega, by simp, HX7.out⟩
      case measure => (simp [intOf]) <;> omega
    · have e1 : (er != 0) = true := by simpa using he0
      have hR2 := HR.out
      have hle := HX.out.le
      have hdr := List.drop_eq_getElem_cons (l := PB.map dat) (i := Ls.length) (by simpa using hlt)
      have hxe := Hxx.out
      rw [List.getElem?_eq_getElem (by simpa using hlt)] at hxe
      rw [hdr, Option.some.inj hxe, lxE, Hm.out, if_pos (by simpa using he0)] at hle
      rw [hle] at hR2
      simp only at hR2
      have HN := Lib.hid (show r = ([], Ls.length + 1, p, er) from hR2.symm)
      clear hR2 hle hdr hxe he0
      go_wp2_with fail
      (with_reducible refine (HL.out _ (HE.out.below (bt HB1.out HX.out.bel)) (HM.out.below (bt HB1.out HX.out.bel))).mono ?_); rintro e w3 ⟨A5, c5, rfl, hb3, ho3⟩
      have HB3 := Lib.hid (bt (bt HB1.out HX.out.bel) hb3)
      clear hb3 ho3 a0
      go_wp2
      exact bodyPost_ret (v := .tuple #[.slice none 0 0, .int .i64 ((Ls.length : Int) + 1), .int .i64 (p : Int), .int .i64 er]) (by simp [results, go_sem]) rfl (RetLl.no HN.out (by omega) rfl HB3.out)
end Go.Proofs.YtcopnpllaoahaaaGreatDoor
