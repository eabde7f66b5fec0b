/- Parse of the program. -/
import Derived.Test.YtoogemdcmnjpnaaDoorS22
namespace Go.Proofs.YtoogemdcmnjpnaaDoor
open Go.RowKit
def feedW (s : ByteArray) : Bool := Lib.hasPrefix s.data.toList [102, 101, 101, 100]
theorem feedW_plain {s : ByteArray} (h : feedW s = true) : plainR s = (0, 6) := by
  unfold feedW Lib.hasPrefix at h
  have hp := List.isPrefixOf_iff_prefix.1 h
  unfold plainR
  have key : ∀ K : Int, List.isPrefixOf [102, 101, 101, 100] (wordL K) = false → s ≠ wordS K := by
    intro K hK e
    have : s.data.toList = wordL K := by rw [e]; rfl
    rw [← this, h] at hK
    exact absurd hK (by simp)
  rw [if_neg (key 2 (by decide)), if_neg (key 3 (by decide)), if_neg (key 4 (by decide))]
theorem feedW_none {s : ByteArray} (h : feedW s = false) : feedP s.data.toList = false := by
  rw [Bool.eq_false_iff] at h ⊢
  intro hp
  apply h
  unfold feedW Lib.hasPrefix
  unfold feedP Lib.hasPrefix at hp
  rw [List.isPrefixOf_iff_prefix] at hp ⊢
  exact List.IsPrefix.trans (by decide) hp
theorem plainR_cases (s : ByteArray) : (plainR s).2 = 0 ∨ plainR s = (0, 6) := by
  unfold plainR
  split
  · exact .inl rfl
  · split
    · exact .inl rfl
    · split
      · exact .inl rfl
      · exact .inr rfl
theorem lineR_feedW {s : ByteArray} (h : feedW s = true) : lineR s = feedR s := lineR_feed (feedW_plain h)
theorem lineR_noW {s : ByteArray} (h : feedW s = false) : lineR s = (((plainR s).1, emp), (plainR s).2) := by
  rcases plainR_cases s with h1 | h1
  · unfold lineR; rw [if_pos h1, h1]
  · rw [lineR_feed h1, h1]
    unfold feedR
    rw [feedW_none h]
    rfl
theorem plainF' (s : ByteArray) (w : World) (h : Hid (feedW s = false)) {x : Sc} {e0 : Int} (hx : Hid (lineR s = (x, e0))) :
    Calls Tryd.prog 53 #[.string s] w fun e w' => e = .returned (.tuple #[.agg #[.int .i64 x.1, .string x.2], .int .i64 e0]) ∧ Below w.heap.size w w' := by
  have := plainF s w
  have hl := lineR_noW h.out
  rw [hx.out] at hl
  rw [← (Prod.mk.inj hl).1, ← (Prod.mk.inj hl).2] at this
  exact this
theorem feedF' (s : ByteArray) (w : World) (hE : Esc w) (hsz : s.size ≤ 1099511627776) (h : Hid (feedW s = true)) {x : Sc} {e0 : Int} (hx : Hid (lineR s = (x, e0))) :
    Calls Tryd.prog 55 #[.string s] w fun e w' => e = .returned (.tuple #[.agg #[.int .i64 x.1, .string x.2], .int .i64 e0]) ∧ Below w.heap.size w w' := by
  have := feedF s w hE hsz
  rw [← lineR_feedW h.out, hx.out] at this
  exact this
theorem prefW (s : ByteArray) (w : World) {q : Bool} (hq : Hid (feedW s = q)) :
    Calls Tryd.prog 54 #[.string s, .string ⟨#[102, 101, 101, 100]⟩] w fun e w' => e = .returned (.bool q) ∧ w' = w := by
  have h := Tryd.strings_HasPrefix s ⟨#[102, 101, 101, 100]⟩ w
  rw [← hq.out]
  exact h
theorem suffW (s : ByteArray) (w : World) (hsz : s.size ≤ 1000000) {q : Bool} (hq : Hid (Lib.hasSuffix s.data.toList [10] = q)) :
    Calls Tryd.prog 50 #[.string s, .string ⟨#[10]⟩] w fun e w' => e = .returned (.bool q) ∧ w' = w := by
  have h := Tryd.strings_HasSuffix s ⟨#[10]⟩ w (by omega)
  rw [← hq.out]
  exact h
theorem countW (s : ByteArray) (w : World) {L : List ByteArray} (hL : Hid (lnsB s = L)) :
    Calls Tryd.prog 51 #[.string s, .string ⟨#[10]⟩] w fun e w' => e = .returned (.int .i64 (L.length : Int)) ∧ w' = w := by
  have h := Tryd.strings_Count_one s 10 w
  have e : Lib.countByte s.data.toList 10 = L.length := by rw [← hL.out, lnsB_len]; rfl
  rw [e] at h
  exact h
theorem splitW (s : ByteArray) (w : World) (hsz : s.size ≤ 1000000) {m : Int} (hm : w.cell? ⟨1, 0, none⟩ = some (.int .i64 m)) (h10 : Hid (s.data.toList.getLast? = some 10)) {L : List ByteArray} (hL : Hid (lnsB s = L)) :
    Calls Tryd.prog 52 #[.string (s.extract 0 (s.size - 1)), .string ⟨#[10]⟩] w fun e w' => e = .returned (.slice (some ⟨w.heap.size, 0, none⟩) L.length L.length) ∧ w' = w.alloc (.cells (Strs L).toArray 9) := by
  have h := Tryd.strings_Split (s.extract 0 (s.size - 1)) ⟨#[10]⟩ m w (by rw [ByteArray.size_extract]; omega) hm (by decide)
  obtain ⟨h1, h2⟩ := splitB_lns h10.out
  rw [h1, h2, hL.out] at h
  exact h
theorem suff_ten (s : ByteArray) : Lib.hasSuffix s.data.toList [10] = decide (s.data.toList.getLast? = some 10) := by
  rw [Bool.eq_iff_iff, decide_eq_true_eq]
  unfold Lib.hasSuffix
  rw [List.isSuffixOf_iff_suffix]
  constructor
  · rintro ⟨t, ht⟩; rw [← ht]; simp
  · intro h
    obtain ⟨i, hi⟩ := List.getLast?_eq_some_iff.1 h
    exact ⟨i, hi.symm⟩
set_option maxRecDepth 100000 in
set_option maxHeartbeats 1600000 in
theorem sparse (s : ByteArray) (w : World) (hsz : s.size ≤ 1000000) (hE : Esc w) {m : Int} (hm : w.cell? ⟨1, 0, none⟩ = some (.int .i64 m)) :
    Calls Tryd.prog 35 #[.string s] w (RetS3 w (parse s)) := by
  by_cases h0 : s.size = 0
  · have e : s = ⟨#[]⟩ := by
      rw [← mkB_eta s]
      have hl : s.data.toList = [] := List.length_eq_zero_iff.1 (by rw [show s.data.toList.length = s.size by simp, h0])
      rw [hl]; rfl
    have hR := Lib.hid (show parse s = ([], 0, 0) by rw [e]; rfl)
    have m1 : s.toList.isEmpty = true := by rw [(toList_nil s).2 h0]; rfl
    have m2 : s.toList = [] := (toList_nil s).2 h0
    clear e h0
    go_enter Tryd.func35, Tryd.ntmps35
    go_wp2
    go_ret3
    exact RetS3.nil (Below.refl _ _) hR.out
  have hE1 : s.toList.isEmpty = false := by
    rw [Bool.eq_false_iff]; intro e
    exact h0 ((toList_nil s).1 (List.isEmpty_iff.1 e))
  have hE2 : ¬ s.toList = [] := fun e => h0 ((toList_nil s).1 e)
  by_cases h10 : s.data.toList.getLast? = some 10
  case neg =>
    have hq : Hid (Lib.hasSuffix s.data.toList [10] = false) := Lib.hid (by rw [suff_ten]; exact decide_eq_false h10)
    have hR := Lib.hid (show parse s = ([], 0, 6) by
      unfold parse
      rw [if_pos ⟨h0, h10⟩])
    clear h10 h0
    go_enter Tryd.func35, Tryd.ntmps35
    go_wp2_with fail
    (with_reducible refine (suffW s w hsz hq).mono ?_); rintro e w ⟨rfl, rfl⟩
    go_wp2
    go_ret3
    exact RetS3.nil (Below.refl _ _) hR.out
  have hq : Hid (Lib.hasSuffix s.data.toList [10] = true) := Lib.hid (by rw [suff_ten]; exact decide_eq_true h10)
  obtain ⟨L, hL⟩ : ∃ L, Hid (lnsB s = L) := ⟨_, Lib.hid rfl⟩
  have hLm := Lib.hid (show ∀ t ∈ L, t.size ≤ 1000000 from fun t ht => by
    have := lnsB_mem (s := s) (t := t) (by rw [hL.out]; exact ht)
    omega)
  by_cases hlong : 200 < L.length
  · have hR := Lib.hid (show parse s = ([], 0, 3) by
      unfold parse
      rw [if_neg (fun h => h.2 h10), hL.out, if_pos hlong])
    clear hLm h10 h0
    go_enter Tryd.func35, Tryd.ntmps35
    go_wp2_with fail
    (with_reducible refine (suffW s w hsz hq).mono ?_); rintro e w ⟨rfl, rfl⟩
    go_wp2_with fail
    (with_reducible refine (countW s _ hL).mono ?_); rintro e w ⟨rfl, rfl⟩
    go_wp2
    go_ret3
    exact RetS3.nil (Below.refl _ _) hR.out
  have hR := Lib.hid (show parse s = pgo 0 [] L by
    unfold parse
    rw [if_neg (fun h => h.2 h10), hL.out, if_neg hlong])
  have h10' := Lib.hid h10
  have hs1 : (1 : Int) ≤ (s.size : Int) := by omega
  have hs2 : ((s.size : Int) - 1).toNat = s.size - 1 := by omega
  clear h10 h0
  go_enter Tryd.func35, Tryd.ntmps35
  go_wp2_with fail
  (with_reducible refine (suffW s w hsz hq).mono ?_); rintro e w ⟨rfl, rfl⟩
  go_wp2_with fail
  (with_reducible refine (countW s _ hL).mono ?_); rintro e w ⟨rfl, rfl⟩
  go_wp2_with fail
  (with_reducible refine (splitW s _ hsz hm h10' hL).mono ?_); rintro e w1 ⟨rfl, hw1⟩
  have hr1 : Reads w1 w1.heap.size 1 (some ⟨w.heap.size, 0, none⟩) L.length (Strs L) := reads_blkN (g := w.heap.size) (t := 9) (by rw [hw1]; exact heap_alloc_new w _) (by simp [Strs])
  have hb1 : Below w.heap.size w w1 := by rw [hw1]; exact ba (Below.refl _ _) _
  have hE3 := Lib.hid (hE.below hb1)
  clear hw1 hE hq hm
  go_wp2
  go_loopw [2, 28] (fun v i wr => ∃ (k : Nat) (out : List Sc), k ≤ L.length ∧ i = .int .i64 k ∧ Below w1.heap.size w1 wr ∧ wr.ownsRow w1.heap.size 47 2 v out.length (scs out) ∧ out.length = k ∧ Hid (PgRel L k out)) (fun _ i _ => L.length - (intOf i).toNat)
  case atStart => exact ⟨0, [], Nat.zero_le _, rfl, Below.refl _ _, World.ownsRow_nil _ _ _ _, rfl, Lib.hid rfl⟩
  case round =>
    obtain ⟨k, out, hk, rfl, hbl, hown, hol, hr⟩ := hrel
    by_cases hlt : k < L.length
    case neg =>
      have hks : k = L.length := by omega
      have hD := Lib.hid (show parse s = (out, 0, 0) by rw [hR.out]; rw [hks] at hr; exact hr.out.done)
      have hB := bt hb1 hbl
      clear hr hks
      go_wp2
      go_ret3
      exact RetS3.of_own hown hB rfl hD.out
    have hi1 : (k : Int) < (L.length : Int) := by omega
    have hi0 : (0 : Int) ≤ (k : Int) := by omega
    obtain ⟨b, off, t, hA, hb, d1, htm, hd⟩ := lnAt (hr1.below hbl) hlt
    injection hA with hA; injection hA with hA1 hA2; subst hA1 hA2
    rw [Nat.zero_add] at d1
    have hts : t.size ≤ 1099511627776 := Nat.le_trans (hLm.out t htm) (by decide)
    obtain ⟨x, e0, hx⟩ : ∃ x e0, Hid (lineR t = (x, e0)) := ⟨_, _, Lib.hid rfl⟩
    have hEw := Lib.hid (hE3.out.below hbl)
    obtain ⟨q, hw⟩ : ∃ q, Hid (feedW t = q) := ⟨_, Lib.hid rfl⟩
    cases q
    · by_cases he : e0 = 0
      case neg =>
        have m1 : (e0 != 0) = true := by simp [he]
        have hD := Lib.hid (show parse s = ([], ((k + 1 : Nat) : Int), e0) by rw [hR.out]; exact hr.out.bad hd.out hx.out he)
        clear hr he hlong
        go_wp2_with fail
        (with_reducible refine (prefW t _ hw).mono ?_); rintro e w2 ⟨rfl, rfl⟩
        go_wp2_with fail
        (with_reducible refine (plainF' t _ hw hx).mono ?_); rintro e w3 ⟨rfl, hb3⟩
        go_wp2
        go_ret3
        exact RetS3.nil (bt hb1 (by first | exact ba (bt hbl hb3) _ | exact (ba (bt hbl hb3) _).setCell (Nat.le_refl _) _)) (by rw [hD.out]; rfl)
      subst he
      have hr2 := Lib.hid (hr.out.next hd.out hx.out)
      clear hr
      go_wp2_with fail
      (with_reducible refine (prefW t _ hw).mono ?_); rintro e w2 ⟨rfl, rfl⟩
      go_wp2_with fail
      (with_reducible refine (plainF' t _ hw hx).mono ?_); rintro e w3 ⟨rfl, hb3⟩
      have hbl2 := bt hbl hb3
      have hown2 := own_below hown hb3
      go_wp2_with (at_builtin; refine wpList_ap scEl ((hown2.alloc _).alloc _) (ba (ba hbl2 _) _) [.int .i64 x.1, .string x.2] (by exact alloc2_new _ _ _) ?_)
      intro g cap w4 hown4 hb4 hg4
      go_wp2
      go_roundw
      case rel => exact ⟨k + 1, out ++ [x], by omega, by go_num, hb4, by rw [scs_app, show (out ++ [x]).length = k + 1 by simp; omega]; exact hown4, by simp; omega, hr2⟩
      case measure => simp [intOf]; omega
    · by_cases he : e0 = 0
      case neg =>
        have m1 : (e0 != 0) = true := by simp [he]
        have hD := Lib.hid (show parse s = ([], ((k + 1 : Nat) : Int), e0) by rw [hR.out]; exact hr.out.bad hd.out hx.out he)
        clear hr he hlong
        go_wp2_with fail
        (with_reducible refine (prefW t _ hw).mono ?_); rintro e w2 ⟨rfl, rfl⟩
        go_wp2_with fail
        (with_reducible refine (feedF' t _ hEw.out hts hw hx).mono ?_); rintro e w3 ⟨rfl, hb3⟩
        go_wp2
        go_ret3
        exact RetS3.nil (bt hb1 (by first | exact ba (bt hbl hb3) _ | exact (ba (bt hbl hb3) _).setCell (Nat.le_refl _) _)) (by rw [hD.out]; rfl)
      subst he
      have hr2 := Lib.hid (hr.out.next hd.out hx.out)
      clear hr
      go_wp2_with fail
      (with_reducible refine (prefW t _ hw).mono ?_); rintro e w2 ⟨rfl, rfl⟩
      go_wp2_with fail
      (with_reducible refine (feedF' t _ hEw.out hts hw hx).mono ?_); rintro e w3 ⟨rfl, hb3⟩
      have hbl2 := bt hbl hb3
      have hown2 := own_below hown hb3
      go_wp2_with (at_builtin; refine wpList_ap scEl ((hown2.alloc _).alloc _) (ba (ba hbl2 _) _) [.int .i64 x.1, .string x.2] (by exact alloc2_new _ _ _) ?_)
      intro g cap w4 hown4 hb4 hg4
      go_wp2
      go_roundw
      case rel => exact ⟨k + 1, out ++ [x], by omega, by go_num, hb4, by rw [scs_app, show (out ++ [x]).length = k + 1 by simp; omega]; exact hown4, by simp; omega, hr2⟩
      case measure => simp [intOf]; omega
end Go.Proofs.YtoogemdcmnjpnaaDoor
