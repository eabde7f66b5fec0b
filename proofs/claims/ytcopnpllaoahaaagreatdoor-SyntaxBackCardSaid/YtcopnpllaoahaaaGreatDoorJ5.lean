/- Lexer: Line of the program. No condition. -/
import Derived.Test.YtcopnpllaoahaaaGreatDoorJ4
import Derived.WalkMore
namespace Go.Proofs.YtcopnpllaoahaaaGreatDoor
open Go.RowKit
theorem t9_val (b : Bd) (p q : Nat) : t9C (t9 (b, p, q)) = [.int .i64 ((b.1 : Nat) : Int), .int .i64 (p : Int), .int .i64 (q : Int), .int .i64 ((b.2.1 : Nat) : Int), .string ⟨b.2.2.1.toArray⟩, .int .u64 ((wK b.2.2.2 0 : Nat) : Int), .int .u64 ((wK b.2.2.2 1 : Nat) : Int), .int .u64 ((wK b.2.2.2 2 : Nat) : Int), .int .u64 ((wK b.2.2.2 3 : Nat) : Int)] := rfl
theorem far_cell {w3 w4 : World} {o : Obj} {v u : Value} {g : Nat} (hg : (w3.alloc o).drew.grownBy w4 v.ownBlock) (hne : v.ownBlock ≠ some g) (hl : g < w3.heap.size) {i : Nat} (hc : w3.cell? ⟨g, i, none⟩ = some u) : w4.cell? ⟨g, i, none⟩ = some u :=
  (hg.cell_far ⟨g, i, none⟩ (by show g < (w3.alloc o).heap.size; simp; omega) (fun e => hne e.symm)).trans ((World.cell?_alloc_lt w3 o ⟨g, i, none⟩ hl).trans hc)
/-- what a line gives: a row of the call's own -/
def RetLo (w : World) (r : List Tok × Nat × Int) (e : Ending) (w' : World) : Prop :=
  ∃ A c, e = .returned (.tuple #[.slice A r.1.length c, .int .i64 (r.2.1 : Int), .int .i64 r.2.2]) ∧ Below w.heap.size w w' ∧ w'.ownsRow w.heap.size 58 9 (.slice A r.1.length c) r.1.length (tks (r.1.map t9))
theorem RetLo.no {w w' : World} {r : List Tok × Nat × Int} {p : Nat} {x er : Int} (h : r = ([], p, er)) (hx : x = (p : Int)) (hb : Below w.heap.size w w') : RetLo w r (.returned (.tuple #[.slice none 0 0, .int .i64 x, .int .i64 er])) w' := by
  subst h hx
  exact ⟨none, 0, rfl, hb, World.ownsRow_nil _ _ _ _⟩
theorem RetLo.weak {w w' : World} {r : List Tok × Nat × Int} {e : Ending} (h : RetLo w r e w') : RetLn w r e w' := by
  obtain ⟨A, c, he, hb, ho⟩ := h
  obtain ⟨A2, c2, e2, hr, h1, h2⟩ := own_sl ho
  cases e2
  exact ⟨A, c, he, hb, hr, h1, h2⟩
set_option maxRecDepth 100000 in
set_option maxHeartbeats 8000000 in
theorem line_o (s : ByteArray) (hs : s.size ≤ 100000) (r : List Tok × Nat × Int) (hr : Hid (lineK s.data.toList = r)) (w : World) (hE : Esc w) (hM : ML w) :
    Calls Tryz.prog 35 #[.string s] w (RetLo w r) := by
  have hsl : s.data.toList.length = s.size := by simp
  by_cases h1000 : 1000 < s.size
  · have HN := Lib.hid (show r = ([], 0, 3) by rw [← hr.out]; unfold lineK; rw [if_pos (by rw [hsl]; exact h1000)])
    have i1 : (1000 : Int) < (s.size : Int) := by omega
    clear h1000 hsl
    go_enter Tryz.func35, Tryz.ntmps35
    go_wp2
    go_step3
    go_wp2
    try rw [Exit.noGoto_ret]
    exact bodyPost_ret (v := .tuple #[.slice none 0 0, .int .i64 0, .int .i64 3]) (by simp [results, go_sem]) rfl (RetLo.no HN.out rfl (Below.refl _ _))
  have i1 : ¬ ((1000 : Int) < (s.size : Int)) := by omega
  have i0 : decide ((1000 : Int) < (s.size : Int)) = false := decide_eq_false i1
  have HX0 : Hid (LnR s.data.toList r 0 []) := Lib.hid (by
    have h := hr.out
    unfold lineK at h
    rw [if_neg (by rw [hsl]; exact h1000)] at h
    exact ⟨_, by rw [List.drop_zero]; exact Nat.lt_succ_self _, h⟩)
  have HE := Lib.hid hE
  have HM := Lib.hid hM
  clear hr hE hM
  go_enter Tryz.func35, Tryz.ntmps35
  go_wp2
  go_step3
  go_wp2
  go_step3
  go_wp2
  go_loopw [2, 3, 4, 5] (fun l at_ e i wr => ∃ (p : Nat) (acc : List Tok), p ≤ s.size ∧ i = .int .i64 (p : Int) ∧ at_ = .int .i64 0 ∧ e = .int .i64 0 ∧ wr.ownsRow w.heap.size 58 9 l acc.length (tks (acc.map t9)) ∧ acc.length ≤ 80 ∧ Below w.heap.size w wr ∧ Hid (LnR s.data.toList r p acc)) (fun _ _ _ i _ => s.size - (intOf i).toNat)
  case atStart => exact ⟨0, [], Nat.zero_le _, rfl, rfl, rfl, World.ownsRow_nil _ _ _ _, by simp, Below.refl _ _, HX0⟩
  case round =>
    obtain ⟨p, acc, hp, rfl, rfl, rfl, hown, hac, hbl, hX⟩ := hrel
    clear HX0
    obtain ⟨A, c0, rfl, hrd, hcp, hcm⟩ := own_sl hown
    by_cases hlt : p < s.size
    case neg =>
      have i2 : ¬ ((p : Int) < (s.size : Int)) := by omega
      have HN := Lib.hid (hX.out.over (by omega))
      have HRd := Lib.hid hown
      clear hX hown hrd hsl
      go_wp2
      try rw [Exit.noGoto_ret]
      refine bodyPost_ret (v := .tuple #[.slice A acc.length c0, .int .i64 0, .int .i64 0]) (by simp [results, go_sem]) rfl ?_
      rw [HN.out]
      exact ⟨A, c0, rfl, hbl, HRd.out⟩
    have i2 : (p : Int) < (s.size : Int) := by omega
    have hd := dropB s p hlt
    by_cases h32 : s[p] = 32
    · have m1 : ((s[p].toNat : Int) == 32) = true := by rw [h32]; rfl
      rw [h32] at hd
      have HX2 := Lib.hid (hX.out.blank hd)
      have HO := Lib.hid hown
      clear hX hown hrd hd h32 hsl
      go_wp2
      go_roundw
      case rel => exact ⟨p + 1, acc, by omega, by go_num, rfl, rfl, HO.out, hac, hbl, HX2⟩
      case measure => (simp [intOf]) <;> omega
    have m1 : ((s[p].toNat : Int) == 32) = false := u8ne h32
    by_cases h80 : acc.length = 80
    · have m2 : ((acc.length : Int) == 80) = true := by rw [h80]; rfl
      have HN := Lib.hid (hX.out.full hd h32 h80)
      clear hX hown hrd hd h32 hsl h80
      go_wp2
      try rw [Exit.noGoto_ret]
      exact bodyPost_ret (v := .tuple #[.slice none 0 0, .int .i64 (p : Int), .int .i64 3]) (by simp [results, go_sem]) rfl (RetLo.no HN.out (by first | rfl | omega) (hbl))
    have m2 : ((acc.length : Int) == 80) = false := by rw [beq_eq_false_iff_ne]; omega
    rcases ht : tkK uqK (s.data.toList.drop p) with ⟨b, m⟩ | k
    case inr =>
      have HN := Lib.hid (hX.out.bad hd h32 h80 ht)
      have HT := Lib.hid ht
      obtain ⟨q, hq⟩ : ∃ q, q = p + k := ⟨_, rfl⟩
      rw [← hq] at HN
      have Hq := Lib.hid hq
      clear hX hown hrd hd h32 hsl h80 ht hq
      go_wp2_with fail
      (with_reducible refine (take_no s p k q hlt hs HT Hq _ (HE.out.below hbl) (HM.out.below hbl)).mono ?_); rintro e w3 ⟨⟨K, F, T, N, S, f, rfl⟩, hb3⟩
      have HB3 := bt hbl hb3
      clear hb3
      go_wp2
      try rw [Exit.noGoto_ret]
      exact bodyPost_ret (v := .tuple #[.slice none 0 0, .int .i64 (q : Int), .int .i64 6]) (by simp [results, go_sem]) rfl (RetLo.no HN.out (by first | rfl | omega) (ba HB3 _))
    obtain ⟨hm0, hm1⟩ := (tkK_ok uqK).pos (by rw [hd]; simpa using h32) ht
    rw [List.length_drop, hsl] at hm1
    have HT := Lib.hid ht
    obtain ⟨q, hq⟩ : ∃ q, q = p + m := ⟨_, rfl⟩
    have Hq := Lib.hid hq
    have hqs : q ≤ s.size := by omega
    have hpq : p < q := by omega
    have HO := Lib.hid hown
    clear hown hrd
    by_cases hn : (s.data.toList.drop (p + m)).head? = none ∨ (s.data.toList.drop (p + m)).head? = some 32
    case neg =>
      have HN := Lib.hid (hX.out.stop hd h32 h80 ht hn)
      rw [← hq] at HN hn
      have hqlt : q < s.size := by
        rcases Nat.lt_or_ge q s.size with h | h
        · exact h
        · exfalso; apply hn; left; rw [List.drop_of_length_le (by omega)]; rfl
      have n1 : (q : Int) < (s.size : Int) := by omega
      have n2 : ((s[q].toNat : Int) != 32) = true := by
        have hdq := dropB s q hqlt
        rw [bne_iff_ne]
        intro e
        have h3 : s[q] = 32 := UInt8.toNat_inj.1 (by have : s[q].toNat = 32 := by omega
                                                     rw [this]; rfl)
        apply hn; right; rw [hdq, h3]; rfl
      clear hX hd h32 hsl h80 ht hq hn hm1
      go_wp2_with fail
      (with_reducible refine (take_yes s p m q b hlt hs HT Hq _ (HE.out.below hbl) (HM.out.below hbl)).mono ?_); rintro e w3 ⟨rfl, hb3⟩
      have HB3 := bt hbl hb3
      clear hb3 HO
      go_wp2
      try rw [Exit.noGoto_ret]
      exact bodyPost_ret (v := .tuple #[.slice none 0 0, .int .i64 (q : Int), .int .i64 6]) (by simp [results, go_sem]) rfl (RetLo.no HN.out (by first | rfl | omega) (ba HB3 _))
    have HX2 := Lib.hid (hX.out.go hd h32 h80 ht hn hm0)
    rw [← hq] at HX2 hn
    by_cases hqlt : q < s.size
    · have n1 : (q : Int) < (s.size : Int) := by omega
      have n2 : ((s[q].toNat : Int) != 32) = false := by
        have hdq := dropB s q hqlt
        rw [hdq] at hn
        rcases hn with h | h
        · cases h
        · have h3 : s[q] = 32 := by simpa using h
          rw [h3]; rfl
      clear hX hd h32 hsl ht hq hn hm1
      go_wp2_with fail
      (with_reducible refine (take_yes s p m q b hlt hs HT Hq _ (HE.out.below hbl) (HM.out.below hbl)).mono ?_); rintro e w3 ⟨rfl, hb3⟩
      have HB4 := Lib.hid (ba (bt hbl hb3) (tkO (b.1 : Int) (p : Int) (q : Int) (b.2.1 : Int) ⟨b.2.2.1.toArray⟩ b.2.2.2))
      have HO4 := Lib.hid ((own_below HO.out hb3).alloc (tkO (b.1 : Int) (p : Int) (q : Int) (b.2.1 : Int) ⟨b.2.2.1.toArray⟩ b.2.2.2))
      have hbx := alloc1_new w3 (tkO (b.1 : Int) (p : Int) (q : Int) (b.2.1 : Int) ⟨b.2.2.1.toArray⟩ b.2.2.2)
      have hne : (Value.slice A acc.length c0).ownBlock ≠ some w3.heap.size := by
        intro e
        have h1 := ((own_below HO.out hb3).lt _ e).2
        omega
      have Hne := Lib.hid hne
      clear hb3 HO hne
      have Hnew := Lib.hid (show tks ((acc ++ [(b, p, q)]).map t9) = tks (acc.map t9) ++ [.int .i64 ((b.1 : Nat) : Int), .int .i64 (p : Int), .int .i64 (q : Int), .int .i64 ((b.2.1 : Nat) : Int), .string ⟨b.2.2.1.toArray⟩, .int .u64 ((wK b.2.2.2 0 : Nat) : Int), .int .u64 ((wK b.2.2.2 1 : Nat) : Int), .int .u64 ((wK b.2.2.2 2 : Nat) : Int), .int .u64 ((wK b.2.2.2 3 : Nat) : Int)] by
        rw [List.map_append, tks_app]; rfl)
      go_upto_region 14 with fail
      generalize w3.alloc (tkO (b.1 : Int) (p : Int) (q : Int) (b.2.1 : Int) ⟨b.2.2.1.toArray⟩ b.2.2.2) = W4 at *
      generalize w3.heap.size = g6 at *
      obtain ⟨⟨c0', c1, c2, c3, c4, c5, c6, c7, c8⟩, _, l1⟩ := bx9 hbx
      clear hbx
      go_region_law ((refine step_ap tkEl (w0 := w) (by exact HO4.out.alloc _) (by exact (ba HB4.out _).drew) [.int .i64 ((b.1 : Nat) : Int), .int .i64 (p : Int), .int .i64 (q : Int), .int .i64 ((b.2.1 : Nat) : Int), .string ⟨b.2.2.1.toArray⟩, .int .u64 ((wK b.2.2.2 0 : Nat) : Int), .int .u64 ((wK b.2.2.2 1 : Nat) : Int), .int .u64 ((wK b.2.2.2 2 : Nat) : Int), .int .u64 ((wK b.2.2.2 3 : Nat) : Int)] (by exact alloc1_new _ _) ?_; intro g4 cap4 w4 hO4 hb4 hg4; have z2 := far_cell hg4 Hne.out l1 c2))
      all_goals
        rw [← Hnew.out] at hO4
        have HO5 := Lib.hid hO4
        have HB5 := Lib.hid hb4
        clear hO4 hb4 hg4
        simp only [Act.put, List.getElem_toArray, List.getElem_cons_succ, List.getElem_cons_zero, List.setIfInBounds_toArray, List.set_cons_zero, List.set_cons_succ]
        go_wp2
        go_roundw
        case rel => exact ⟨q, acc ++ [(b, p, q)], by omega, rfl, rfl, rfl, by rw [List.length_append]; exact HO5.out, by rw [List.length_append]; simp; omega, HB5.out, HX2⟩
        case measure => (simp [intOf]) <;> omega
    · have n1 : ¬ ((q : Int) < (s.size : Int)) := by omega
      clear hX hd h32 hsl ht hq hn hm1
      go_wp2_with fail
      (with_reducible refine (take_yes s p m q b hlt hs HT Hq _ (HE.out.below hbl) (HM.out.below hbl)).mono ?_); rintro e w3 ⟨rfl, hb3⟩
      have HB4 := Lib.hid (ba (bt hbl hb3) (tkO (b.1 : Int) (p : Int) (q : Int) (b.2.1 : Int) ⟨b.2.2.1.toArray⟩ b.2.2.2))
      have HO4 := Lib.hid ((own_below HO.out hb3).alloc (tkO (b.1 : Int) (p : Int) (q : Int) (b.2.1 : Int) ⟨b.2.2.1.toArray⟩ b.2.2.2))
      have hbx := alloc1_new w3 (tkO (b.1 : Int) (p : Int) (q : Int) (b.2.1 : Int) ⟨b.2.2.1.toArray⟩ b.2.2.2)
      have hne : (Value.slice A acc.length c0).ownBlock ≠ some w3.heap.size := by
        intro e
        have h1 := ((own_below HO.out hb3).lt _ e).2
        omega
      have Hne := Lib.hid hne
      clear hb3 HO hne
      have Hnew := Lib.hid (show tks ((acc ++ [(b, p, q)]).map t9) = tks (acc.map t9) ++ [.int .i64 ((b.1 : Nat) : Int), .int .i64 (p : Int), .int .i64 (q : Int), .int .i64 ((b.2.1 : Nat) : Int), .string ⟨b.2.2.1.toArray⟩, .int .u64 ((wK b.2.2.2 0 : Nat) : Int), .int .u64 ((wK b.2.2.2 1 : Nat) : Int), .int .u64 ((wK b.2.2.2 2 : Nat) : Int), .int .u64 ((wK b.2.2.2 3 : Nat) : Int)] by
        rw [List.map_append, tks_app]; rfl)
      go_upto_region 14 with fail
      generalize w3.alloc (tkO (b.1 : Int) (p : Int) (q : Int) (b.2.1 : Int) ⟨b.2.2.1.toArray⟩ b.2.2.2) = W4 at *
      generalize w3.heap.size = g6 at *
      obtain ⟨⟨c0', c1, c2, c3, c4, c5, c6, c7, c8⟩, _, l1⟩ := bx9 hbx
      clear hbx
      go_region_law ((refine step_ap tkEl (w0 := w) (by exact HO4.out.alloc _) (by exact (ba HB4.out _).drew) [.int .i64 ((b.1 : Nat) : Int), .int .i64 (p : Int), .int .i64 (q : Int), .int .i64 ((b.2.1 : Nat) : Int), .string ⟨b.2.2.1.toArray⟩, .int .u64 ((wK b.2.2.2 0 : Nat) : Int), .int .u64 ((wK b.2.2.2 1 : Nat) : Int), .int .u64 ((wK b.2.2.2 2 : Nat) : Int), .int .u64 ((wK b.2.2.2 3 : Nat) : Int)] (by exact alloc1_new _ _) ?_; intro g4 cap4 w4 hO4 hb4 hg4; have z2 := far_cell hg4 Hne.out l1 c2))
      all_goals
        rw [← Hnew.out] at hO4
        have HO5 := Lib.hid hO4
        have HB5 := Lib.hid hb4
        clear hO4 hb4 hg4
        simp only [Act.put, List.getElem_toArray, List.getElem_cons_succ, List.getElem_cons_zero, List.setIfInBounds_toArray, List.set_cons_zero, List.set_cons_succ]
        go_wp2
        go_roundw
        case rel => exact ⟨q, acc ++ [(b, p, q)], by omega, rfl, rfl, rfl, by rw [List.length_append]; exact HO5.out, by rw [List.length_append]; simp; omega, HB5.out, HX2⟩
        case measure => (simp [intOf]) <;> omega
theorem line_ (s : ByteArray) (hs : s.size ≤ 100000) (r : List Tok × Nat × Int) (hr : Hid (lineK s.data.toList = r)) (w : World) (hE : Esc w) (hM : ML w) :
    Calls Tryz.prog 35 #[.string s] w (RetLn w r) := (line_o s hs r hr w hE hM).mono fun _ _ h => h.weak
end Go.Proofs.YtcopnpllaoahaaaGreatDoor
