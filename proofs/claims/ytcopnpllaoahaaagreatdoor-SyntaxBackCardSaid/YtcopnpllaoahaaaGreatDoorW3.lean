/- words: unescape, unquote, Unquote. -/
import Derived.Test.YtcopnpllaoahaaaGreatDoorQ1
import Derived.Test.YtcopnpllaoahaaaGreatDoorShelf
import Derived.IntWalk
namespace Go.Proofs.YtcopnpllaoahaaaGreatDoor
open Go.RowKit
def hexDig : ByteArray := ⟨#[48, 49, 50, 51, 52, 53, 54, 55, 56, 57, 97, 98, 99, 100, 101, 102]⟩
theorem idx_hex (c : UInt8) : Lib.indexByte hexDig.data.toList c = match hexV c with | some a => (a : Int) | none => -1 := by
  have : ∀ n : Nat, n < 256 → Lib.indexByte hexDig.data.toList (UInt8.ofNat n) = match hexV (UInt8.ofNat n) with | some a => (a : Int) | none => -1 := by decide +kernel
  exact u8_all (P := fun c => Lib.indexByte hexDig.data.toList c = match hexV c with | some a => (a : Int) | none => -1) this c
theorem u8_back (c : UInt8) : ((c.toNat : Int)).toNat.toUInt8 = c := by simp
theorem idxHex (c : UInt8) (w : World) :
    Calls Tryz.prog 101 #[.string ⟨#[48, 49, 50, 51, 52, 53, 54, 55, 56, 57, 97, 98, 99, 100, 101, 102]⟩, .int .u8 (c.toNat : Int)] w fun e w' => e = .returned (.int .i64 (match hexV c with | some a => (a : Int) | none => -1)) ∧ w' = w := by
  have := Tryz.strings_IndexByte hexDig (c.toNat : Int) w
  rw [u8_back, idx_hex] at this
  exact this
def hexI (c : UInt8) : Int := match hexV c with | some a => (a : Int) | none => -1
theorem idxHexV (c : UInt8) (v : Int) (h : Hid (hexI c = v)) (w : World) :
    Calls Tryz.prog 101 #[.string ⟨#[48, 49, 50, 51, 52, 53, 54, 55, 56, 57, 97, 98, 99, 100, 101, 102]⟩, .int .u8 (c.toNat : Int)] w fun e w' => e = .returned (.int .i64 v) ∧ w' = w := by
  have := idxHex c w
  rw [show (match hexV c with | some a => (a : Int) | none => -1) = v from h.out] at this
  exact this
theorem unescX_1 {h l : UInt8} {r : List UInt8} (e : hexV h = none) : unescX (h :: l :: r) = none := by simp [unescX, e]
theorem unescX_2 {h l : UInt8} {r : List UInt8} {a : Nat} (_e : hexV h = some a) (e : hexV l = none) : unescX (h :: l :: r) = none := by simp only [unescX, _e, e]
theorem isPlainI (i : Int) (c : UInt8) (hi : Hid (i = (c.toNat : Int))) (w : World) :
    Calls Tryz.prog 107 #[.int .u8 i] w fun e w' => e = .returned (.bool (plainB c)) ∧ w = w' := by
  rw [hi.out]; exact isPlain c w
theorem letterOfI (i : Int) (c : UInt8) (hi : Hid (i = (c.toNat : Int))) (w : World) (hE : Esc w) :
    Calls Tryz.prog 106 #[.int .u8 i] w fun e w' => e = .returned (.int .u8 (letB c).toNat) ∧ Below w.heap.size w w' := by
  rw [hi.out]; exact letterOf c w hE
theorem hexV_lt {c : UInt8} {a : Nat} (h : hexV c = some a) : a < 16 := (hexB_hexV c a h).1
theorem shl_or (a b : Nat) (ha : a < 16) (hb : b < 16) : bits .or .i64 ((a : Int) * 16) (b : Int) = ((a * 16 + b : Nat) : Int) := by
  have : ∀ a : Nat, a < 16 → ∀ b : Nat, b < 16 → bits .or .i64 ((a : Int) * 16) (b : Int) = ((a * 16 + b : Nat) : Int) := by decide +kernel
  exact this a ha b hb
/-- what unescape returns -/
def unescR (l : List UInt8) : Int × Int := match unesc l with
  | none => (0, 0)
  | some (c, n) => ((c.toNat : Int), (n : Int))
def LRel (n : Int) (k : Nat) : Prop := (0 < k → n ≠ 34) ∧ (1 < k → n ≠ 92) ∧ (2 < k → n ≠ 110) ∧ (3 < k → n ≠ 114) ∧ (4 < k → n ≠ 116)
theorem ret_ui {j k : IntKind} {a b c d : Int} (h : (a, b) = (c, d)) : Ending.returned (.tuple #[.int j a, .int k b]) = .returned (.tuple #[.int j c, .int k d]) := by
  injection h with h1 h2; rw [h1, h2]
theorem u8_eq {c : UInt8} {n : Nat} (hn : n < 256) (h : (c.toNat : Int) = n) : c = UInt8.ofNat n := by
  apply UInt8.toNat_inj.1
  rw [UInt8.toNat_ofNat']
  omega
theorem unesc_let {x : UInt8} {r : List UInt8} (v : UInt8) (h : (x = 34 ∧ v = 34) ∨ (x = 92 ∧ v = 92) ∨ (x = 110 ∧ v = 10) ∨ (x = 114 ∧ v = 13) ∨ (x = 116 ∧ v = 9)) : unescR (x :: r) = ((v.toNat : Int), 1) := by
  rcases h with ⟨rfl, rfl⟩ | ⟨rfl, rfl⟩ | ⟨rfl, rfl⟩ | ⟨rfl, rfl⟩ | ⟨rfl, rfl⟩ <;> rfl
theorem unesc_other {x : UInt8} {r : List UInt8} (h : LRel (x.toNat : Int) 5) : unesc (x :: r) = if x = 120 then unescX r else none := by
  obtain ⟨h1, h2, h3, h4, h5⟩ := h
  have g1 : x ≠ 34 := by rintro rfl; exact h1 (by omega) rfl
  have g2 : x ≠ 92 := by rintro rfl; exact h2 (by omega) rfl
  have g3 : x ≠ 110 := by rintro rfl; exact h3 (by omega) rfl
  have g4 : x ≠ 114 := by rintro rfl; exact h4 (by omega) rfl
  have g5 : x ≠ 116 := by rintro rfl; exact h5 (by omega) rfl
  simp only [unesc, if_neg g1, if_neg g2, if_neg g3, if_neg g4, if_neg g5]
set_option maxRecDepth 100000 in
set_option maxHeartbeats 1000000 in
theorem unescape (s : ByteArray) (w : World) (hE : Esc w) :
    Calls Tryz.prog 121 #[.string s] w fun e w' => e = .returned (.tuple #[.int .u8 (unescR s.data.toList).1, .int .i64 (unescR s.data.toList).2]) ∧ Below w.heap.size w w' := by
  by_cases hz : s.size = 0
  · have he : s.toList.isEmpty = true := by rw [(toList_nil s).2 hz]; rfl
    have he2 : s.toList = [] := (toList_nil s).2 hz
    have hR := Lib.hid (show unescR s.data.toList = (0, 0) by
      have : s.data.toList = [] := List.eq_nil_of_length_eq_zero (by simpa using hz)
      rw [this]; rfl)
    clear hz
    go_enter Tryz.func121, Tryz.ntmps121
    go_wp2
    go_ret2
    exact ⟨ret_ui (by rw [hR.out]), Below.refl _ _⟩
  have he : s.toList.isEmpty = false := by
    rw [Bool.eq_false_iff]; intro e
    exact hz ((toList_nil s).1 (List.isEmpty_iff.1 e))
  have he2 : ¬ s.toList = [] := fun e => hz ((toList_nil s).1 e)
  have hs0 : 0 < s.size := by omega
  have hs0' : (0 : Int) < (s.size : Int) := by omega
  obtain ⟨r, hr⟩ : ∃ r, s.data.toList = s[0] :: r := by
    have hl : 0 < s.data.toList.length := by simpa using hs0
    exact ⟨s.data.toList.drop 1, by rw [← List.drop_zero (l := s.data.toList), List.drop_eq_getElem_cons hl]; rfl⟩
  have Hr := Lib.hid hr
  clear hz hr
  have c0 : w.cell? ⟨4, 0, none⟩ = some (.int .u8 34) := hE.2 _ (by decide)
  have c1 : w.cell? ⟨4, 1, none⟩ = some (.int .u8 34) := hE.2 _ (by decide)
  have c2 : w.cell? ⟨4, 2, none⟩ = some (.int .u8 92) := hE.2 _ (by decide)
  have c3 : w.cell? ⟨4, 3, none⟩ = some (.int .u8 92) := hE.2 _ (by decide)
  have c4 : w.cell? ⟨4, 4, none⟩ = some (.int .u8 10) := hE.2 _ (by decide)
  have c5 : w.cell? ⟨4, 5, none⟩ = some (.int .u8 110) := hE.2 _ (by decide)
  have c6 : w.cell? ⟨4, 6, none⟩ = some (.int .u8 13) := hE.2 _ (by decide)
  have c7 : w.cell? ⟨4, 7, none⟩ = some (.int .u8 114) := hE.2 _ (by decide)
  have c8 : w.cell? ⟨4, 8, none⟩ = some (.int .u8 9) := hE.2 _ (by decide)
  have c9 : w.cell? ⟨4, 9, none⟩ = some (.int .u8 116) := hE.2 _ (by decide)
  have HE := Lib.hid hE
  go_enter Tryz.func121, Tryz.ntmps121
  go_wp2
  go_loopw [12] (fun i wr => ∃ k : Nat, k ≤ 5 ∧ i = .int .i64 k ∧ Below w.heap.size w wr ∧ LRel (s[0].toNat : Int) k) (fun i _ => 5 - (intOf i).toNat)
  case atStart => exact ⟨0, by omega, rfl, Below.refl _ _, by simp [LRel]⟩
  case round =>
    obtain ⟨k, hk, rfl, hbl, hr⟩ := hrel
    have hs := hbl.size
    clear c0 c1 c2 c3 c4 c5 c6 c7 c8 c9
    by_cases hk5 : k = 5
    · subst hk5
      have hun := unesc_other (r := r) hr
      by_cases hx : s[0] = 120
      case neg =>
        have m1 : ((s[0].toNat : Int) != 120) = true := by
          rw [bne_iff_ne]; intro e; exact hx (u8_eq (n := 120) (by omega) e)
        have hR := Lib.hid (show unescR s.data.toList = (0, 0) by
          rw [Hr.out]; unfold unescR; rw [hun, if_neg hx])
        clear hun hx hr
        go_wp2
        go_ret2
        exact ⟨ret_ui (by rw [hR.out]), hbl⟩
      have m1 : ((s[0].toNat : Int) != 120) = false := by rw [hx]; rfl
      rw [if_pos hx] at hun
      by_cases hl3 : 3 ≤ s.size
      case neg =>
        have m2 : decide ((s.size : Int) < 3) = true := by simp; omega
        have hR := Lib.hid (show unescR s.data.toList = (0, 0) by
          have hrl : r.length < 2 := by
            have e := congrArg List.length Hr.out
            simp at e; omega
          rw [Hr.out]; unfold unescR; rw [hun]
          match r, hrl with
          | [], _ => rfl
          | [_], _ => rfl)
        clear hun hx hr
        go_wp2
        go_ret2
        exact ⟨ret_ui (by rw [hR.out]), hbl⟩
      have m2 : decide ((s.size : Int) < 3) = false := by simp; omega
      have hs1 : 1 < s.size := by omega
      have hs2 : 2 < s.size := by omega
      have hs1' : (1 : Int) < (s.size : Int) := by omega
      have hs2' : (2 : Int) < (s.size : Int) := by omega
      obtain ⟨r2, hr2⟩ : ∃ r2, r = s[1] :: s[2] :: r2 := by
        have e : s.data.toList.drop 1 = r := by rw [Hr.out]; rfl
        have l1 : 1 < s.data.toList.length := by simpa using hs1
        have l2 : 2 < s.data.toList.length := by simpa using hs2
        rw [List.drop_eq_getElem_cons l1, List.drop_eq_getElem_cons l2] at e
        exact ⟨_, e.symm⟩
      subst hr2
      clear hr
      have Hun := Lib.hid hun
      clear hun hx
      rcases h1 : hexV s[1] with _ | a
      · have H1 : Hid (hexI s[1] = -1) := Lib.hid (by unfold hexI; rw [h1])
        obtain ⟨v2, H2⟩ : ∃ v2, Hid (hexI s[2] = v2) := ⟨_, Lib.hid rfl⟩
        have hR := Lib.hid (show unescR s.data.toList = (0, 0) by
          rw [Hr.out]; unfold unescR; rw [Hun.out, unescX_1 h1])
        clear h1
        go_wp2_with fail
        go_quiet ((go_at_call 101; exact Calls.quiet_of_same (idxHexV _ _ (by first | exact H1 | exact H2) _)))
        go_wp2
        go_ret2
        exact ⟨ret_ui (by rw [hR.out]), bd hbl _⟩
      have ha := hexV_lt h1
      rcases h2 : hexV s[2] with _ | b
      · have H1 : Hid (hexI s[1] = a) := Lib.hid (by unfold hexI; rw [h1])
        have H2 : Hid (hexI s[2] = -1) := Lib.hid (by unfold hexI; rw [h2])
        have hR := Lib.hid (show unescR s.data.toList = (0, 0) by
          rw [Hr.out]; unfold unescR; rw [Hun.out, unescX_2 h1 h2])
        have ha0 : (0 : Int) ≤ (a : Int) := by omega
        clear h1 h2
        go_wp2_with fail
        go_quiet ((go_at_call 101; exact Calls.quiet_of_same (idxHexV _ _ (by first | exact H1 | exact H2) _)))
        go_wp2
        go_ret2
        exact ⟨ret_ui (by rw [hR.out]), bd hbl _⟩
      have hb := hexV_lt h2
      have H1 : Hid (hexI s[1] = a) := Lib.hid (by unfold hexI; rw [h1])
      have H2 : Hid (hexI s[2] = b) := Lib.hid (by unfold hexI; rw [h2])
      have hc : (UInt8.ofNat (a * 16 + b)).toNat = a * 16 + b := by rw [UInt8.toNat_ofNat']; omega
      have hX : unescX (s[1] :: s[2] :: r2) = if plainB (UInt8.ofNat (a * 16 + b)) = true ∨ letB (UInt8.ofNat (a * 16 + b)) ≠ 0 then none else some (UInt8.ofNat (a * 16 + b), 3) := by
        simp only [unescX, h1, h2]
      have HX := Lib.hid hX
      have hor := shl_or a b ha hb
      have ha0 : (0 : Int) ≤ (a : Int) := by omega
      have hb0 : (0 : Int) ≤ (b : Int) := by omega
      have hc2 : ((a * 16 + b : Nat) : Int) = ((UInt8.ofNat (a * 16 + b)).toNat : Int) := by rw [hc]
      generalize UInt8.ofNat (a * 16 + b) = c at *
      have hcl : a * 16 + b ≤ 255 := by omega
      have Hc : Hid ((a : Int) * 16 + (b : Int) = (c.toNat : Int)) := Lib.hid (by rw [hc]; omega)
      clear h1 h2 hX hc hc2
      by_cases hp : plainB c = true
      · have hR := Lib.hid (show unescR (s[0] :: s[1] :: s[2] :: r2) = (0, 0) by
          unfold unescR; rw [Hun.out, HX.out, if_pos (.inl hp)])
        go_wp2_with fail
        go_quiet ((go_at_call 101; exact Calls.quiet_of_same (idxHexV _ _ (by first | exact H1 | exact H2) _)))
        go_wp2_with fail
        (with_reducible refine (isPlainI _ c Hc _).mono ?_); rintro e w2 ⟨rfl, rfl⟩
        go_wp2
        go_ret2
        exact ⟨ret_ui (by rw [Hr.out, hR.out]), bd hbl _⟩
      have hp2 : plainB c = false := by simpa using hp
      have hEr := Lib.hid (HE.out.below hbl)
      by_cases hl : letB c = 0
      · have hl2 : (((letB c).toNat : Int) != 0) = false := by rw [hl]; rfl
        have hR : Hid (unescR (s[0] :: s[1] :: s[2] :: r2) = ((c.toNat : Int), 3)) := Lib.hid (by
          unfold unescR; rw [Hun.out, HX.out, if_neg (by rintro (e | e); exact hp e; exact e hl)]; rfl)
        have hcl2 : (a : Int) * 16 + (b : Int) ≤ 255 := by omega
        clear hp hl
        go_wp2_with fail
        go_quiet ((go_at_call 101; exact Calls.quiet_of_same (idxHexV _ _ (by first | exact H1 | exact H2) _)))
        go_wp2_with fail
        (with_reducible refine (isPlainI _ c Hc _).mono ?_); rintro e w2 ⟨rfl, rfl⟩
        go_wp2_with fail
        (with_reducible refine (letterOfI _ c Hc _ (by exact hEr.out.below (below_drewN' _ _))).mono ?_); rintro e w2 ⟨rfl, hb2⟩
        go_wp2
        go_ret2
        exact ⟨ret_ui (by rw [Hr.out, hR.out, Hc.out]), bt (bd hbl _) hb2⟩
      · have hl2 : (((letB c).toNat : Int) != 0) = true := by
          rw [bne_iff_ne]; intro e; apply hl
          exact UInt8.toNat_inj.1 (by simpa using Int.ofNat_inj.1 e)
        have hR : Hid (unescR (s[0] :: s[1] :: s[2] :: r2) = (0, 0)) := Lib.hid (by
          unfold unescR; rw [Hun.out, HX.out, if_pos (.inr hl)])
        clear hp hl
        go_wp2_with fail
        go_quiet ((go_at_call 101; exact Calls.quiet_of_same (idxHexV _ _ (by first | exact H1 | exact H2) _)))
        go_wp2_with fail
        (with_reducible refine (isPlainI _ c Hc _).mono ?_); rintro e w2 ⟨rfl, rfl⟩
        go_wp2_with fail
        (with_reducible refine (letterOfI _ c Hc _ (by exact hEr.out.below (below_drewN' _ _))).mono ?_); rintro e w2 ⟨rfl, hb2⟩
        go_wp2
        go_ret2
        exact ⟨ret_ui (by rw [Hr.out, hR.out]), bt (bd hbl _) hb2⟩
    · rcases (show k = 0 ∨ k = 1 ∨ k = 2 ∨ k = 3 ∨ k = 4 by omega) with rfl | rfl | rfl | rfl | rfl
      all_goals
        clear hk5
        have a0 := escAt0; have a1 := escAt1; have a2 := escAt2; have a3 := escAt3; have a4 := escAt4
        go_wp2
        go_quiet (fail)
        go_wp2
      all_goals first
        | (go_roundw
           case rel =>
             have h2 := ne_of_beq_false ‹(_ == (s[0].toNat : Int)) = false›
             first
               | refine ⟨1, by omega, rfl, bd (ba hbl _) _, ?_⟩
               | refine ⟨2, by omega, rfl, bd (ba hbl _) _, ?_⟩
               | refine ⟨3, by omega, rfl, bd (ba hbl _) _, ?_⟩
               | refine ⟨4, by omega, rfl, bd (ba hbl _) _, ?_⟩
               | refine ⟨5, by omega, rfl, bd (ba hbl _) _, ?_⟩
             unfold LRel at *
             omega
           case measure => simp [intOf])
        | (go_ret2
           have h2 := eq_of_beq ‹(_ == (s[0].toNat : Int)) = true›
           refine ⟨ret_ui ?_, bd (ba hbl _) _⟩
           rw [Hr.out]
           first
             | exact (unesc_let 34 (.inl ⟨u8_eq (n := 34) (by omega) h2.symm, rfl⟩)).symm
             | exact (unesc_let 92 (.inr (.inl ⟨u8_eq (n := 92) (by omega) h2.symm, rfl⟩))).symm
             | exact (unesc_let 10 (.inr (.inr (.inl ⟨u8_eq (n := 110) (by omega) h2.symm, rfl⟩)))).symm
             | exact (unesc_let 13 (.inr (.inr (.inr (.inl ⟨u8_eq (n := 114) (by omega) h2.symm, rfl⟩))))).symm
             | exact (unesc_let 9 (.inr (.inr (.inr (.inr ⟨u8_eq (n := 116) (by omega) h2.symm, rfl⟩))))).symm)
theorem ext_list (s : ByteArray) (a : Nat) : (s.extract a s.size).data.toList = s.data.toList.drop a := by
  rw [ByteArray.data_extract, Array.toList_extract]
  have : s.size = s.data.toList.length := by simp
  rw [this]
  simp only [List.extract]
  rw [List.take_of_length_le (by simp)]
theorem drop_byte {s : ByteArray} {k : Nat} (h : k < s.size) : s.data.toList.drop k = s[k] :: s.data.toList.drop (k + 1) := by
  have hl : k < s.data.toList.length := by simpa using h
  rw [List.drop_eq_getElem_cons hl]; rfl
def unqV (l : List UInt8) : Ending := .returned (.tuple #[.string ⟨(unquoteL l).1.toArray⟩, .int .i64 ((unquoteL l).2 : Int)])
theorem unqV_of {l b : List UInt8} {n : Nat} {i : Int} (h : unquoteL l = (b, n)) (hi : i = n) : Ending.returned (.tuple #[.string ⟨b.toArray⟩, .int .i64 i]) = unqV l := by
  unfold unqV; rw [h, hi]
theorem unqV_no {l : List UInt8} (h : unquoteL l = ([], 0)) : Ending.returned (.tuple #[.string ⟨#[]⟩, .int .i64 0]) = unqV l := by
  unfold unqV; rw [h]; rfl
theorem headQ_plain {c : UInt8} {r : List UInt8} (h : plainB c = true) : headQ (c :: r) = some (c, 1) := by
  simp [headQ, (plain_ne c h).2, h]
theorem headQ_bad {c : UInt8} {r : List UInt8} (h : ¬ plainB c = true) (h2 : c ≠ 92) : headQ (c :: r) = none := by
  simp [headQ, h2, h]
theorem headQ_esc0 {r : List UInt8} (h : unesc r = none) : headQ (92 :: r) = none := by simp [headQ, h]
theorem headQ_esc1 {r : List UInt8} {c : UInt8} {n : Nat} (h : unesc r = some (c, n)) : headQ (92 :: r) = some (c, n + 1) := by simp [headQ, h]
theorem unescR_of {l : List UInt8} {c : UInt8} {n : Nat} (h : unesc l = some (c, n)) : unescR l = ((c.toNat : Int), (n : Int)) := by unfold unescR; rw [h]
theorem unescR_no {l : List UInt8} (h : unesc l = none) : unescR l = (0, 0) := by unfold unescR; rw [h]
theorem unesc_len {l : List UInt8} {c : UInt8} {n : Nat} (h : unesc l = some (c, n)) : 0 < n ∧ n ≤ l.length := by
  have := headQ_pos (headQ_esc1 h)
  refine ⟨?_, by simp at this; omega⟩
  rcases n with _ | n
  · obtain ⟨h1, h2⟩ := headQ_form (headQ_esc1 h)
    by_cases hp : plainB c = true
    · rw [escB_plain hp] at h1
      injection h1 with h1 _
      exact absurd h1.symm (plain_ne c hp).2
    · by_cases hl : letB c = 0
      · rw [escB_hex hp hl] at h2; simp at h2
      · rw [escB_let hp hl] at h2; simp at h2
  · omega
theorem unescape' (s : ByteArray) (w : World) (hE : Esc w) {a b : Int} (h : Hid (unescR s.data.toList = (a, b))) :
    Calls Tryz.prog 121 #[.string s] w fun e w' => e = .returned (.tuple #[.int .u8 a, .int .i64 b]) ∧ Below w.heap.size w w' := by
  have := unescape s w hE
  rw [h.out] at this
  exact this
set_option maxRecDepth 100000 in
set_option maxHeartbeats 1000000 in
theorem unquote (s : ByteArray) (w : World) (hE : Esc w) (hsz : s.size ≤ 1099511627776) :
    Calls Tryz.prog 104 #[.string s] w fun e w' => e = unqV s.data.toList ∧ Below w.heap.size w w' := by
  by_cases hz : s.size = 0
  · have he : s.toList.isEmpty = true := by rw [(toList_nil s).2 hz]; rfl
    have he2 : s.toList = [] := (toList_nil s).2 hz
    have hR := Lib.hid (unqV_no (l := s.data.toList) (by
      have : s.data.toList = [] := List.eq_nil_of_length_eq_zero (by simpa using hz)
      rw [this]; rfl))
    clear hz
    go_enter Tryz.func104, Tryz.ntmps104
    go_wp2
    go_ret2
    exact ⟨hR.out, Below.refl _ _⟩
  have he : s.toList.isEmpty = false := by
    rw [Bool.eq_false_iff]; intro e
    exact hz ((toList_nil s).1 (List.isEmpty_iff.1 e))
  have he2 : ¬ s.toList = [] := fun e => hz ((toList_nil s).1 e)
  have hs0 : 0 < s.size := by omega
  have hs0' : (0 : Int) < (s.size : Int) := by omega
  have hd0 := drop_byte hs0
  rw [List.drop_zero] at hd0
  by_cases hq : s[0] = 34
  case neg =>
    have m1 : ((s[0].toNat : Int) != 34) = true := by
      rw [bne_iff_ne]; intro e; exact hq (u8_eq (n := 34) (by omega) e)
    have hR := Lib.hid (unqV_no (l := s.data.toList) (by
      rw [hd0]; unfold unquoteL; simp only; rw [if_neg hq]))
    clear hz hq hd0
    go_enter Tryz.func104, Tryz.ntmps104
    go_wp2
    go_ret2
    exact ⟨hR.out, Below.refl _ _⟩
  have m1 : ((s[0].toNat : Int) != 34) = false := by rw [hq]; rfl
  have hst : URel s.data.toList 1 [] := by rw [hd0, hq]; exact URel.start
  have HE := Lib.hid hE
  clear hz hq hd0
  go_enter Tryz.func104, Tryz.ntmps104
  go_wp2
  go_loopw [4, 5] (fun v i wr => ∃ (k : Nat) (out : List UInt8), 1 ≤ k ∧ k ≤ s.size ∧ i = .int .i64 k ∧ Below w.heap.size w wr ∧ wr.ownsRow w.heap.size 5 1 v out.length (bs8 out) ∧ out.length ≤ k ∧ URel s.data.toList k out) (fun _ i _ => s.size - (intOf i).toNat)
  case atStart => exact ⟨1, [], by omega, by omega, rfl, Below.refl _ _, World.ownsRow_nil _ _ _ _, by simp, hst⟩
  case round =>
    obtain ⟨k, out, hk1, hk, rfl, hbl, hown, hol, hr⟩ := hrel
    by_cases hlt : k < s.size
    case neg =>
      have hR := Lib.hid (unqV_no (hr.over (by simp; omega)))
      go_wp2
      go_ret2
      exact ⟨hR.out, hbl⟩
    have hd := drop_byte hlt
    have hi1 : (k : Int) < (s.size : Int) := by omega
    have hi0 : (0 : Int) ≤ (k : Int) := by omega
    by_cases hq : s[k] = 34
    · have m2 : ((s[k].toNat : Int) == 34) = true := by rw [hq]; rfl
      rw [hq] at hd
      have hR := Lib.hid (unqV_of (i := (k : Int) + 1) (hr.stop hd) (by omega))
      obtain ⟨Ab, cb, rfl, _, _, _⟩ := own_sl hown
      have hcv := own_conv hown
      clear hq hd hr
      go_wp2
      go_ret2
      exact ⟨hR.out, hbl⟩
    have m2 : ((s[k].toNat : Int) == 34) = false := by
      rw [beq_eq_false_iff_ne]; intro e; exact hq (u8_eq (n := 34) (by omega) e)
    by_cases hb : s[k] = 92
    · have m3 : ((s[k].toNat : Int) == 92) = true := by rw [hb]; rfl
      rw [hb] at hd
      have hi2 : (k : Int) + 1 ≤ (s.size : Int) := by omega
      rcases hu : unesc (s.data.toList.drop (k + 1)) with _ | ⟨c, n⟩
      · have hR := Lib.hid (unqV_no (hr.fail (by rw [hd]; exact unqR_none (by decide) (headQ_esc0 hu))))
        have hU : Hid (unescR (s.extract (k + 1) s.size).data.toList = (0, 0)) := Lib.hid (by rw [ext_list]; exact unescR_no hu)
        clear hq hb hd hr hu
        go_wp2_with fail
        (with_reducible refine (unescape' _ _ (HE.out.below hbl) hU).mono ?_); rintro e w2 ⟨rfl, hb2⟩
        go_wp2
        go_ret2
        exact ⟨hR.out, bt hbl hb2⟩
      · have hln := unesc_len hu
        rw [List.length_drop] at hln
        have hsl : s.data.toList.length = s.size := by simp
        have hn1 : 1 ≤ n := hln.1
        have hn2 : k + 1 + n ≤ s.size := by omega
        have hr2 := Lib.hid (hr.step hd (by decide) (headQ_esc1 hu))
        have hU : Hid (unescR (s.extract (k + 1) s.size).data.toList = ((c.toNat : Int), (n : Int))) := Lib.hid (by rw [ext_list]; exact unescR_of hu)
        have m4 : ((n : Int) == 0) = false := by rw [beq_eq_false_iff_ne]; omega
        clear hq hb hd hr hu hln hsl
        go_wp2_with fail
        (with_reducible refine (unescape' _ _ (HE.out.below hbl) hU).mono ?_); rintro e w2 ⟨rfl, hb2⟩
        have hown2 := own_below hown hb2
        have hbl2 := bt hbl hb2
        clear hown
        go_wp2_with (at_builtin; refine wpList_ap u8El (hown2.alloc _) (ba hbl2 _) [.int .u8 (c.toNat : Int)] (alloc1_new _ _) ?_)
        intro g cap w3 hown3 hb3 hg3
        have hown4 : w3.ownsRow w.heap.size 5 1 (.slice (some ⟨g, 0, none⟩) (out.length + 1) cap) (out ++ [c]).length (bs8 (out ++ [c])) := by
          rw [bs8_app, List.length_append]; exact hown3
        clear hown3
        go_wp2
        go_roundw
        case rel => exact ⟨k + (n + 1), out ++ [c], by omega, by omega, by go_num, hb3, hown4, by simp; omega, hr2.out⟩
        case measure => simp [intOf]; omega
    · have m3 : ((s[k].toNat : Int) == 92) = false := by
        rw [beq_eq_false_iff_ne]; intro e; exact hb (u8_eq (n := 92) (by omega) e)
      by_cases hp : plainB s[k] = true
      · have hr2 := Lib.hid (hr.step hd hq (headQ_plain hp))
        clear hq hb hd hr
        go_wp2_with fail
        (with_reducible refine (isPlain s[k] _).mono ?_); rintro e w2 ⟨rfl, rfl⟩
        go_wp2_with (at_builtin; refine wpList_ap u8El (hown.alloc _) (ba hbl _) [.int .u8 (s[k].toNat : Int)] (alloc1_new _ _) ?_)
        intro g cap w3 hown3 hb3 hg3
        have hown4 : w3.ownsRow w.heap.size 5 1 (.slice (some ⟨g, 0, none⟩) (out.length + 1) cap) (out ++ [s[k]]).length (bs8 (out ++ [s[k]])) := by
          rw [bs8_app, List.length_append]; exact hown3
        clear hown3
        go_wp2
        go_roundw
        case rel => exact ⟨k + 1, out ++ [s[k]], by omega, by omega, by go_num, hb3, hown4, by simp; omega, hr2.out⟩
        case measure => simp [intOf]; omega
      · have hp2 : plainB s[k] = false := by simpa using hp
        have hR := Lib.hid (unqV_no (hr.fail (by rw [hd]; exact unqR_none hq (headQ_bad hp hb))))
        clear hq hb hd hr hp
        go_wp2_with fail
        (with_reducible refine (isPlain s[k] _).mono ?_); rintro e w2 ⟨rfl, rfl⟩
        go_wp2
        go_ret2
        exact ⟨hR.out, hbl⟩
end Go.Proofs.YtcopnpllaoahaaaGreatDoor
