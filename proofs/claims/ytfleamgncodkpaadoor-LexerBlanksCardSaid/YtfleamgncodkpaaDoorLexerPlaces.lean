/- LexerPlaces. -/
import Derived.Test.YtfleamgncodkpaaDoorJ17
import Derived.Test.YtfleamgncodkpaaDoorJ13
import Derived.Deep.DeepCutAuto
namespace Go.Proofs.YtfleamgncodkpaaDoor
open Go.RowKit
/-- x[i:j] -/
theorem sl_mid {P : Program} {t e : TypeId} {z : Value} {size bytes : Nat} (E : Elem P t e z size bytes) (he : P.elem t = e) {w : World} {B : Nat} {A : Option Addr} {len cap : Nat} {xs : List Value} (h : Reads w B size A len xs) (p q : Int) (i j : Nat) (hp : p = i) (hq : q = j) (hij : i ≤ j) (hj : j ≤ len) (hc : len ≤ cap) :
    ∃ A', (∀ W : World, (Instr.sliceAt t (.slice A len cap) (some (.int .i64 p)) (some (.int .i64 q)) none).run P W = .ok (.slice A' (j - i) (cap - i)) W) ∧ Reads w B size A' (j - i) ((xs.drop (i * size)).take ((j - i) * size)) := by
  subst hp hq
  refine ⟨_, fun W => ?_, (h.cut (k := i) (by omega) hc).firsts (k := j - i) (by omega)⟩
  have ht : P.underlying t = some (.slice (P.elem t)) := by rw [he]; exact E.ht
  obtain ⟨n, hi, _, hs, _⟩ := info_parts E.hi
  rw [run_sliceAt_slice W t _ _ _ _ ht, run_slice_lh W t A len cap ht .i64 .i64 (i : Int) (j : Int) (by omega) (by omega) (by omega), he]
  simp [sizeOf, typeInfo, hi, sliced, Result.andThen, hs]
theorem tks_drop (l : List T9) (k : Nat) : (tks l).drop (k * 9) = tks (l.drop k) := by
  induction k generalizing l with
  | zero => simp
  | succ k ih =>
    cases l with
    | nil => simp [tks]
    | cons x r =>
      rw [List.drop_succ_cons, ← ih, Nat.succ_mul, Nat.add_comm, ← List.drop_drop]
      rfl
theorem tks_sub {l : List T9} {k : Nat} (hk : k < l.length) : ((tks l).drop (k * 9)).take 9 = tks [l[k]] := by
  rw [tks_drop, List.drop_eq_getElem_cons hk]
  have h : tks (l[k] :: l.drop (k + 1)) = tks [l[k]] ++ tks (l.drop (k + 1)) := by
    rw [← tks_app]; rfl
  rw [h]
  have h9 : (tks [l[k]]).length = 9 := by rw [tks_len]; rfl
  exact List.take_left' h9
theorem ln_full (s : ByteArray) (hs : s.size ≤ 100000) (L : List UInt8) (hL : s.data.toList = L) (l : List Tok) (n : Nat) (hn : l.length = n) (p er : Int) (h : Hid (∃ q : Nat, lineK L = (l, q, er) ∧ p = (q : Int))) (w : World) (hE : Esc w) (hM : ML w) :
    Calls Tryd.prog 14 #[.string s] w fun e w' => ∃ A c, e = .returned (.tuple #[.slice A n c, .int .i64 p, .int .i64 er]) ∧ Below w.heap.size w w' ∧ Reads w' w'.heap.size 9 A n (tks (l.map t9)) ∧ n ≤ c ∧ c ≤ 9223372036854775807 := by
  obtain ⟨q, hq, rfl⟩ := h.out
  rw [← hL] at hq
  subst hn
  refine (line_ s hs _ (Lib.hid hq) w hE hM).mono ?_
  exact fun e w' ⟨A, c, he, hb, hr, hc, hm⟩ => ⟨A, c, he, hb, hr, hc, hm⟩
theorem ext_cut (s : ByteArray) (p q : Nat) : (s.extract p q).data.toList = (s.data.toList.drop p).take (q - p) := by
  rw [ByteArray.data_extract, Array.toList_extract]
/-- a box of a token and the places of a token that was read -/
abbrev P9 (w : World) (g : Nat) (p q : Int) (bm om : Nat) (j : Int) (w' : World) : Prop := Below w.heap.size w w' ∧ g < w'.heap.size ∧ bm < w'.heap.size ∧ w'.cell? ⟨g, 1, none⟩ = some (.int .i64 p) ∧ w'.cell? ⟨g, 2, none⟩ = some (.int .i64 q) ∧ w'.cell? ⟨bm, om + 1, none⟩ = some (.int .i64 0) ∧ w'.cell? ⟨bm, om + 2, none⟩ = some (.int .i64 j)
section
variable {w w1 w2 : World} {g bm om : Nat} {p q j : Int}
theorem P9.drew (h : P9 w g p q bm om j w1) : P9 w g p q bm om j w1.drew := ⟨h.1.drew, h.2⟩
theorem P9.go (h : P9 w g p q bm om j w1) (hb : Below w1.heap.size w1 w2) : P9 w g p q bm om j w2 := by
  obtain ⟨h1, h2, h3, h4, h5, h6, h7⟩ := h
  exact ⟨bt h1 hb, Nat.lt_of_lt_of_le h2 hb.size, Nat.lt_of_lt_of_le h3 hb.size, (hb.cell (p := ⟨g, 1, none⟩) h2).trans h4, (hb.cell (p := ⟨g, 2, none⟩) h2).trans h5, (hb.cell (p := ⟨bm, om + 1, none⟩) h3).trans h6, (hb.cell (p := ⟨bm, om + 2, none⟩) h3).trans h7⟩
end
set_option maxRecDepth 100000 in
set_option maxHeartbeats 8000000 in
theorem lexerPlaces_walk (w : World) (s : ByteArray) (hsz : s.size ≤ 140737488351232) (hW : LxW w) (hM : ML w) :
    Calls Tryd.prog 5 #[.string s] w fun e w' => e = .returned (.bool true) ∧ Below w.heap.size w w' := by
  have HF0 := Lib.hid (Fr.start w)
  have HW := Lib.hid hW
  have HM := Lib.hid hM
  have hsl : s.data.toList.length = s.size := by simp
  clear hW hM
  by_cases h300 : 300 < s.size
  · have i1 : (300 : Int) < (s.size : Int) := by omega
    clear hsl
    go_enter Tryd.func5, Tryd.ntmps5
    go_wp2_with fail
    (with_reducible refine (shown_ _ HW.out HM.out).mono ?_); rintro e w6 ⟨rfl, hb⟩
    go_wp2
    go_ret
    exact ⟨rfl, hb⟩
  have i1 : ¬ ((300 : Int) < (s.size : Int)) := by omega
  have hs1 : s.size ≤ 100000 := by omega
  obtain ⟨l, q, er, hp⟩ : ∃ l q er, lineK s.data.toList = (l, q, er) := ⟨_, _, _, rfl⟩
  have HL : Hid (∃ q' : Nat, lineK s.data.toList = (l, q', er) ∧ (q : Int) = (q' : Int)) := Lib.hid ⟨q, hp, rfl⟩
  by_cases her : er = 0
  case neg =>
    obtain ⟨rfl, hq⟩ := line_bad (by omega) hp her
    have e1 : (er != 0) = true := by rw [bne_iff_ne]; exact her
    have j1 : (0 : Int) ≤ (q : Int) := by omega
    have j2 : (q : Int) ≤ (s.size : Int) := by omega
    clear hp hsl her
    go_enter Tryd.func5, Tryd.ntmps5
    go_wp2_with fail
    (with_reducible refine (ln_full s hs1 s.data.toList rfl [] 0 rfl q er HL _ HW.out.esc HM.out).mono ?_); rintro e w2 ⟨A2, c2, rfl, hb, hr, hc⟩
    have HF2 := Lib.hid (HF0.out.go hb)
    clear hb hr
    go_wp2_with fail
    (with_reducible refine (shown_ _ (HW.out.below HF2.out.bel) (HM.out.below HF2.out.bel)).mono ?_); rintro e w6 ⟨rfl, hb⟩
    have HB := Lib.hid (bt HF2.out.bel hb)
    clear hb HF2
    go_wp2
    go_ret
    exact ⟨rfl, HB.out⟩
  subst her
  obtain ⟨rfl, _⟩ := line_ok hp
  have HP := Lib.hid hp
  have HL0 : Hid (∃ q' : Nat, lineK s.data.toList = (l, q', 0) ∧ (0 : Int) = (q' : Int)) := Lib.hid ⟨0, hp, rfl⟩
  clear hp HL
  go_enter Tryd.func5, Tryd.ntmps5
  go_wp2_with fail
  (with_reducible refine (ln_full s hs1 s.data.toList rfl l l.length rfl 0 0 HL0 _ HW.out.esc HM.out).mono ?_); rintro e w1 ⟨A, c, rfl, hb, hr, hc, hcm⟩
  have HF1 := Lib.hid (HF0.out.go hb)
  have HR := Lib.hid (show Reads w1 w1.heap.size 9 A (l.map t9).length (tks (l.map t9)) by rw [List.length_map]; exact hr)
  have HR0 := Lib.hid hr
  have Hc := Lib.hid hc
  have hlm : l.length ≤ 9223372036854775807 := by omega
  clear hb hr hc hcm HF0 HL0
  go_wp2
  go_loopw [6, 7] (fun la i wr => ∃ k : Nat, k ≤ l.length ∧ i = .int .i64 (k : Int) ∧ la = .int .i64 (lastQ l k) ∧ Hid (Below w1.heap.size w1 wr)) (fun _ i _ => l.length - (intOf i).toNat)
  case atStart => exact ⟨0, Nat.zero_le _, rfl, rfl, Lib.hid (Below.refl _ _)⟩
  case round =>
    obtain ⟨k, hk, rfl, rfl, HB1⟩ := hrel
    by_cases hlt : k < l.length
    case neg =>
      have i2 : ¬ ((k : Int) < (l.length : Int)) := by omega
      have HF2 := Lib.hid (HF1.out.go HB1.out)
      go_wp2_with fail
      (with_reducible refine (shown_ _ (HW.out.below HF2.out.bel) (HM.out.below HF2.out.bel)).mono ?_); rintro e w6 ⟨rfl, hb⟩
      have HB := Lib.hid (bt HF2.out.bel hb)
      clear hb HF2
      go_wp2
      go_ret
      exact ⟨rfl, HB.out⟩
    have i2 : (k : Int) < (l.length : Int) := by omega
    have i0 : (0 : Int) ≤ (k : Int) := by omega
    have hlt9 : k < (l.map t9).length := by rw [List.length_map]; exact hlt
    obtain ⟨bk, off, rfl, hbk, c0, c1, c2, c3, c4, c5, c6, c7, c8⟩ := (HR.out.below HB1.out).at9 hlt9
    obtain ⟨A5, hs5, hR5⟩ := sl_mid tkEl (by kernel_rfl) HR0.out (k : Int) ((k : Int) + 1) k (k + 1) rfl (by omega) (by omega) (by omega) Hc.out
    have e15 : k + 1 - k = 1 := by omega
    rw [e15] at hs5 hR5
    rw [Nat.one_mul, tks_sub hlt9] at hR5
    obtain ⟨q1, q2, q3, q4⟩ := places_at HP.out k hlt
    have hlq := lastQ_at hlt
    rw [List.getElem_map] at c0 c1 c2 c3 c4 c5 c6 c7 c8 hR5
    obtain ⟨b, p, r, ht⟩ : ∃ b p r, l[k] = (b, p, r) := ⟨_, _, _, rfl⟩
    rw [ht] at c0 c1 c2 c3 c4 c5 c6 c7 c8 hR5 q1 q2 q3 q4 hlq
    simp only [t9] at c0 c1 c2 c3 c4 c5 c6 c7 c8
    simp only at q1 q2 q3 q4 hlq
    have hbkw : bk < wr.heap.size := Nat.lt_of_lt_of_le hbk HB1.out.size
    obtain ⟨j, hj⟩ : ∃ j, j = r - p := ⟨_, rfl⟩
    rw [← hj] at q4
    have j0 : ¬ ((p : Int) ≤ lastQ l k) := by omega
    have j1 : ¬ ((r : Int) ≤ (p : Int)) := by omega
    have j2 : ¬ ((s.size : Int) < (r : Int)) := by omega
    have j3 : (0 : Int) ≤ (p : Int) := by omega
    have j4 : (p : Int) ≤ (r : Int) := by omega
    have j5 : (r : Int) ≤ (s.size : Int) := by omega
    have Hj := Lib.hid hj
    have Hlq := Lib.hid hlq
    have HS5 := Lib.hid hs5
    have HR5 := Lib.hid hR5
    have HQ : Hid (∃ q' : Nat, lineK ((s.data.toList.drop p).take (r - p)) = ([(b, 0, j)], q', 0) ∧ (0 : Int) = (q' : Int)) := Lib.hid ⟨0, by rw [← hj]; exact q4, rfl⟩
    have hxs : (s.extract p r).size ≤ 100000 := by rw [ByteArray.size_extract]; omega
    have HB9 := Lib.hid (show Below wr.heap.size wr (wr.alloc (tkO (b.1 : Int) (p : Int) (r : Int) (b.2.1 : Int) ⟨b.2.2.1.toArray⟩ b.2.2.2)) from (Below.refl _ _).alloc (Nat.le_refl _) _)
    clear hj hlq hs5 hR5 q1 q2 q3 q4 ht
    generalize lastQ l k = la at *
    go_upto_region 11 with fail
    have hbx := alloc1_new wr (tkO (b.1 : Int) (p : Int) (r : Int) (b.2.1 : Int) ⟨b.2.2.1.toArray⟩ b.2.2.2)
    generalize wr.alloc (tkO (b.1 : Int) (p : Int) (r : Int) (b.2.1 : Int) ⟨b.2.2.1.toArray⟩ b.2.2.2) = W4 at *
    clear c0 c1 c2 c3 c4 c5 c6 c7 c8
    obtain ⟨⟨c0, c1, c2, c3, c4, c5, c6, c7, c8⟩, _, hl1⟩ := bx9 hbx
    have HB4 := Lib.hid (bt HB1.out HB9.out)
    clear hbx HB9 hbkw
    generalize wr.heap.size = g at *
    go_wp2_with fail
    have HW4 := Lib.hid (HW.out.below (HF1.out.go HB4.out).bel)
    have HM4 := Lib.hid (HM.out.below (HF1.out.go HB4.out).bel)
    (with_reducible refine (ln_full (s.extract p r) hxs _ (ext_cut s p r) [(b, 0, j)] 1 rfl 0 0 HQ _ HW4.out.esc HM4.out).mono ?_); rintro e w3 ⟨A3, cz, rfl, hb, hr, hcz, _⟩
    have hr' : Reads w3 w3.heap.size 9 A3 [t9 (b, 0, j)].length (tks [t9 (b, 0, j)]) := hr
    obtain ⟨bm, om, rfl, hbm, d0, d1, d2, _⟩ := hr'.at9 (k := 0) (by show 0 < 1; decide)
    simp only [Nat.zero_mul, Nat.add_zero, List.getElem_cons_zero, t9] at d1 d2
    have d1' : w3.cell? ⟨bm, om + 1, none⟩ = some (.int .i64 0) := d1
    have hT : P9 w3 g (p : Int) (r : Int) bm om (j : Int) w3 := ⟨Below.refl _ _, Nat.lt_of_lt_of_le hl1 hb.size, hbm, (hb.cell (p := ⟨g, 1, none⟩) hl1).trans c1, (hb.cell (p := ⟨g, 2, none⟩) hl1).trans c2, d1', d2⟩
    have HS : Hid (∀ W, P9 w3 g (p : Int) (r : Int) bm om (j : Int) W → Calls Tryd.prog 15 #[.slice (some ⟨bm, om, none⟩) 1 cz, .slice A5 1 (c - k), .bool false] W fun e w' => e = .returned (.bool true) ∧ Below W.heap.size W w') := Lib.hid fun W hP =>
      sm_at false [t9 (b, 0, j)] [t9 (b, p, r)] 1 1 rfl rfl W _ A5 cz (c - k) (hr.go hP.1) (HR5.out.go (bt HB4.out (bt hb hP.1))) (by decide) (by decide) true (Lib.hid (same_tok b 0 j p r))
    have HB3 := Lib.hid (bt HB4.out hb)
    have hs5 := HS5.out
    have e8 : IntKind.i64.wrap ((k : Int) + 1) = (k : Int) + 1 := IntWalk.i64_in _ (by omega)
    have e9 : IntKind.i64.wrap ((r : Int) - (p : Int)) = (r : Int) - (p : Int) := IntWalk.i64_in _ (by omega)
    have e10 : ((j : Int) != (r : Int) - (p : Int)) = false := by
      have := Hj.out
      rw [bne_eq_false_iff_eq]; omega
    clear hb d0 d1 d2 d1' c0 c1 c2 c3 c4 c5 c6 c7 c8 hl1
    go_upto_region 15 with fail
    go_region_held3 (fun w' => P9 w3 g (p : Int) (r : Int) bm om (j : Int) w')
      (with_reducible (first | exact P9.drew hT | exact P9.go (by assumption) hb5 | assumption))
      ((go_at_call 15; (with_reducible refine (HS.out _ (by assumption)).mono ?_); rintro e w5 ⟨rfl, hb5⟩))
    have hP5 : P9 w3 g (p : Int) (r : Int) bm om (j : Int) w5 := by assumption
    have HB5 := Lib.hid (bt HB3.out hP5.1)
    clear hP5 hT hs5 hb5
    go_wp2
    go_roundw
    case rel => exact ⟨k + 1, by omega, by go_num, by rw [Hlq.out], HB5⟩
    case measure => (simp [intOf]) <;> omega
end Go.Proofs.YtfleamgncodkpaaDoor
