/- Syntax: places of faults, lengths of lines: plain laws; the rules read so far in memory. No condition. Syntax: Parse of the program. No condition. -/
import Derived.Test.YtcopnpllaoahaaaGreatDoorE8
import Derived.Test.YtcopnpllaoahaaaGreatDoorSp
namespace Go.Proofs.YtcopnpllaoahaaaGreatDoor
open Go.RowKit
theorem lnK_len {β : Type} {tk : Tk β} {most : Nat} : ∀ (n : Nat) (L : List UInt8) (p : Nat) (acc : List (β × Nat × Nat)), acc.length ≤ most → (lnK tk most n L p acc).1.length ≤ most
  | 0, _, _, _, _ => by simp [lnK]
  | _ + 1, [], _, acc, h => by simpa [lnK] using h
  | n + 1, c :: r, p, acc, h => by
    rw [lnK]
    split
    · exact lnK_len n r _ acc h
    · split
      · simp
      · rename_i hne
        split
        · simp
        · split
          · exact lnK_len n _ _ _ (by rw [List.length_append]; simp; omega)
          · simp
theorem lineK_len (L : List UInt8) : (lineK L).1.length ≤ 80 := by
  unfold lineK
  split
  · simp
  · exact lnK_len _ _ _ _ (by simp)
theorem errL_place : ∀ {l : List T9} {i q : Nat} {e : Int}, errL l i = some (q, e) → q < i + l.length
  | [], _, _, _, h => by cases h
  | t :: l, i, q, e, h => by
    unfold errL at h
    split at h
    · simp only [Option.some.injEq, Prod.mk.injEq] at h
      rw [List.length_cons]; omega
    · have := errL_place h
      rw [List.length_cons]; omega
theorem elS_place {r : List T9} {p m q : Nat} {er : Int} (h : elS r p m = .inl (q, er)) : q ≤ p + r.length := by
  unfold elS at h
  repeat' split at h
  all_goals first
    | (cases h; done)
    | (simp only [Sum.inl.injEq, Prod.mk.injEq] at h; simp only [List.length_cons]; omega)
theorem elsK_place : ∀ (n : Nat) (r : List T9) (p : Nat) (es xs : List El) (q : Nat) (e : Int), r.length ≤ n → elsK r p es = (xs, q, e) → e ≠ 0 → q ≤ p + r.length := by
  intro n
  induction n with
  | zero =>
    intro r p es xs q e hn h he
    have : r = [] := List.length_eq_zero_iff.1 (by omega)
    subst this
    rw [elsK.eq_def] at h
    simp only [Prod.mk.injEq] at h
    exact absurd h.2.2.symm he
  | succ n ih =>
    intro r p es xs q e hn h he
    rw [elsK_step] at h
    rcases hs : elS r p es.length with ⟨q', er⟩ | _ | ⟨k, x⟩
    · rw [hs] at h
      simp only [Prod.mk.injEq] at h
      rw [← h.2.1]
      exact elS_place hs
    · rw [hs] at h
      simp only [Prod.mk.injEq] at h
      exact absurd h.2.2.symm he
    · rw [hs] at h
      simp only at h
      obtain ⟨_, h0, hk⟩ := elS_some hs
      have := ih (r.drop k) (p + k) _ _ _ _ (by rw [List.length_drop]; omega) h he
      rw [List.length_drop] at this
      omega
theorem ruK_place {ts : List T9} {r : Ru} {q : Nat} {e : Int} (h : ruK ts = (r, q, e)) (he : e ≠ 0) : q ≤ ts.length := by
  rcases hn : errL ts 0 with _ | ⟨i, x⟩
  · rw [ruK_hd _ hn] at h
    rcases hq : rhK ts with _ | k
    · rw [hq] at h
      simp only at h
      have h2 := (rh_none hq).1
      split at h
      · simp only [Prod.mk.injEq] at h
        exact absurd h.2.2.symm he
      · simp only [Prod.mk.injEq] at h
        have := elsK_place _ _ _ _ _ _ _ (Nat.le_refl _) (show elsK (ts.drop 2) 2 [] = (_, q, e) from by rw [← h.2.1, ← h.2.2]) he
        rw [List.length_drop] at this
        omega
    · rw [hq] at h
      simp only [Prod.mk.injEq] at h
      rw [← h.2.1]
      rcases rh_some hq with ⟨rfl, _⟩ | ⟨rfl, h1, _⟩ | ⟨rfl, h1, _⟩ <;> omega
  · have hl := errL_place hn
    unfold ruK at h
    rw [hn] at h
    simp only [Prod.mk.injEq] at h
    omega
/-- the rules read so far -/
structure RuS (w : World) (v : Value) (Rs : List Rm) (w' : World) : Prop where
  own : w'.ownsRow w.heap.size 42 2 v Rs.length (rms Rs)
  bel : Below w.heap.size w w'
  el : ∀ r ∈ Rs, w'.ownsRow w.heap.size 38 8 (.slice r.2.1 r.2.2.2.length r.2.2.1) r.2.2.2.length (els r.2.2.2)
theorem RuS.start (w : World) : RuS w (.slice none 0 0) [] w := ⟨World.ownsRow_nil _ _ _ _, Below.refl _ _, fun x hx => by cases hx⟩
theorem RuS.go {w w1 w2 : World} {v : Value} {Rs : List Rm} (h : RuS w v Rs w1) (hb : Below w1.heap.size w1 w2) : RuS w v Rs w2 :=
  ⟨own_below h.own hb, bt h.bel hb, fun r hr => own_below (h.el r hr) hb⟩
theorem RuS.step {w w1 w2 : World} {v v' : Value} {Rs : List Rm} {A : Option Addr} {c n : Nat} {id : Int} {es : List El} (h : RuS w v Rs w1)
    (ho : w1.ownsRow w.heap.size 38 8 (.slice A es.length c) es.length (els es))
    (hO : w2.ownsRow w.heap.size 42 2 v' n (rms Rs ++ [.int .i64 id, .slice A es.length c])) (hn : n = Rs.length + 1) (hb : Below w.heap.size w w2) (hg : w1.grownBy w2 v.ownBlock) : RuS w v' (Rs ++ [(id, A, c, es)]) w2 := by
  have hgr : ∀ {A' c' n' xs}, w1.ownsRow w.heap.size 38 8 (.slice A' n' c') n' xs → w2.ownsRow w.heap.size 38 8 (.slice A' n' c') n' xs := fun ho => own_grown ho hg (own_own_ne ho h.own (by decide))
  subst hn
  refine ⟨?_, hb, ?_⟩
  · rw [rms_app, List.length_append]; exact hO
  · intro r hr
    rcases List.mem_append.1 hr with hr | hr
    · exact hgr (h.el r hr)
    · rw [List.mem_singleton.1 hr]; exact hgr ho
theorem RuS.done {w w1 : World} {n c : Nat} {A : Option Addr} {Rs : List Rm} (h : RuS w (.slice A n c) Rs w1) : IsRus w1 A Rs := by
  refine ⟨?_, fun x hx => ?_⟩
  · obtain ⟨A2, c2, e, hr, _⟩ := own_sl h.own
    cases e; exact hr
  · obtain ⟨A2, c2, e, hr, h1, h2⟩ := own_sl (h.el x hx)
    cases e; exact ⟨hr, h1, h2⟩
/-- what Parse gives -/
def RetPs (w : World) (r : List Ru × Nat × Int × Int) (e : Ending) (w' : World) : Prop :=
  ∃ A c Rs, e = .returned (.tuple #[.slice A r.1.length c, .int .i64 (r.2.1 : Int), .int .i64 r.2.2.1, .int .i64 r.2.2.2]) ∧ Below w.heap.size w w' ∧ IsRus w' A Rs ∧ Rs.map rm = r.1 ∧ r.1.length ≤ c ∧ c ≤ 9223372036854775807
theorem RetPs.no {w w' : World} {r : List Ru × Nat × Int × Int} {a : Nat} {x y er : Int} (h : r = ([], a, y, er)) (hx : x = (a : Int)) (hb : Below w.heap.size w w') : RetPs w r (.returned (.tuple #[.slice none 0 0, .int .i64 x, .int .i64 y, .int .i64 er])) w' := by
  subst h hx
  exact ⟨none, 0, [], rfl, hb, ⟨Reads.none_, fun x hx => by cases hx⟩, rfl, by simp, by omega⟩
theorem t9_map_at {m : List Tok} {k : Nat} (hk : k < m.length) : (m.map t9)[k]'(by simpa using hk) = t9 m[k] := List.getElem_map ..
end Go.Proofs.YtcopnpllaoahaaaGreatDoor
namespace Go.Proofs.YtcopnpllaoahaaaGreatDoor
open Go.RowKit
section
variable {m : List Tok} {rest : List (List Tok)} {i q : Nat} {acc : List Ru} {ru : Ru} {e : Int}
theorem rdS_nil (h : m = []) : rdS (m :: rest) i acc = rdS rest (i + 1) acc := by rw [rdS, if_pos h]
theorem rdS_last (h : m ≠ []) (hr : ruK (m.map t9) = (ru, q, e)) (he : e ≠ 0) (hq : q = m.length) {j : Nat} (hj : j < m.length) (hj1 : j + 1 = m.length) : rdS (m :: rest) i acc = ([], i + 1, ((m[j].2.2 : Nat) : Int), e) := by
  rw [rdS, if_neg h, hr]
  simp only
  rw [if_pos he, if_pos hq]
  have : m.getLastD ((0, 0, [], noK), 0, 0) = m[j] := by
    rw [List.getLastD_eq_getLast?, List.getLast?_eq_getElem?, ← hj1, Nat.add_sub_cancel, List.getElem?_eq_getElem hj]; rfl
  rw [this]
theorem rdS_mid (h : m ≠ []) (hr : ruK (m.map t9) = (ru, q, e)) (he : e ≠ 0) (hq : q < m.length) : rdS (m :: rest) i acc = ([], i + 1, ((m[q].2.1 : Nat) : Int), e) := by
  rw [rdS, if_neg h, hr]
  simp only
  rw [if_pos he, if_neg (by omega)]
  have : m.getD q ((0, 0, [], noK), 0, 0) = m[q] := by
    rw [List.getD_eq_getElem?_getD, List.getElem?_eq_getElem hq]; rfl
  rw [this]
theorem rdS_full (h : m ≠ []) (hr : ruK (m.map t9) = (ru, q, 0)) (ha : acc.length = 64) : rdS (m :: rest) i acc = ([], i + 1, 0, 3) := by
  rw [rdS, if_neg h, hr]
  simp only
  rw [if_neg (by simp), if_pos ha]
theorem rdS_next (h : m ≠ []) (hr : ruK (m.map t9) = (ru, q, 0)) (ha : acc.length ≠ 64) : rdS (m :: rest) i acc = rdS rest (i + 1) (acc ++ [ru]) := by
  rw [rdS, if_neg h, hr]
  simp only
  rw [if_neg (by simp), if_neg ha]
end
set_option maxRecDepth 100000 in
set_option maxHeartbeats 8000000 in
theorem parse_ (s : ByteArray) (r : List Ru × Nat × Int × Int) (hr : Hid (psK s.data.toList = r)) (hs : s.size ≤ 140737488351232) (w : World) (hE : Esc w) (hM : ML w) (hH : Hd w) :
    Calls Tryz.prog 9 #[.string s] w (RetPs w r) := by
  obtain ⟨ls, li, at_, er, hl⟩ : ∃ a b c d, llK s.data.toList = (a, b, c, d) := ⟨_, _, _, _, rfl⟩
  have hp := hr.out
  rw [psK_ll, hl] at hp
  simp only at hp
  have HL := Lib.hid (lines_ s _ (Lib.hid hl) hs w hE hM)
  have hl80 : ∀ m ∈ ls, m.length ≤ 80 := fun m hm => by
    unfold llK at hl
    split at hl
    · rw [← (Prod.mk.inj hl).1] at hm; cases hm
    split at hl
    · rw [← (Prod.mk.inj hl).1] at hm; cases hm
    split at hl
    · rw [← (Prod.mk.inj hl).1] at hm; cases hm
    split at hl
    · rw [← (Prod.mk.inj hl).1] at hm; cases hm
    · rw [← (Prod.mk.inj hl).1] at hm
      obtain ⟨x, _, rfl⟩ := List.mem_map.1 hm
      exact lineK_len x
  have hln : ls.length ≤ 5000 := by
    have hl' := hl
    unfold llK at hl'
    split at hl'
    · rw [← (Prod.mk.inj hl').1]; simp
    rename_i h4
    split at hl'
    · rw [← (Prod.mk.inj hl').1]; simp
    split at hl'
    · rw [← (Prod.mk.inj hl').1]; simp
    split at hl'
    · rw [← (Prod.mk.inj hl').1]; simp
    · rw [← (Prod.mk.inj hl').1, List.length_map]
      have := (pcs_len s.data.toList []).1
      omega
  have HH := Lib.hid hH
  have H80 := Lib.hid hl80
  by_cases he : er = 0
  case neg =>
    rw [if_pos (by simpa using he)] at hp
    have HN := Lib.hid hp.symm
    have e1 : (er != 0) = true := by simpa using he
    clear hp hl hr hE hM hH he hl80
    go_enter Tryz.func9, Tryz.ntmps9
    go_wp2_with fail
    (with_reducible refine (HL.out).mono ?_); rintro e w1 ⟨A, c, Ls, rfl, hb1, _⟩
    go_wp2
    exact bodyPost_ret (v := .tuple #[.slice none 0 0, .int .i64 (li : Int), .int .i64 (at_ : Int), .int .i64 er]) (by simp [results, go_sem]) rfl (RetPs.no HN.out rfl hb1)
  subst he
  rw [if_neg (by simp)] at hp
  have HP := Lib.hid hp.symm
  clear hp hl hr hE hM hH hl80
  go_enter Tryz.func9, Tryz.ntmps9
  go_wp2_with fail
  (with_reducible refine (HL.out).mono ?_); rintro e w1 ⟨A0, c0, Ls, rfl, hb1, hLs, hmap, hlc, hcm⟩
  have hmap : Ls.map (fun x => x.2.2) = ls := hmap
  have hlen : Ls.length = ls.length := by rw [← hmap, List.length_map]
  have HB1 := Lib.hid hb1
  have HLs := Lib.hid hLs
  have HMap := Lib.hid hmap
  have HLen := Lib.hid hlen
  clear hb1 hLs hmap hlc hcm hlen HL
  go_wp2
  go_loopw [2, 26] (fun v u wr => ∃ (k : Nat) (Rs : List Rm), k ≤ ls.length ∧ u = .int .i64 (k : Int) ∧ RuS w1 v Rs wr ∧ Rs.length ≤ 64 ∧ Hid (r = rdS (ls.drop k) k (Rs.map rm))) (fun _ u _ => ls.length - (intOf u).toNat)
  case atStart => exact ⟨0, [], Nat.zero_le _, rfl, RuS.start _, by simp, Lib.hid (by rw [List.drop_zero]; exact HP.out)⟩
  case round =>
    obtain ⟨k, Rs, hk, rfl, hX, h64, hN⟩ := hrel
    obtain ⟨AR, cR, rfl, _, hcR, hcm⟩ := own_sl hX.own
    by_cases hlt : k < ls.length
    case neg =>
      have i2 : ¬ ((k : Int) < (ls.length : Int)) := by omega
      have hre : r = (Rs.map rm, 0, 0, 0) := by rw [hN.out, List.drop_of_length_le (by omega)]; rfl
      have HRe := Lib.hid hre
      have HX := Lib.hid hX
      clear hX hre hN HP
      go_wp2
      refine bodyPost_ret (v := .tuple #[.slice AR Rs.length cR, .int .i64 0, .int .i64 0, .int .i64 0]) (by simp [results, go_sem]) rfl ?_
      rw [HRe.out]
      exact ⟨AR, cR, Rs, by simp, bt HB1.out HX.out.bel, HX.out.done, rfl, by simpa using hcR, hcm⟩
    have i2 : (k : Int) < (ls.length : Int) := by omega
    have i0 : (0 : Int) ≤ (k : Int) := by omega
    have hkL : k < Ls.length := by rw [HLen.out]; exact hlt
    obtain ⟨bP, oP, rfl, hbP, a0, hlt9⟩ := (HLs.out.go hX.bel).at hkL
    have hmk : ls[k] = Ls[k].2.2 := by
      have e := HMap.out
      subst e
      simp
    have hdr := List.drop_eq_getElem_cons hlt
    rw [hmk] at hdr
    have h80 := H80.out _ (List.getElem_mem hlt)
    rw [hmk] at h80
    obtain ⟨⟨Ak, ck, m⟩, hx⟩ : ∃ x, Ls[k] = x := ⟨_, rfl⟩
    rw [hx] at a0 hdr hlt9 h80
    simp only at a0 hdr h80
    have hN2 := hN.out
    rw [hdr] at hN2
    by_cases hm : m = []
    · rw [rdS_nil hm] at hN2
      subst hm
      have HN2 := Lib.hid hN2
      have HX := Lib.hid hX
      clear hX hN2 hN hx hmk hdr hlt9 HP
      go_wp2
      go_roundw
      case rel => exact ⟨k + 1, Rs, by omega, by go_num, HX.out, h64, HN2⟩
      case measure => (simp [intOf]) <;> omega
    have hm0 : 0 < m.length := List.length_pos_iff.2 hm
    have i3 : ((m.length : Int) == 0) = false := by rw [beq_eq_false_iff_ne]; omega
    obtain ⟨ru, q, e, hru⟩ : ∃ a b c, ruK (m.map t9) = (a, b, c) := ⟨_, _, _, rfl⟩
    have hRd : ∀ W, Reads W W.heap.size 9 Ak m.length (tks (m.map t9)) → Hd W → Calls Tryz.prog 20 #[.slice Ak m.length ck] W (RetRd W (ru, q, e)) := fun W h1 h2 => by
      have := sread_ (m.map t9) W Ak ck (by rw [List.length_map]; exact h1) (by rw [List.length_map]; omega) _ (Lib.hid hru) h2
      rwa [List.length_map] at this
    have HRd := Lib.hid (hRd wr hlt9.rd (HH.out.below (bt HB1.out hX.bel)))
    have HT := Lib.hid hlt9.rd
    have HX := Lib.hid hX
    have hbPw : bP < wr.heap.size := hbP
    clear hRd hX hlt9 hx hmk hN HP
    by_cases he : e = 0
    · subst he
      by_cases h6 : Rs.length = 64
      · rw [rdS_full hm hru (by simpa using h6)] at hN2
        have HN2 := Lib.hid hN2
        have i4 : ((Rs.length : Int) == 64) = true := by rw [h6]; rfl
        clear hN2 hdr
        go_wp2_with fail
        (with_reducible refine (HRd.out).mono ?_); rintro e w3 ⟨A5, c5, rfl, hb3, ho3⟩
        have HB3 := Lib.hid (ba (bt (bt HB1.out HX.out.bel) hb3) (b1O (.int .i64 ru.1) (.slice A5 ru.2.length c5)))
        clear hb3 ho3
        go_wp2
        exact bodyPost_ret (v := .tuple #[.slice none 0 0, .int .i64 ((k : Int) + 1), .int .i64 0, .int .i64 3]) (by simp [results, go_sem]) rfl (RetPs.no HN2.out (by omega) HB3.out)
      rw [rdS_next hm hru (by simpa using h6)] at hN2
      have HN2 := Lib.hid hN2
      have i4 : ((Rs.length : Int) == 64) = false := by rw [beq_eq_false_iff_ne]; omega
      obtain ⟨id, es⟩ := ru
      clear hN2 hdr
      go_wp2_with fail
      (with_reducible refine (HRd.out).mono ?_); rintro e w3 ⟨A5, c5, rfl, hb3, ho3⟩
      have hX3 := (HX.out.go hb3).go ((Below.refl _ _).alloc (Nat.le_refl _) (b1O (.int .i64 id) (.slice A5 es.length c5)))
      have ho4 := own_base (own_below ho3 ((Below.refl w3.heap.size w3).alloc (Nat.le_refl _) (b1O (.int .i64 id) (.slice A5 es.length c5)))) HX.out.bel.size
      have hbx := alloc1_new w3 (b1O (.int .i64 id) (.slice A5 es.length c5))
      have HX3 := Lib.hid hX3
      have HO4 := Lib.hid ho4
      clear hb3 ho3 hX3 ho4 a0
      go_upto_region 9 with fail
      generalize w3.alloc (b1O (.int .i64 id) (.slice A5 es.length c5)) = W4 at *
      generalize w3.heap.size = R4 at *
      obtain ⟨⟨d0, d1⟩, _, l1⟩ := bx2c hbx
      have hX4 := HX3.out.go ((Below.refl _ _).alloc (Nat.le_refl _) (b1O (.int .i64 id) (.slice A5 es.length c5)))
      have ho5 := own_below HO4.out ((Below.refl W4.heap.size W4).alloc (Nat.le_refl _) (b1O (.int .i64 id) (.slice A5 es.length c5)))
      have hown4 := hX4.own
      have hbel4 := hX4.bel
      have HX4 := Lib.hid hX4
      have HO5 := Lib.hid ho5
      clear hX4 ho5 HX3 HO4 hbx
      go_wp2_with (at_builtin; refine wpList_ap rmEl (w0 := w1) hown4 hbel4 [.int .i64 id, .slice A5 es.length c5] (by exact alloc1_new _ _) ?_)
      intro g7 cap7 w7 hO7 hb7 hg7
      have HX7 := Lib.hid (HX4.out.step HO5.out hO7 rfl hb7 hg7)
      clear hO7 hb7 hg7 hown4 hbel4 d0 d1 l1
      go_wp2
      go_roundw
      case rel => exact ⟨k + 1, Rs ++ [(id, A5, c5, es)], by omega, by go_num, HX7.out, by rw [List.length_append]; simp; omega, Lib.hid (by rw [List.map_append]; exact HN2.out)⟩
      case measure => (simp [intOf]) <;> omega
    · have e1 : (e != 0) = true := by simpa using he
      have hqm := ruK_place hru he
      rw [List.length_map] at hqm
      by_cases hq : q = m.length
      · obtain ⟨j, hj⟩ : ∃ j, j + 1 = m.length := ⟨m.length - 1, by omega⟩
        have hjl : j < m.length := by omega
        rw [rdS_last hm hru he hq hjl hj] at hN2
        have HN2 := Lib.hid hN2
        have i4 : ((q : Int) == (m.length : Int)) = true := by rw [hq]; simp
        have i5 : (q : Int) - 1 = (j : Int) := by omega
        have i6 : (j : Int) < (m.length : Int) := by omega
        have i7 : (0 : Int) ≤ (j : Int) := by omega
        clear hN2 hdr hru he hqm hq hj
        go_wp2_with fail
        (with_reducible refine (HRd.out).mono ?_); rintro e' w3 ⟨A5, c5, rfl, hb3, ho3⟩
        have HB3 := Lib.hid (ba (bt (bt HB1.out HX.out.bel) hb3) (b1O (.int .i64 ru.1) (.slice A5 ru.2.length c5)))
        have hT3 : Reads (w3.alloc (b1O (.int .i64 ru.1) (.slice A5 ru.2.length c5))) (w3.alloc (b1O (.int .i64 ru.1) (.slice A5 ru.2.length c5))).heap.size 9 Ak (m.map t9).length (tks (m.map t9)) := by
          rw [List.length_map]; exact (HT.out.go hb3).al _
        obtain ⟨bk, off, rfl, hbk, t0, t1, t2, t3, t4, t5, t6, t7, t8⟩ := hT3.at9 (k := j) (by rw [List.length_map]; exact hjl)
        rw [t9_map_at hjl] at t2
        have tt : (w3.alloc (b1O (.int .i64 ru.1) (.slice A5 ru.2.length c5))).cell? ⟨bk, off + j * 9 + 2, none⟩ = some (.int .i64 ((m[j].2.2 : Nat) : Int)) := t2
        generalize ((m[j].2.2 : Nat) : Int) = X at *
        clear hb3 ho3 a0 hbPw t0 t1 t2 t3 t4 t5 t6 t7 t8 hT3
        go_upto_region 9 with fail
        generalize w3.alloc (b1O (.int .i64 ru.1) (.slice A5 ru.2.length c5)) = W4 at *
        go_wp2
        go_quiet (fail)
        go_wp2
        exact bodyPost_ret (v := .tuple #[.slice none 0 0, .int .i64 ((k : Int) + 1), .int .i64 X, .int .i64 e]) (by simp [results, go_sem]) rfl (RetPs.no HN2.out (by omega) (bd HB3.out _))
      · have hql : q < m.length := by omega
        rw [rdS_mid hm hru he hql] at hN2
        have HN2 := Lib.hid hN2
        have i4 : ((q : Int) == (m.length : Int)) = false := by rw [beq_eq_false_iff_ne]; omega
        have i6 : (q : Int) < (m.length : Int) := by omega
        have i7 : (0 : Int) ≤ (q : Int) := by omega
        clear hN2 hdr hru he hqm hq
        go_wp2_with fail
        (with_reducible refine (HRd.out).mono ?_); rintro e' w3 ⟨A5, c5, rfl, hb3, ho3⟩
        have HB3 := Lib.hid (ba (bt (bt HB1.out HX.out.bel) hb3) (b1O (.int .i64 ru.1) (.slice A5 ru.2.length c5)))
        have hT3 : Reads (w3.alloc (b1O (.int .i64 ru.1) (.slice A5 ru.2.length c5))) (w3.alloc (b1O (.int .i64 ru.1) (.slice A5 ru.2.length c5))).heap.size 9 Ak (m.map t9).length (tks (m.map t9)) := by
          rw [List.length_map]; exact (HT.out.go hb3).al _
        obtain ⟨bk, off, rfl, hbk, t0, t1, t2, t3, t4, t5, t6, t7, t8⟩ := hT3.at9 (k := q) (by rw [List.length_map]; exact hql)
        rw [t9_map_at hql] at t1
        have tt : (w3.alloc (b1O (.int .i64 ru.1) (.slice A5 ru.2.length c5))).cell? ⟨bk, off + q * 9 + 1, none⟩ = some (.int .i64 ((m[q].2.1 : Nat) : Int)) := t1
        generalize ((m[q].2.1 : Nat) : Int) = X at *
        clear hb3 ho3 a0 hbPw t0 t1 t2 t3 t4 t5 t6 t7 t8 hT3
        go_upto_region 9 with fail
        generalize w3.alloc (b1O (.int .i64 ru.1) (.slice A5 ru.2.length c5)) = W4 at *
        go_wp2
        go_quiet (fail)
        go_wp2
        exact bodyPost_ret (v := .tuple #[.slice none 0 0, .int .i64 ((k : Int) + 1), .int .i64 X, .int .i64 e]) (by simp [results, go_sem]) rfl (RetPs.no HN2.out (by omega) (bd HB3.out _))
end Go.Proofs.YtcopnpllaoahaaaGreatDoor
