/- SyntaxBack: Parse of Print are the rules; Read of Tokens is the rule. No condition. -/
import Derived.Test.YtcopnpllaoahaaaGreatDoorSyntaxPrints
namespace Go.Proofs.YtcopnpllaoahaaaGreatDoor
open Go.RowKit
theorem prA_err {l : List Ru} {t : List UInt8} {i : Nat} {k e : Int} (h : prA l = (t, i, k, e)) (he : e ≠ 0) : t = [] := by
  unfold prA at h
  split at h
  · exact (Prod.mk.inj h).1.symm
  · split at h
    · exact (Prod.mk.inj h).1.symm
    · split at h
      · exact (Prod.mk.inj h).1.symm
      · exact absurd (Prod.mk.inj (Prod.mk.inj (Prod.mk.inj h).2).2).2.symm he
theorem sameF_refl (l : List T9) : sameL false l l = true :=
  sameL_true rfl fun k h1 _ => by
    show t9Q _ _ = true
    exact t9Q_iff.2 ⟨rfl, rfl, rfl, rfl, rfl, sQ_refl _⟩
theorem prA_single {r : Ru} (h : (ruE r).2 = 0) : prA [r] = (txR [r], 0, 0, 0) := by
  have h5 := (ruE_ok h).2.2.2.2
  rcases hq : prnL (ruT r) with ⟨s, q, er⟩
  rw [hq] at h5
  simp only at h5
  subst h5
  have hs := prn_size hq
  have hl : (txR [r]).length ≤ 4000 := by
    unfold txR
    simp only [List.flatMap_cons, List.flatMap_nil, List.append_nil]
    rw [hq, List.length_append]
    have : s.data.toList.length = s.size := by simp
    simp only [List.length_singleton]
    omega
  unfold prA
  rw [if_neg (by simp)]
  have hr : rusE [r] 0 = none := by rw [rusE, if_neg (by simpa using h)]; rfl
  rw [hr]
  simp only
  rw [if_neg (by omega)]
theorem read_back {r : Ru} (h : (ruE r).2 = 0) : ∃ r', ruK (ruT r) = (r', 0, 0) ∧ ruQ r' r = true := by
  obtain ⟨h1, h2, h3, h4, _⟩ := ruE_ok h
  exact ru_back h1 h2 h3 h4 (sameF_refl _)
/-- since a world only what is new has turned, and two rules lie there -/
abbrev P6 (W0 : World) (g : Nat) (a b : Value) (h o : Nat) (c d : Value) (W : World) : Prop := Below W0.heap.size W0 W ∧ g < W0.heap.size ∧ h < W0.heap.size ∧ W.cell? ⟨g, 0, none⟩ = some a ∧ W.cell? ⟨g, 1, none⟩ = some b ∧ W.cell? ⟨h, o, none⟩ = some c ∧ W.cell? ⟨h, o + 1, none⟩ = some d
section
variable {W0 W W' : World} {g h o : Nat} {a b c d : Value}
theorem P6.drew (p : P6 W0 g a b h o c d W) : P6 W0 g a b h o c d W.drew := ⟨p.1.drew, p.2⟩
theorem P6.go (p : P6 W0 g a b h o c d W) (hb : Below W.heap.size W W') : P6 W0 g a b h o c d W' := by
  obtain ⟨h1, h2, h3, h4, h5, h6, h7⟩ := p
  have hg := Nat.lt_of_lt_of_le h2 h1.size
  have hh := Nat.lt_of_lt_of_le h3 h1.size
  exact ⟨bt h1 hb, h2, h3, (hb.cell (p := ⟨g, 0, none⟩) hg).trans h4, (hb.cell (p := ⟨g, 1, none⟩) hg).trans h5, (hb.cell (p := ⟨h, o, none⟩) hh).trans h6, (hb.cell (p := ⟨h, o + 1, none⟩) hh).trans h7⟩
end
set_option maxRecDepth 100000 in
set_option maxHeartbeats 8000000 in
theorem syntaxBack_walk (w : World) (A : Option Addr) (c : Nat) (L : List Rm) (hI : IsRus w A L) (hS : ∀ r ∈ L, ∀ x ∈ r.2.2.2, x.2.1.size ≤ 140737488351232) (hlc : L.length ≤ c ∧ c ≤ 9223372036854775807) (hL : LxW w) (hH : Hd w) (hM : ML w) :
    Calls Tryz.prog 7 #[.slice A L.length c] w fun e w' => e = .returned (.bool true) ∧ Below w.heap.size w w' := by
  have HW := Lib.hid (show SyW w from ⟨hL, hH, hM⟩)
  have HSh := Lib.hid shown_
  have HI := Lib.hid hI
  have HFar := Lib.hid (sfar_ L w A c hI hS)
  have hlm : L.length ≤ 9223372036854775807 := Nat.le_trans hlc.1 hlc.2
  rcases hp : prA (L.map rm) with ⟨t, i, k, er⟩
  have HP := Lib.hid (fun W (hW : Below w.heap.size w W) => sprint_ L W A c (HI.out.go hW) (HW.out.below hW).hd (HW.out.below hW).lx t i k er (Lib.hid hp))
  have Hp := Lib.hid hp
  clear hI hS hL hH hM hp hlc
  go_enter Tryz.func7, Tryz.ntmps7
  go_wp2_with fail
  (with_reducible refine (HFar.out).mono ?_); rintro e w1 ⟨b, rfl, hb1⟩
  cases b
  case true =>
    go_wp2_with fail
    (with_reducible refine (HSh.out _ (HW.out.below hb1)).mono ?_); rintro e w2 ⟨rfl, hb2⟩
    have hb3 := bt hb1 hb2
    clear hb1 hb2
    go_wp2
    go_ret
    exact ⟨rfl, hb3⟩
  case false =>
  go_wp2_with fail
  (with_reducible refine (HP.out _ hb1).mono ?_); rintro e w2 ⟨rfl, hb2⟩
  have hb3 := bt hb1 hb2
  clear hb1 hb2 HP
  by_cases he : er = 0
  case neg =>
    have e1 : (er != 0) = true := by simpa using he
    have ht := prA_err Hp.out he
    subst ht
    clear he
    go_wp2_with fail
    (with_reducible refine (HSh.out _ (HW.out.below hb3)).mono ?_); rintro e w4 ⟨rfl, hb4⟩
    have hb5 := bt hb3 hb4
    clear hb3 hb4
    go_wp2
    go_ret
    exact ⟨rfl, hb5⟩
  subst he
  obtain ⟨z1, z2, z3, h64, hok, h4, m, hm, hmq⟩ := parse_print Hp.out
  clear z1 z2 z3
  have hTs : (⟨t.toArray⟩ : ByteArray).size ≤ 140737488351232 := by
    have e : (⟨t.toArray⟩ : ByteArray).size = t.length := (by show t.toArray.size = _; simp)
    omega
  have HPs := Lib.hid (fun W (hW : SyW W) => ps_ ⟨t.toArray⟩ t rfl hTs m 0 0 0 (Lib.hid hm) W hW)
  have HOk := Lib.hid (show ∀ r ∈ L, (ruE (rm r)).2 = 0 from fun r hr => hok _ (List.mem_map.2 ⟨r, hr, rfl⟩))
  have HMq := Lib.hid hmq
  clear hok h4 hm hmq hTs h64
  go_wp2_with fail
  (with_reducible refine (HPs.out _ (HW.out.below hb3)).mono ?_); rintro e w4 ⟨A4, c4, R4, rfl, hb4, hI4, hm4, hl4, hc4⟩
  have hb5 := bt hb3 hb4
  have HA := Lib.hid (allR_ R4 L w4 A4 A c4 c hI4 (HI.out.go hb5) (by rw [hl4]; exact Nat.le_trans hc4.1 hc4.2) true (Lib.hid (by rw [hm4]; exact HMq.out)))
  clear hb3 hb4 hI4 hm4 hl4 hc4
  go_wp2_with fail
  (with_reducible refine (HA.out).mono ?_); rintro e w6 ⟨rfl, hb6⟩
  have HB := Lib.hid (bt hb5 hb6)
  clear hb5 hb6
  go_wp2
  go_loopw [9] (fun u wr => ∃ n : Nat, n ≤ L.length ∧ u = .int .i64 (n : Int) ∧ Below w.heap.size w wr) (fun u _ => L.length - (intOf u).toNat)
  case atStart => exact ⟨0, Nat.zero_le _, rfl, HB.out⟩
  case round =>
    obtain ⟨n, hn, rfl, hbl⟩ := hrel
    have HBe := Lib.hid hbl
    by_cases hlt : n < L.length
    case neg =>
      have i1 : ¬ ((n : Int) < (L.length : Int)) := by omega
      clear hbl
      go_wp2_with fail
      (with_reducible refine (HSh.out _ (HW.out.below HBe.out)).mono ?_); rintro e w2 ⟨rfl, hb2⟩
      have hb3 := bt HBe.out hb2
      clear hb2
      go_wp2
      go_ret
      exact ⟨rfl, hb3⟩
    have i1 : (n : Int) < (L.length : Int) := by omega
    have i0 : (0 : Int) ≤ (n : Int) := by omega
    obtain ⟨bk, off, rfl, hbk, d0, d1, hIr⟩ := (HI.out.go hbl).at hlt
    have hE := HOk.out _ (List.getElem_mem hlt)
    obtain ⟨⟨id, A1, c1, es⟩, hr⟩ : ∃ r, L[n] = r := ⟨_, rfl⟩
    rw [hr] at d0 d1 hIr hE
    simp only at d0 d1
    obtain ⟨⟨id', es'⟩, hk1, hk2⟩ := read_back hE
    have hlen := tkR_len (prA_single hE)
    have htk : tkR (rm (id, A1, c1, es)) 0 = ruT (id, es) := if_pos rfl
    have hT := stokens_ (id, A1, c1, es) wr hIr (HW.out.below hbl).hd (HW.out.below hbl).lx (txR [rm (id, A1, c1, es)]) 0 0 0 (Lib.hid (prA_single hE))
    rw [htk] at hT hlen
    have hRd := fun (W : World) (A : Option Addr) (c : Nat) hR hH => sread_ (ruT (id, es)) W A c hR hlen ((id', es'), 0, 0) (Lib.hid hk1) hH
    have hbkw : bk < wr.heap.size := hbk
    generalize ruT (id, es) = ts at *
    have HT := Lib.hid hT
    have HR := Lib.hid hRd
    have HIr := Lib.hid hIr
    have HK2 := Lib.hid hk2
    clear hT hRd hIr hk1 hk2 hlen htk hE hr hbl
    go_wp2_with fail
    (with_reducible refine (HT.out).mono ?_); rintro e w3 ⟨A3, c3, rfl, hb3, hr3, _⟩
    have f0 := (hb3.cell (p := ⟨bk, off + n * 2, none⟩) hbkw).trans d0
    have f1 := (hb3.cell (p := ⟨bk, off + n * 2 + 1, none⟩) hbkw).trans d1
    have HB3 := Lib.hid hb3
    have HR3 := Lib.hid hr3
    clear d0 d1 hb3 hr3
    go_wp2_with fail
    (with_reducible refine (HR.out _ _ _ HR3.out (HW.out.below (bt HBe.out HB3.out)).hd).mono ?_); rintro e w4 ⟨A4, c4', rfl, hb4, ho4⟩
    obtain ⟨_, _, e5, hr5, g1, g2⟩ := own_sl ho4
    cases e5
    have hB5 := ba (bt HB3.out hb4) (bxO id' A4 es'.length c4')
    have f2 := ((hb4.alloc hb4.size (bxO id' A4 es'.length c4')).cell (p := ⟨bk, off + n * 2, none⟩) (Nat.lt_of_lt_of_le hbkw HB3.out.size)).trans f0
    have f3 := ((hb4.alloc hb4.size (bxO id' A4 es'.length c4')).cell (p := ⟨bk, off + n * 2 + 1, none⟩) (Nat.lt_of_lt_of_le hbkw HB3.out.size)).trans f1
    have hr7 : IsRu (w4.alloc (bxO id' A4 es'.length c4')) (id', A4, c4', es') := ⟨hr5.al _, g1, g2⟩
    have hI7 := (HIr.out.go (bt HB3.out hb4)).go ((Below.refl w4.heap.size w4).alloc (Nat.le_refl _) (bxO id' A4 es'.length c4'))
    have HSm := Lib.hid (fun W (hW : P6 (w4.alloc (bxO id' A4 es'.length c4')) w4.heap.size (.int .i64 id') (.slice A4 es'.length c4') bk (off + n * 2) (.int .i64 id) (.slice A1 es.length c1) W) => sameR_ (id', A4, c4', es') (id, A1, c1, es) W (hr7.go hW.1) (hI7.go hW.1) true (Lib.hid HK2.out) (Nat.le_trans g1 g2))
    have HB5 := Lib.hid (bt HBe.out hB5)
    have hbx := alloc1_new w4 (bxO id' A4 es'.length c4')
    have hbk5 : bk < (w4.alloc (bxO id' A4 es'.length c4')).heap.size := by have a := HB3.out.size; have b := hb4.size; simp; omega
    clear f0 f1 hb4 ho4 hr5 g1 g2 hB5 hr7 hI7
    go_upto_region 14 with fail
    generalize w4.alloc (bxO id' A4 es'.length c4') = W5 at *
    generalize w4.heap.size = R5 at *
    obtain ⟨⟨b0, b1⟩, _, l1⟩ := bx2 hbx
    have hT : P6 W5 R5 (.int .i64 id') (.slice A4 es'.length c4') bk (off + n * 2) (.int .i64 id) (.slice A1 es.length c1) W5 := ⟨Below.refl _ _, l1, hbk5, b0, b1, f2, f3⟩
    clear b0 b1 l1 f2 f3 hbx
    go_region_held3 (fun w' => P6 W5 R5 (.int .i64 id') (.slice A4 es'.length c4') bk (off + n * 2) (.int .i64 id) (.slice A1 es.length c1) w')
      (with_reducible (first | exact P6.drew hT | exact P6.go (by assumption) hb7 | assumption))
      ((go_at_call 21; (with_reducible refine (HSm.out _ (by assumption)).mono ?_); rintro e w7 ⟨rfl, hb7⟩))
    all_goals
      have hP7 : P6 W5 R5 (.int .i64 id') (.slice A4 es'.length c4') bk (off + n * 2) (.int .i64 id) (.slice A1 es.length c1) w7 := by assumption
      have HB7 := Lib.hid (bt HB5.out hP7.1)
      clear hP7 hT hb7
      go_wp2
      go_roundw
      case rel => exact ⟨n + 1, by omega, by go_num, HB7.out⟩
      case measure => (simp [intOf]) <;> omega
end Go.Proofs.YtcopnpllaoahaaaGreatDoor
