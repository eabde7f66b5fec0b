/- ScriptKnown: the law returns true. No condition. -/
import Derived.Test.YtoogemdcmnjpnaaDoorS25
namespace Go.Proofs.YtoogemdcmnjpnaaDoor
open Go.RowKit
/-- what stands while the answer is put together -/
structure KnS (w : World) (AX AS AC AB AO : Option Addr) (w' : World) : Prop where
  bel : Below w.heap.size w w'
  x : Reads w' w'.heap.size 2 AX 5 (shs exX)
  s : Reads w' w'.heap.size 1 AS 1 [.string ⟨#[97, 98, 99]⟩]
  c : Reads w' w'.heap.size 2 AC 6 (scs exC)
  b : Reads w' w'.heap.size 2 AB 5 (scs exL)
  o : Reads w' w'.heap.size 2 AO 1 (scs [(1, ⟨#[10]⟩)])
theorem KnS.go {w w1 w2 : World} {AX AS AC AB AO : Option Addr} (h : KnS w AX AS AC AB AO w1) (hb : Below w1.heap.size w1 w2) : KnS w AX AS AC AB AO w2 := ⟨bt h.bel hb, h.x.go hb, h.s.go hb, h.c.go hb, h.b.go hb, h.o.go hb⟩
theorem KnS.al {w w1 : World} {AX AS AC AB AO : Option Addr} (h : KnS w AX AS AC AB AO w1) (o : Obj) : KnS w AX AS AC AB AO (w1.alloc o) := ⟨ba h.bel o, h.x.al o, h.s.al o, h.c.al o, h.b.al o, h.o.al o⟩
theorem KnS.drew {w w1 : World} {AX AS AC AB AO : Option Addr} (h : KnS w AX AS AC AB AO w1) : KnS w AX AS AC AB AO w1.drew := ⟨h.bel.drew, h.x, h.s, h.c, h.b, h.o⟩
/-- with the cells that are loaded -/
abbrev KnT (w : World) (AX AS AB AO : Option Addr) (b off : Nat) (w' : World) : Prop :=
  KnS w AX AS (some ⟨b, off, none⟩) AB AO w' ∧ w'.cell? ⟨b, off, none⟩ = some (.int .i64 1) ∧ w'.cell? ⟨b, off + 1, none⟩ = some (.string ⟨#[97]⟩) ∧ w'.cell? ⟨b, off + 2, none⟩ = some (.int .i64 1) ∧ w'.cell? ⟨b, off + 3, none⟩ = some (.string ⟨#[98, 99]⟩)
theorem KnT.of {w w' : World} {AX AS AB AO : Option Addr} {b off : Nat} (h : KnS w AX AS (some ⟨b, off, none⟩) AB AO w') : KnT w AX AS AB AO b off w' := by
  obtain ⟨b', off', hA, hb, hc⟩ := h.c.2 (by decide)
  injection hA with hA; injection hA with hA1 hA2; subst hA1 hA2
  exact ⟨h, hc 0 _ rfl, hc 1 _ rfl, hc 2 _ rfl, hc 3 _ rfl⟩
theorem KnT.go2 {w2 : World} {w w1 : World} {AX AS AB AO : Option Addr} {b off : Nat} (h : KnT w AX AS AB AO b off w1) (hb : Below w1.heap.size w1 w2) : KnT w AX AS AB AO b off w2 := KnT.of (h.1.go hb)
theorem KnT.al2 {w w1 : World} {AX AS AB AO : Option Addr} {b off : Nat} (h : KnT w AX AS AB AO b off w1) (o : Obj) : KnT w AX AS AB AO b off (w1.alloc o) := KnT.of (h.1.al o)
theorem KnT.drew2 {w w1 : World} {AX AS AB AO : Option Addr} {b off : Nat} (h : KnT w AX AS AB AO b off w1) : KnT w AX AS AB AO b off w1.drew := KnT.of h.1.drew
theorem KnT.rx {w w1 : World} {AX AS AB AO : Option Addr} {b off : Nat} (h : KnT w AX AS AB AO b off w1) : Reads w1 w1.heap.size 2 AX 5 (shs exX) := h.1.x
theorem KnT.rs {w w1 : World} {AX AS AB AO : Option Addr} {b off : Nat} (h : KnT w AX AS AB AO b off w1) : Reads w1 w1.heap.size 1 AS 1 [.string ⟨#[97, 98, 99]⟩] := h.1.s
theorem KnT.rb {w w1 : World} {AX AS AB AO : Option Addr} {b off : Nat} (h : KnT w AX AS AB AO b off w1) : Reads w1 w1.heap.size 2 AB 5 (scs exL) := h.1.b
theorem KnT.ro {w w1 : World} {AX AS AB AO : Option Addr} {b off : Nat} (h : KnT w AX AS AB AO b off w1) : Reads w1 w1.heap.size 2 AO 1 (scs [(1, ⟨#[10]⟩)]) := h.1.o
theorem KnT.bel {w w1 : World} {AX AS AB AO : Option Addr} {b off : Nat} (h : KnT w AX AS AB AO b off w1) : Below w.heap.size w w1 := h.1.bel
theorem kn_same (w : World) (A A' : Option Addr) (c c' : Nat) (h : Reads w w.heap.size 2 A 5 (shs exX)) (h' : Reads w w.heap.size 2 A' 5 (shs exX)) :
    Calls Tryd.prog 24 #[.slice A 5 c, .slice A' 5 c'] w fun e w' => e = .returned (.bool true) ∧ Below w.heap.size w w' := shape_same w A A' c c' exX h h' (by decide)
theorem kn_strs (w : World) (A A' : Option Addr) (c c' : Nat) (h : Reads w w.heap.size 1 A 1 [.string ⟨#[97, 98, 99]⟩]) (h' : Reads w w.heap.size 1 A' 1 [.string ⟨#[97, 98, 99]⟩]) :
    Calls Tryd.prog 19 #[.slice A 1 c, .slice A' 1 c'] w fun e w' => e = .returned (.bool true) ∧ Below w.heap.size w w' := strings_same w A A' c c' [⟨#[97, 98, 99]⟩] h h' (by decide)
theorem kn_eq5 (w : World) (A A' : Option Addr) (c c' : Nat) (h : Reads w w.heap.size 2 A 5 (scs exL)) (h' : Reads w w.heap.size 2 A' 5 (scs exL)) :
    Calls Tryd.prog 18 #[.slice A 5 c, .slice A' 5 c'] w fun e w' => e = .returned (.bool true) ∧ Below w.heap.size w w' := equal_same w A A' c c' exL h h' (by decide)
theorem kn_eq1 (w : World) (A A' : Option Addr) (c c' : Nat) (h : Reads w w.heap.size 2 A 1 (scs [(1, ⟨#[10]⟩)])) (h' : Reads w w.heap.size 2 A' 1 (scs [(1, ⟨#[10]⟩)])) :
    Calls Tryd.prog 18 #[.slice A 1 c, .slice A' 1 c'] w fun e w' => e = .returned (.bool true) ∧ Below w.heap.size w w' := equal_same w A A' c c' [(1, ⟨#[10]⟩)] h h' (by decide)
theorem kn_eq (w : World) (A A' : Option Addr) (c c' n : Nat) (l : List Sc) (h : Reads w w.heap.size 2 A n (scs l)) (h' : Reads w w.heap.size 2 A' n (scs l)) (hn : n = l.length) (hl : l.length ≤ 100) :
    Calls Tryd.prog 18 #[.slice A n c, .slice A' n c'] w fun e w' => e = .returned (.bool true) ∧ Below w.heap.size w w' := by
  subst hn
  exact equal_same w A A' c c' l h h' (by omega)
theorem exL2 : scs (exL.take 2) = [.int .i64 1, .string ⟨#[97, 98, 99]⟩, .int .i64 2, .string ⟨#[]⟩] := rfl
set_option maxRecDepth 100000 in
set_option maxHeartbeats 4000000 in
theorem scriptKnown_walk (w : World) (hE : Esc w) (hM : ML w) :
    Calls Tryd.prog 11 #[] w fun e w' => e = .returned (.bool true) ∧ Below w.heap.size w w' := by
  go_enter Tryd.func11, Tryd.ntmps11
  go_wp2_with fail
  (with_reducible refine (example_ _).mono ?_); rintro e w1 ⟨⟨g1, rfl, h1⟩, hb1⟩
  go_wp2_with fail
  (with_reducible refine (kn_shape w1 _ h1).mono ?_); rintro e w2 ⟨AX, cX, rfl, hb2, hX, _, _⟩
  have hB2 := bt hb1 hb2
  clear hb1 hb2 h1
  go_wp2_with fail
  (with_reducible refine (example_ _).mono ?_); rintro e w3 ⟨⟨g3, rfl, h3⟩, hb3⟩
  have hO3 := own_below (own_lit0 (w := w2)) hb3
  have hb23 : Below w2.heap.size w2 w3 := bt (ba (Below.refl _ _) _) hb3
  have hto := sl_to scEl (by kernel_rfl) (some ⟨g3, 0, none⟩) 5 5 (2 : Int) 2 rfl (by omega) (by omega)
  have hr3 : Reads w3 w3.heap.size 2 (some ⟨g3, 0, none⟩) 2 (scs (exL.take 2)) := h3.rd.firsts (k := 2) (by decide)
  go_wp2_with (at_builtin; refine wpList_apr scEl (w0 := w2) hO3 hb23 (by exact hr3) (scs_one _) ?_)
  intro v4 w4 hO4 hb4 _
  go_wp2_with (at_builtin; refine wpList_ap scEl (w0 := w2) (hO4.alloc _) (ba hb4 _) [.int .i64 4, .string ⟨#[]⟩] (by exact alloc1_new _ _) ?_)
  intro g5 cap5 w5 hO5 hb5 _
  clear hO4 hb4 hO3 hb23 hto hr3 h3 hb3
  go_wp2_with fail
  (with_reducible refine (example_ _).mono ?_); rintro e w6 ⟨⟨g6, rfl, h6⟩, hb6⟩
  have hO6 := own_below hO5 hb6
  have hB26 := bt hb5 hb6
  obtain ⟨A7, hfrom, hr7⟩ := sl_from scEl (by kernel_rfl) (len := 5) (cap := 5) h6.rd (2 : Int) 2 rfl (by decide) (by decide)
  have hr7' : Reads w6 w6.heap.size 2 A7 3 (scs (exL.drop 2)) := hr7
  clear hO5 hb5 hr7
  go_wp2_with (at_builtin; refine wpList_apr scEl (w0 := w2) hO6 hB26 (by exact hr7') (scs_one _) ?_)
  intro v8 w8 hO8 hb8 _
  obtain ⟨A8, c8, rfl, hr8, hc8, hm8⟩ := own_sl hO8
  have h8 : IsSc w8 A8 exK := ⟨hr8, by decide, exK_sizes⟩
  clear hO6 hB26 hfrom hr7' hO8 hr8 h6 hb6
  go_wp2_with fail
  (with_reducible refine (kn_streams w8 A8 c8 h8).mono ?_); rintro e w9 ⟨AS, cS, rfl, hb9, hS, _, _⟩
  have hb29 := bt hb8 hb9
  have hB9 := bt hB2 hb29
  have hX_1 := hX.go hb29
  clear hX
  clear h8 hb8 hb9 hb29 hB2
  go_wp2_with fail
  (with_reducible refine (example_ _).mono ?_); rintro e w10 ⟨⟨g10, rfl, h10⟩, hb10⟩
  have hB10 := bt hB9 hb10
  have hX_2 := hX_1.go hb10
  clear hX_1
  have hS_3 := hS.go hb10
  clear hS
  go_wp2_with fail
  (with_reducible refine (kn_cut w10 _ h10).mono ?_); rintro e w11 ⟨AC, cC, rfl, hb11, hC, hcC1, hcC2⟩
  have hB11 := bt hB10 hb11
  have hX_4 := hX_2.go hb11
  clear hX_2
  have hS_5 := hS_3.go hb11
  clear hS_3
  clear h10 hb10 hB9 hB10
  go_wp2_with fail
  (with_reducible refine (example_ _).mono ?_); rintro e w12 ⟨⟨g12, rfl, h12⟩, hb12⟩
  have hB12 := bt hB11 hb12
  have hX_6 := hX_4.go hb12
  clear hX_4
  have hS_7 := hS_5.go hb12
  clear hS_5
  have hC_8 := hC.go hb12
  clear hC
  go_wp2_with fail
  (with_reducible refine (kn_cut1 w12 _ h12).mono ?_); rintro e w13 ⟨A13, c13, rfl, hb13, _, _, _⟩
  have hB13 := bt hB12 hb13
  have hX_9 := hX_6.go hb13
  clear hX_6
  have hS_10 := hS_7.go hb13
  clear hS_7
  have hC_11 := hC_8.go hb13
  clear hC_8
  clear h12 hb12 hB11 hB12
  go_wp2_with fail
  (with_reducible refine (example_ _).mono ?_); rintro e w14 ⟨⟨g14, rfl, h14⟩, hb14⟩
  have hB14 := bt hB13 hb14
  have hX_12 := hX_9.go hb14
  clear hX_9
  have hS_13 := hS_10.go hb14
  clear hS_10
  have hC_14 := hC_11.go hb14
  clear hC_11
  go_wp2_with fail
  (with_reducible refine (kn_cut4 w14 _ h14).mono ?_); rintro e w15 ⟨A15, c15, rfl, hb15, _, _, _⟩
  have hB15 := bt hB14 hb15
  have hX_15 := hX_12.go hb15
  clear hX_12
  have hS_16 := hS_13.go hb15
  clear hS_13
  have hC_17 := hC_14.go hb15
  clear hC_14
  clear h14 hb14 hB13 hB14
  go_wp2_with fail
  (with_reducible refine (example_ _).mono ?_); rintro e w16 ⟨⟨g16, rfl, h16⟩, hb16⟩
  have hB16 := bt hB15 hb16
  have hX_18 := hX_15.go hb16
  clear hX_15
  have hS_19 := hS_16.go hb16
  clear hS_16
  have hC_20 := hC_17.go hb16
  clear hC_17
  go_wp2_with fail
  (with_reducible refine (kn_join w16 _ h16).mono ?_); rintro e w17 ⟨A17, c17, rfl, hb17, _, _, _⟩
  have hB17 := bt hB16 hb17
  have hX_21 := hX_18.go hb17
  clear hX_18
  have hS_22 := hS_19.go hb17
  clear hS_19
  have hC_23 := hC_20.go hb17
  clear hC_20
  have hC6 : IsSc w17 AC exC := ⟨hC_23, by decide, exC_sizes⟩
  clear h16 hb16 hB15 hB16
  go_wp2_with fail
  (with_reducible refine (kn_back w17 AC cC ⟨hcC1, hcC2⟩ hC6).mono ?_); rintro e w18 ⟨AB, cB, rfl, hb18, hBk, _, _⟩
  have hB18 := bt hB17 hb18
  have hX_24 := hX_21.go hb18
  clear hX_21
  have hS_25 := hS_22.go hb18
  clear hS_22
  have hC_26 := hC_23.go hb18
  clear hC_23
  clear hC6 hB17 hb18
  go_wp2_with fail
  (with_reducible refine (kn_parse1 w18 (hE.below hB18) (hM.below hB18)).mono ?_); rintro e w19 ⟨⟨A19, c19, rfl⟩, hb19⟩
  have hB19 := bt hB18 hb19
  have hX_27 := hX_24.go hb19
  clear hX_24
  have hS_28 := hS_25.go hb19
  clear hS_25
  have hC_29 := hC_26.go hb19
  clear hC_26
  have hBk_30 := hBk.go hb19
  clear hBk
  clear hB18 hb19
  go_wp2_with fail
  (with_reducible refine (kn_parse2 w19 (hE.below hB19) (hM.below hB19)).mono ?_); rintro e w20 ⟨⟨A20, c20, rfl⟩, hb20⟩
  have hB20 := bt hB19 hb20
  have hX_31 := hX_27.go hb20
  clear hX_27
  have hS_32 := hS_28.go hb20
  clear hS_28
  have hC_33 := hC_29.go hb20
  clear hC_29
  have hBk_34 := hBk_30.go hb20
  clear hBk_30
  clear hB19 hb20
  go_upto_region 13 with fail
  go_cut [1, 2, 4, 5, 6, 7, 9, 14, 16, 18, 19] (fun s1 s2 s4 s5 s6 s7 s9 s14 s16 s18 s19 wx => ∃ AX cX AS cS b off cC AB cB AO cO, s1 = .slice AX 5 cX ∧ s2 = .int .i64 0 ∧ s4 = .slice AS 1 cS ∧ s5 = .int .i64 6 ∧ s6 = .slice (some ⟨b, off, none⟩) 6 cC ∧ s7 = .int .i64 6 ∧ s9 = .int .i64 0 ∧ s14 = .slice AB 5 cB ∧ s16 = .int .i64 1 ∧ s18 = .int .i64 1 ∧ s19 = .slice AO 1 cO ∧ KnT w AX AS AB AO b off wx)
  case first =>
    go_wp2_with fail
    (with_reducible refine (kn_parse3 w20 (hE.below hB20) (hM.below hB20)).mono ?_); rintro e w21 ⟨AO, cO, rfl, hb21, hO, _, _⟩
    have hB21 := bt hB20 hb21
    have hX21 := hX_31.go hb21
    have hS21 := hS_32.go hb21
    have hC21 := hC_33.go hb21
    have hBk21 := hBk_34.go hb21
    obtain ⟨b, off, rfl, _, _⟩ := hC21.2 (by decide)
    go_wp2
    go_meet
    exact ⟨_, _, _, _, b, off, _, _, _, _, _, rfl, rfl, rfl, rfl, rfl, rfl, rfl, rfl, rfl, rfl, rfl, KnT.of ⟨hB21, hX21, hS21, hC21, hBk21, hO⟩⟩
  case rest =>
    clear hX_31 hS_32 hC_33 hBk_34 hB20
    obtain ⟨AX, cX, AS, cS, b, off, cC, AB, cB, AO, cO, rfl, rfl, rfl, rfl, rfl, rfl, rfl, rfl, rfl, rfl, rfl, hT⟩ := hcut
    have HE := Lib.hid hE
    clear hE hM
    go_wp2_with fail
    simp only [List.append_eq, List.cons_append, List.nil_append]
    go_region_held3 (fun w' => KnS w AX AS (some ⟨b, off, none⟩) AB AO w' ∧ w'.cell? ⟨b, off, none⟩ = some (.int .i64 1) ∧ w'.cell? ⟨b, off + 1, none⟩ = some (.string ⟨#[97]⟩) ∧ w'.cell? ⟨b, off + 2, none⟩ = some (.int .i64 1) ∧ w'.cell? ⟨b, off + 3, none⟩ = some (.string ⟨#[98, 99]⟩))
      (with_reducible (first | exact KnT.drew2 hT | exact KnT.drew2 (KnT.al2 hT _) | exact KnT.al2 (by assumption) _ | exact KnT.go2 (by assumption) hb2 | fail))
      ((first
        | (go_at_call 38; refine (feed _ _).mono ?_; rintro e w2 ⟨rfl, hb2⟩)
        | (go_at_call 37; refine (example_ _).mono ?_; rintro e w2 ⟨⟨gx, rfl, hx⟩, hb2⟩)
        | (go_at_call 24; refine (kn_same _ _ _ _ _ (by with_reducible exact KnT.rx (by assumption)) (by exact reads_blkN (cs := shs exX) (alloc1_new _ _) rfl)).mono ?_; rintro e w2 ⟨rfl, hb2⟩)
        | (go_at_call 19; refine (kn_strs _ _ _ _ _ (by with_reducible exact KnT.rs (by assumption)) (by exact reads_blkN (cs := [.string ⟨#[97, 98, 99]⟩]) (alloc1_new _ _) rfl)).mono ?_; rintro e w2 ⟨rfl, hb2⟩)
        | (go_at_call 18; refine (kn_eq _ _ _ _ _ _ _ (by with_reducible (first | exact KnT.rb (by assumption) | exact KnT.ro (by assumption))) (by first | exact hx.rd | exact reads_blkN (cs := scs [(1, ⟨#[10]⟩)]) (alloc1_new _ _) rfl) (by rfl) (by decide)).mono ?_; rintro e w2 ⟨rfl, hb2⟩)
        | (go_at_call 13; refine (awake _ (by exact HE.out.below (by with_reducible exact KnT.bel (by assumption)))).mono ?_; rintro e w2 ⟨rfl, hb2⟩)))
    have hB : Below w.heap.size w w2 := by with_reducible exact KnT.bel (by assumption)
    clear hT
    go_wp2
    go_ret
    exact ⟨rfl, hB⟩
end Go.Proofs.YtoogemdcmnjpnaaDoor
