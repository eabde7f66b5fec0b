/- Reports: Encode of the reference. -/
import Derived.Test.YtokcbdaoofjbgaaDoorR16
import Derived.Deep.DeepCutAuto
namespace Go.Proofs.YtokcbdaoofjbgaaDoor
open Go.RowKit
set_option maxRecDepth 100000 in
set_option maxHeartbeats 1000000 in
theorem rencode_no (w : World) (A : Option Addr) (c : Nat) (l : List Hit) (h : Reads w w.heap.size 2 A l.length (hits l)) (hl : l.length ≤ 9223372036854775807) (o : Bool) (d k : Int) (hne : encE l o d k ≠ 0) :
    Calls Tryd.prog 21 #[repV A l.length c o d, .int .i64 k] w (RetSl w 1 (u8s (encR l o d k)) (encR l o d k).length (encE l o d k)) := by
  have h1 : encR l o d k = [] := if_neg hne
  rw [h1]
  have hc := rcheck_ (w.alloc (repO A l.length c o d)) A c l (h.al _) hl o d k
  unfold encE at *
  generalize chkR l o d k = q at *
  obtain ⟨I, E⟩ := q
  have e2 : (E != 0) = true := by simpa using hne
  have Hc := Lib.hid hc
  clear hc hne h1
  go_enter Tryd.func21, Tryd.ntmps21
  have hF := (Fr.start w).newN rfl (repO A l.length c o d)
  have hO := hF.at (g := w.heap.size) List.mem_cons_self
  have k0 := Lib.cell_of_heap hO 0
  have k1 := Lib.cell_of_heap hO 1
  have k2 := Lib.cell_of_heap hO 2
  clear hF hO
  go_wp2_with fail
  (with_reducible refine (Hc.out).mono ?_); rintro e w1 ⟨rfl, hb1⟩
  have hB := bt (ba (Below.refl _ _) _) hb1
  clear hb1
  go_wp2
  go_ret2
  exact RetSl.nil hB rfl rfl
/-- entry j of the bytes -/
def entK (l : List Hit) (j : Nat) : List Int := ents (l.take j) ++ List.replicate (6 * (j - l.length)) 0
theorem entK_hit {l : List Hit} {j : Nat} {h : Hit} (hd : Hid (l.drop j = h :: l.drop (j + 1))) (hj : j < l.length) : entK l (j + 1) = entK l j ++ (be 4 h.1 ++ be 2 h.2) := by
  unfold entK
  rw [take_of_drop hd.out, ents_app, show j + 1 - l.length = 0 by omega, show j - l.length = 0 by omega]
  simp [ents, ent]
theorem entK_zero {l : List Hit} {j : Nat} (hj : l.length ≤ j) : entK l (j + 1) = entK l j ++ (be 4 0 ++ be 2 0) := by
  unfold entK
  rw [List.take_of_length_le (by omega), List.take_of_length_le hj, be_zero, be_zero, List.replicate_append_replicate, List.append_assoc, List.replicate_append_replicate]
  congr 2
  omega
/-- the round of Encode: the report's block, the entry's block -/
abbrev EnR (w : World) (gh r n c : Nat) (A : Option Addr) (o : Bool) (d E I : Int) (w' : World) : Prop :=
  (Fr w [(gh, hitO (E, I)), (r, repO A n c o d)] w') ∧ w'.cell? ⟨gh, 0, none⟩ = some (.int .i64 E) ∧ w'.cell? ⟨gh, 1, none⟩ = some (.int .i64 I)
section
variable {w w1 w2 : World} {gh r n c : Nat} {A : Option Addr} {o : Bool} {d E I : Int}
theorem EnR.of (h : Fr w [(gh, hitO (E, I)), (r, repO A n c o d)] w1) : EnR w gh r n c A o d E I w1 :=
  ⟨h, Lib.cell_of_heap (h.at (g := gh) List.mem_cons_self) 0, Lib.cell_of_heap (h.at (g := gh) List.mem_cons_self) 1⟩
theorem EnR.bel (h : EnR w gh r n c A o d E I w1) : Below w.heap.size w w1 := h.1.bel
theorem EnR.drew (h : EnR w gh r n c A o d E I w1) : EnR w gh r n c A o d E I w1.drew := .of h.1.drew
theorem EnR.go (h : EnR w gh r n c A o d E I w1) (hb : Below w1.heap.size w1 w2) : EnR w gh r n c A o d E I w2 := .of (h.1.go hb)
theorem EnR.grow (h : EnR w gh r n c A o d E I w1) {v : Value} {m : Nat} {xs : List Value} (ho : w1.ownsRow w.heap.size 5 1 v m xs) (hb : Below w.heap.size w w2) (hg : w1.grownBy w2 v.ownBlock) : EnR w gh r n c A o d E I w2 :=
  .of (h.1.grown hb hg fun p hp => by
    rcases List.mem_cons.1 hp with rfl | hp
    · exact own_blk_ne ho (h.1.at List.mem_cons_self) (by decide)
    · rcases List.mem_cons.1 hp with rfl | hp
      · exact own_blk_ne ho (h.1.at (List.mem_cons_of_mem _ List.mem_cons_self)) (by decide)
      · cases hp)
end
/-- the rows of a round: out, and what it gives behind the region -/
def OutAt (w : World) (n : Nat) (xs : List Int) (gh r m c : Nat) (A : Option Addr) (o : Bool) (d E I : Int) (v : Value) (w' : World) : Prop :=
  w'.ownsRow w.heap.size 5 1 v n (u8s xs) ∧ Fr w [(gh, hitO (E, I)), (r, repO A m c o d)] w'
theorem OutAt.of {w w' : World} {n n' : Nat} {xs : List Int} {ys : List Value} {gh r m c : Nat} {A : Option Addr} {o : Bool} {d E I : Int} {v : Value} (h : w'.ownsRow w.heap.size 5 1 v n' ys) (hn : n' = n) (hx : ys = u8s xs) (hF : Fr w [(gh, hitO (E, I)), (r, repO A m c o d)] w') : OutAt w n xs gh r m c A o d E I v w' := by
  subst hn hx
  exact ⟨h, hF⟩
/-- the row so far, and the report's block -/
def OutF (w : World) (n : Nat) (xs : List Int) (r m c : Nat) (A : Option Addr) (o : Bool) (d : Int) (v : Value) (w' : World) : Prop :=
  w'.ownsRow w.heap.size 5 1 v n (u8s xs) ∧ Fr w [(r, repO A m c o d)] w'
theorem OutF.of {w w' : World} {n n' : Nat} {xs : List Int} {ys : List Value} {r m c : Nat} {A : Option Addr} {o : Bool} {d : Int} {v : Value} (h : w'.ownsRow w.heap.size 5 1 v n' ys) (hn : n' = n) (hx : ys = u8s xs) (hF : Fr w [(r, repO A m c o d)] w') : OutF w n xs r m c A o d v w' := by
  subst hn hx
  exact ⟨h, hF⟩
set_option maxRecDepth 100000 in
set_option maxHeartbeats 4000000 in
theorem rencode_yes (w : World) (A : Option Addr) (c : Nat) (l : List Hit) (h : Reads w w.heap.size 2 A l.length (hits l)) (hl : l.length ≤ 9223372036854775807) (o : Bool) (d k : Int) (he : encE l o d k = 0) :
    Calls Tryd.prog 21 #[repV A l.length c o d, .int .i64 k] w (RetSl w 1 (u8s (encR l o d k)) (encR l o d k).length (encE l o d k)) := by
  have h1 : encR l o d k = encL l o d k.toNat := if_pos he
  rw [h1, he]
  have hc := rcheck_ (w.alloc (repO A l.length c o d)) A c l (h.al _) hl o d k
  unfold encE at he
  have hcp : capK k = true := by
    cases hc : capK k with
    | true => rfl
    | false => unfold chkR at he; rw [if_pos hc] at he; cases he
  obtain ⟨⟨hk1, hk2⟩, hlk, hw0, ⟨hd1, hd2⟩, _⟩ := chkR_ok he
  have hall := wrgF_all hw0
  rw [he] at hc
  generalize (chkR l o d k).1 = I at *
  have Hc := Lib.hid hc
  have Hall := Lib.hid hall
  have HR := Lib.hid h
  clear hc h1 hw0 hall he h hcp
  obtain ⟨K, hK⟩ : ∃ K : Nat, k = K := ⟨k.toNat, by omega⟩
  subst hK
  rw [Int.toNat_natCast]
  have hF0 := (Fr.start w).newN rfl (repO A l.length c o d)
  have k0 := Lib.cell_of_heap (hF0.at (g := w.heap.size) List.mem_cons_self) 0
  have k1 := Lib.cell_of_heap (hF0.at (g := w.heap.size) List.mem_cons_self) 1
  have k2 := Lib.cell_of_heap (hF0.at (g := w.heap.size) List.mem_cons_self) 2
  go_enter Tryd.func21, Tryd.ntmps21
  go_wp2_with fail
  (with_reducible refine (Hc.out).mono ?_); rintro e w1 ⟨rfl, hb1⟩
  have hF := hF0.go hb1
  clear hb1 hF0 k0 k1 k2
  have k0 := Lib.cell_of_heap (hF.at (g := w.heap.size) List.mem_cons_self) 0
  have k1 := Lib.cell_of_heap (hF.at (g := w.heap.size) List.mem_cons_self) 1
  go_wp2_with fail
  (with_reducible refine (rbytes2 (l.length : Int) _ (by omega) (by omega)).mono ?_); rintro e w2 ⟨A2, c2, rfl, ho2, _, hb2⟩
  have hF2 := hF.go hb2
  have hO2 := own_base ho2 hF.bel.size
  clear ho2 hb2 k0 k1 hF
  have k1 := Lib.cell_of_heap (hF2.at (g := w.heap.size) List.mem_cons_self) 1
  have HF2 := Lib.hid hF2
  have HO2 := Lib.hid hO2
  clear hF2 hO2
  obtain ⟨FL, hFL⟩ : ∃ FL : List Int, FL = be 2 (l.length : Int) ++ [if o then 1 else 0] := ⟨_, rfl⟩
  have HFL := Lib.hid hFL
  clear hFL
  go_upto_if 25 with (fail)
  go_cut [8] (fun s wx => OutF w 3 FL w.heap.size l.length c A o d s wx)
  case first =>
    cases o
    all_goals
      go_wp2_with (at_builtin; refine wpList_ap u8El (w0 := w) ((HO2.out).alloc _) ((HF2.out).al _).bel [.int .u8 _] (by exact alloc1_new _ _) ?_)
      intro g4 cap4 w4 hO4 hb4 hg4
      have hF4 := Fr.grown1 ((HF2.out).al _) hb4 hg4 (own_blk_ne HO2.out (HF2.out.at (g := w.heap.size) List.mem_cons_self) (by decide))
      have HX := Lib.hid (OutF.of (xs := FL) hO4 (by rfl) (by rw [HFL.out, u8s_app]; rfl) hF4)
      clear hO4 hb4 hg4 hF4
      go_wp2
      go_meet
      exact HX.out
  case rest =>
    obtain ⟨hO3, hF3⟩ := hcut
    clear HF2 HO2
    have k2 := Lib.cell_of_heap (hF3.at (g := w.heap.size) List.mem_cons_self) 2
    go_wp2_with fail
    (with_reducible refine (rbytes2 d _ (by omega) (by omega)).mono ?_); rintro e w5 ⟨A5, c5, rfl, _, hr5, hb5⟩
    have hF5 := hF3.go hb5
    have hO5 := own_below hO3 hb5
    clear hb5 hF3 hO3 k2
    have hne5 := own_blk_ne hO5 (hF5.at (g := w.heap.size) List.mem_cons_self) (by decide)
    have HF5 := Lib.hid hF5
    have HO5 := Lib.hid hO5
    have Hr5 := Lib.hid hr5
    clear hF5 hO5 hr5
    go_wp2_with (at_builtin; refine wpList_apr u8El (w0 := w) (by exact HO5.out) HF5.out.bel (by exact Hr5.out) (u8s_one _) ?_)
    intro v6 w6 hO6 hb6 hg6
    have hF6 := Fr.grown1 HF5.out hb6 hg6 hne5
    have hO7 : w6.ownsRow w.heap.size 5 1 v6 (5 + 6 * 0) (u8s (encH l.length o d ++ entK l 0)) := by
      rw [show encH l.length o d ++ entK l 0 = FL ++ be 2 d by rw [HFL.out]; unfold encH; rw [List.append_assoc]; simp [entK, ents], u8s_app]
      exact hO6
    clear hO6 hb6 hg6 hne5 HF5 HO5 Hr5
    go_wp2_with fail
    go_loopw [8, 9] (fun v i wr => ∃ j : Nat, j ≤ K ∧ i = .int .i64 j ∧ OutF w (5 + 6 * j) (encH l.length o d ++ entK l j) w.heap.size l.length c A o d v wr) (fun _ i _ => K - (intOf i).toNat)
    case atStart => exact ⟨0, Nat.zero_le _, rfl, ⟨hO7, hF6⟩⟩
    case round =>
      obtain ⟨j, hj, rfl, hOF⟩ := hrel
      clear hO7 hF6
      obtain ⟨hO, hF⟩ := hOF
      by_cases hjl : j < K
      · have k0 := Lib.cell_of_heap (hF.at (g := w.heap.size) List.mem_cons_self) 0
        have hlt := heap_lt (hF.at (g := w.heap.size) List.mem_cons_self)
        obtain ⟨E, I, hEI, hE0, hI0⟩ : ∃ E I : Int, (encH l.length o d ++ entK l (j + 1) = encH l.length o d ++ entK l j ++ be 4 E ++ be 2 I ∧ (j < l.length → Hid (l.drop j = (E, I) :: l.drop (j + 1))) ∧ (¬ j < l.length → E = 0 ∧ I = 0)) ∧ (0 ≤ E ∧ E ≤ 1000000) ∧ (0 ≤ I ∧ I ≤ 1000) := by
          by_cases hh : j < l.length
          · have hd := Lib.hid (List.drop_eq_getElem_cons hh)
            obtain ⟨⟨o1, o2⟩, o3, o4⟩ := okH_iff (E := (l[j]).1) (I := (l[j]).2) |>.1 (Hall.out _ (List.getElem_mem hh))
            exact ⟨(l[j]).1, (l[j]).2, ⟨by rw [entK_hit hd hh]; simp only [List.append_assoc], fun _ => hd, fun h => absurd hh h⟩, by omega, by omega⟩
          · exact ⟨0, 0, ⟨by rw [entK_zero (by omega)]; simp only [List.append_assoc], fun h => absurd h hh, fun _ => ⟨rfl, rfl⟩⟩, by omega, by omega⟩
        obtain ⟨hx, hd1, hd2⟩ := hEI
        obtain ⟨E0, E1⟩ := hE0
        obtain ⟨I0, I1⟩ := hI0
        have HX := Lib.hid hx
        have Hd1 := Lib.hid hd1
        have Hd2 := Lib.hid hd2
        have hFn := (hF.newN rfl (hitO (E, I)))
        have hOn := hO.alloc (hitO (E, I))
        have HFn := Lib.hid hFn
        have HOn := Lib.hid hOn
        have HRd := Lib.hid (HR.out.below hF.bel)
        have hB := hF.bel.size
        clear hx hd1 hd2 hFn hOn hO hF
        go_upto_if 46 with (fail)
        go_cut [] (fun wx => wx = wr.alloc (hitO (E, I)))
        case first =>
          by_cases hh : j < l.length
          · obtain ⟨b, off, E', I', rfl, hb, d1, d2, hd⟩ := htAt HRd.out hh
            obtain ⟨rfl, rfl⟩ : E' = E ∧ I' = I := by
              have h1 := hd.out.symm.trans (Hd1.out hh).out
              injection h1 with h1 _
              exact ⟨congrArg Prod.fst h1, congrArg Prod.snd h1⟩
            have hbw : b < wr.heap.size := by omega
            clear hd
            go_wp2
            go_meet
            rfl
          · obtain ⟨rfl, rfl⟩ := Hd2.out hh
            go_wp2
            go_meet
            rfl
        case rest =>
          subst hcut
          have hS := EnR.of HFn.out
          have hO0 : (wr.alloc (hitO (E, I))).drew.ownsRow w.heap.size 5 1 u8 (5 + 6 * j) (u8s (encH l.length o d ++ entK l j)) := HOn.out
          clear Hd1 Hd2 HRd hB k0 hlt
          go_wp2_with fail
          go_region_held3 (fun w' => EnR w wr.heap.size w.heap.size l.length c A o d E I w')
            (with_reducible (first | exact EnR.drew hS | exact EnR.go (by assumption) hb5 | exact EnR.go (by assumption) hb9 | exact EnR.grow (by assumption) hq6 hb6 hg6 | exact EnR.grow (by assumption) hO6 hb7 hg7 | exact EnR.grow (by assumption) hq7 hb7 hg7))
            ((first
              | (go_at_call 34; first | ((with_reducible refine (rbytes4 E _ E0 (by omega)).mono ?_); rintro e w5 ⟨A5, c5, rfl, ho5, hr5, hb5⟩) | ((with_reducible refine (rbytes2 I _ I0 (by omega)).mono ?_); rintro e w9 ⟨A9, c9, rfl, ho9, hr9, hb9⟩))
              | ((with_reducible have hq7 := own_below hO6 hb9); refine step_apr u8El (w0 := w) hq7 (EnR.bel (by assumption)) hr9 (u8s_one _) ?_; intro v7 w7 hO7 hb7 hg7)
              | ((with_reducible have hq7 := own_grown_new (own_below ho9 hb5) hg6 (own_lt hO0)); refine step_apr u8El (w0 := w) hO6 (EnR.bel (by assumption)) (Reads.of_own hq7) (u8s_one _) ?_; intro v7 w7 hO7 hb7 hg7)
              | ((with_reducible have hq7 := own_grown_new ho9 hg6 (own_lt (own_below hO0 hb5))); refine step_apr u8El (w0 := w) hO6 (EnR.bel (by assumption)) (Reads.of_own hq7) (u8s_one _) ?_; intro v7 w7 hO7 hb7 hg7)
              | ((with_reducible have hq6 := own_below (own_below hO0 hb5) hb9); refine step_apr u8El (w0 := w) hq6 (EnR.bel (by assumption)) (hr5.go hb9) (u8s_one _) ?_; intro v6 w6 hO6 hb6 hg6)
              | ((with_reducible have hq6 := own_below (own_below hO0 hb9) hb5); refine step_apr u8El (w0 := w) hq6 (EnR.bel (by assumption)) hr5 (u8s_one _) ?_; intro v6 w6 hO6 hb6 hg6)
              | ((with_reducible have hq6 := own_below hO0 hb5); refine step_apr u8El (w0 := w) hq6 (EnR.bel (by assumption)) hr5 (u8s_one _) ?_; intro v6 w6 hO6 hb6 hg6)))
          all_goals
            have hE7 : EnR w wr.heap.size w.heap.size l.length c A o d E I w7 := by assumption
            have hOF := OutF.of (n := 5 + 6 * (j + 1)) (xs := encH l.length o d ++ entK l (j + 1)) hO7 (by omega) (by rw [HX.out]; simp only [u8s_app]) (hE7.1.sub (M := [(w.heap.size, repO A l.length c o d)]) (by simp))
            clear hE7 hO7 hb7 hg7 hS hO0 HOn HFn HX
            go_wp2
            go_roundw
            case rel => exact ⟨j + 1, by omega, by go_num, hOF⟩
            case measure => simp [intOf]; omega
      · obtain rfl : j = K := by omega
        have hxx : encH l.length o d ++ entK l j = encL l o d j := by
          unfold entK
          rw [List.take_of_length_le (by omega)]
          simp [encH, encL]
        rw [hxx] at hO
        have hlen := encL_len l o d j (by omega)
        have HO := Lib.hid hO
        have Hlen := Lib.hid hlen
        have hB := hF.bel
        clear hO hlen hxx hF
        go_wp2
        go_ret2
        exact RetSl.of_own HO.out hB rfl Hlen.out.symm rfl
theorem rencode_any (w : World) (A : Option Addr) (c : Nat) (l : List Hit) (h : Reads w w.heap.size 2 A l.length (hits l)) (hl : l.length ≤ 9223372036854775807) (o : Bool) (d k : Int) :
    Calls Tryd.prog 21 #[repV A l.length c o d, .int .i64 k] w (RetSl w 1 (u8s (encR l o d k)) (encR l o d k).length (encE l o d k)) := by
  by_cases he : encE l o d k = 0
  · exact rencode_yes w A c l h hl o d k he
  · exact rencode_no w A c l h hl o d k he
end Go.Proofs.YtokcbdaoofjbgaaDoor
