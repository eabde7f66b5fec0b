/- Merge of the reference. -/
import Derived.Test.YtokcbdaoofjbgaaDoorR14
namespace Go.Proofs.YtokcbdaoofjbgaaDoor
open Go.RowKit
abbrev MgT (wr : World) (b o : Nat) (vS : Value) (b2 o2 : Nat) (E2 I2 : Int) (b3 o3 : Nat) (E3 I3 : Int) (w' : World) : Prop :=
  (Below wr.heap.size wr w' ∧ b < wr.heap.size ∧ b2 < wr.heap.size ∧ b3 < wr.heap.size) ∧ w'.cell? ⟨b, o, none⟩ = some vS ∧ w'.cell? ⟨b2, o2, none⟩ = some (.int .i64 E2) ∧ w'.cell? ⟨b2, o2 + 1, none⟩ = some (.int .i64 I2) ∧ w'.cell? ⟨b3, o3, none⟩ = some (.int .i64 E3) ∧ w'.cell? ⟨b3, o3 + 1, none⟩ = some (.int .i64 I3)
section
variable {wr w1 w2 : World} {b o b2 o2 b3 o3 : Nat} {vS : Value} {E2 I2 E3 I3 : Int}
theorem MgT.drew (h : MgT wr b o vS b2 o2 E2 I2 b3 o3 E3 I3 w1) : MgT wr b o vS b2 o2 E2 I2 b3 o3 E3 I3 w1.drew := ⟨⟨h.1.1.drew, h.1.2⟩, h.2⟩
theorem MgT.go (h : MgT wr b o vS b2 o2 E2 I2 b3 o3 E3 I3 w1) (hb : Below w1.heap.size w1 w2) : MgT wr b o vS b2 o2 E2 I2 b3 o3 E3 I3 w2 := by
  obtain ⟨⟨h1, h2, h3, h4⟩, k0, k1, k2, k3, k4⟩ := h
  have hs := h1.size
  exact ⟨⟨bt h1 hb, h2, h3, h4⟩, (hb.cell (p := ⟨b, o, none⟩) (by simp only; omega)).trans k0, (hb.cell (p := ⟨b2, o2, none⟩) (by simp only; omega)).trans k1, (hb.cell (p := ⟨b2, o2 + 1, none⟩) (by simp only; omega)).trans k2, (hb.cell (p := ⟨b3, o3, none⟩) (by simp only; omega)).trans k3, (hb.cell (p := ⟨b3, o3 + 1, none⟩) (by simp only; omega)).trans k4⟩
end
set_option maxRecDepth 100000 in
set_option maxHeartbeats 2000000 in
theorem rmerge_ (w : World) (A : Option Addr) (c : Nat) (L : List Rp) (h : IsReps w A L) (hL : L.length ≤ 9223372036854775807) (k : Int) :
    Calls Tryd.prog 17 #[.slice A L.length c, .int .i64 k] w (RetMg w (mgL L k) (mgD L k) (mgE L k)) := by
  obtain ⟨cp, hcp⟩ : ∃ cp, cp = capK k := ⟨_, rfl⟩
  have Hcp := Lib.hid hcp
  by_cases h0 : cp = false
  · subst h0
    have hE : mgE L k = 7 := if_pos hcp.symm
    obtain ⟨m1, m2⟩ := mg_no (L := L) (k := k) (by rw [hE]; decide)
    rw [m1, m2, hE]
    clear m1 m2 hE hcp
    go_enter Tryd.func17, Tryd.ntmps17
    go_wp2_with fail
    (with_reducible refine (capacity_ k false Hcp _).mono ?_); rintro e w' ⟨rfl, rfl⟩
    go_wp2
    refine bodyPost_ret (v := .tuple #[.slice none 0 0, .int .i64 0, .int .i64 7]) (by simp [results, go_sem]) rfl (RetMg.nil ?_ rfl rfl)
    exact Below.refl _ _
  obtain rfl : cp = true := by simpa using h0
  clear h0
  by_cases h1 : 1000 < L.length
  · have hE : mgE L k = 3 := by unfold mgE; rw [← hcp, if_neg (by decide), if_pos h1]
    obtain ⟨m1, m2⟩ := mg_no (L := L) (k := k) (by rw [hE]; decide)
    rw [m1, m2, hE]
    clear m1 m2 hE hcp
    go_enter Tryd.func17, Tryd.ntmps17
    go_wp2_with fail
    (with_reducible refine (capacity_ k true Hcp _).mono ?_); rintro e w' ⟨rfl, rfl⟩
    go_wp2
    refine bodyPost_ret (v := .tuple #[.slice none 0 0, .int .i64 0, .int .i64 3]) (by simp [results, go_sem]) rfl (RetMg.nil ?_ rfl rfl)
    exact Below.refl _ _
  have hE := Lib.hid (show mgE L k = if chkF k L ≠ 0 then chkF k L else (wrg (allH L)).2 by unfold mgE; rw [← hcp, if_neg (by decide), if_neg h1])
  have hk12 := capK_iff.1 hcp.symm
  clear hcp
  go_enter Tryd.func17, Tryd.ntmps17
  go_wp2_with fail
  (with_reducible refine (capacity_ k true Hcp _).mono ?_); rintro e w' ⟨rfl, rfl⟩
  go_wp2_with fail
  go_loopw [4, 5, 7] (fun a0 b0 i wr => ∃ j : Nat, j ≤ L.length ∧ i = .int .i64 j ∧ a0 = .slice none 0 0 ∧ b0 = .int .i64 0 ∧ Hid (chkF k (L.drop j) = chkF k L) ∧ Hid (∀ r ∈ L.take j, rpE k r = 0) ∧ Below w.heap.size w wr) (fun _ _ i _ => L.length - (intOf i).toNat)
  case atStart => exact ⟨0, Nat.zero_le _, rfl, rfl, rfl, Lib.hid rfl, Lib.hid (by simp), Below.refl _ _⟩
  case round =>
    obtain ⟨j, hj, rfl, rfl, rfl, hr, ha, hB⟩ := hrel
    by_cases hjl : j < L.length
    · obtain ⟨b, off, r, rfl, hb, d1, d2, d3, hd, hR, hlr, hdr⟩ := rpAt (h.go hB) hjl
      have hdj : Hid (L.drop j = r :: L.drop (j + 1)) := hd
      have hcc := rcheck_ wr r.A r.c r.l hR hlr r.o r.d k
      have hFr := Fr.nil hB
      have hE1 : (chkR r.l r.o r.d k).2 = rpE k r := rfl
      rw [hE1] at hcc
      generalize (chkR r.l r.o r.d k).1 = I0 at *
      by_cases he : rpE k r = 0
      · have hr2 : Hid (chkF k (L.drop (j + 1)) = chkF k L) := Lib.hid (by rw [← hr.out, hd.out, chkF_step he])
        have ha2 : Hid (∀ x ∈ L.take (j + 1), rpE k x = 0) := Lib.hid (by
          rw [take_of_drop hd.out]
          intro x hx
          rcases List.mem_append.1 hx with hx | hx
          · exact ha.out x hx
          · rw [List.mem_singleton.1 hx]; exact he)
        rw [he] at hcc
        have Hc := Lib.hid hcc
        clear hcc he hr ha hd hdj hE1 hR
        go_wp2_with fail
        (with_reducible refine (Hc.out).mono ?_); rintro e w1 ⟨rfl, hb1⟩
        have hF1 := hFr.go hb1
        have hB1 := hF1.bel
        clear hFr hb1 hF1
        go_wp2
        go_roundw
        case rel => exact ⟨j + 1, by omega, by go_num, rfl, rfl, hr2, ha2, hB1⟩
        case measure => simp [intOf]; omega
      · have hcf : chkF k L = rpE k r := by rw [← hr.out, hd.out, chkF_stop he]
        have hE2 : mgE L k = rpE k r := by rw [hE.out, hcf, if_pos he]
        obtain ⟨m1, m2⟩ := mg_no (L := L) (k := k) (by rw [hE2]; exact he)
        generalize rpE k r = E at *
        have e2 : (E != 0) = true := by simpa using he
        have HE := Lib.hid (And.intro m1 (And.intro m2 hE2))
        have Hc := Lib.hid hcc
        clear hcc he hr ha hd hdj hE1 hR m1 m2 hE2 hcf
        go_wp2_with fail
        (with_reducible refine (Hc.out).mono ?_); rintro e w1 ⟨rfl, hb1⟩
        have hF1 := hFr.go hb1
        have hB1 := hF1.bel
        clear hFr hb1 hF1
        go_wp2
        refine bodyPost_ret (v := .tuple #[.slice none 0 0, .int .i64 0, .int .i64 E]) (by simp [results, go_sem]) rfl ?_
        rw [HE.out.1, HE.out.2.1, HE.out.2.2]
        exact RetMg.nil hB1 rfl rfl
    · obtain rfl : j = L.length := by omega
      have hz := hr.out
      rw [List.drop_length] at hz
      have hcf : chkF k L = 0 := hz.symm
      have hall := ha.out
      rw [List.take_length] at hall
      have Hall := Lib.hid hall
      have hE3 := Lib.hid (show mgE L k = (wrg (allH L)).2 by rw [hE.out, hcf, if_neg (by decide)])
      have HL := Lib.hid h
      clear hz hcf hall ha hr hE h
      go_wp2
      go_loopw [4, 5, 10, 11, 12] (fun a0 b0 v dv i w2 => ∃ (j n : Nat) (D : Int), j ≤ L.length ∧ i = .int .i64 j ∧ a0 = .slice none 0 0 ∧ b0 = .int .i64 0 ∧ dv = .int .i64 D ∧ 0 ≤ D ∧ D ≤ 65535 ∧ Hid (dropF 0 (L.take j) = D) ∧ Hid (wE none (allH (L.take j)) = 0) ∧ n ≤ 32 * j ∧ w2.ownsRow w.heap.size 48 2 v n (hits (allH (L.take j))) ∧ Below w.heap.size w w2) (fun _ _ _ _ i _ => L.length - (intOf i).toNat)
      case atStart => exact ⟨0, 0, 0, Nat.zero_le _, rfl, rfl, rfl, rfl, by omega, by omega, Lib.hid rfl, Lib.hid rfl, by omega, World.ownsRow_nil _ _ _ _, hB⟩
      case round =>
        obtain ⟨j, n, D, hj, rfl, rfl, rfl, rfl, hD0, hD1, hDr, hW, hn, hown, hB⟩ := hrel
        obtain ⟨A1, c1, rfl, hrd, hcap, hmax⟩ := own_sl hown
        by_cases hjl : j < L.length
        · obtain ⟨b, off, r, rfl, hb, D1, _, D3, hd, hRw, hlr, hdr⟩ := rpAt HL.out hjl
          have d1 := (hB.cell (p := ⟨b, off + j * 3, none⟩) hb).trans D1
          have hR := hRw.go hB
          have hbw : b < wr.heap.size := Nat.lt_of_lt_of_le hb hB.size
          have hre := Hall.out r (List.mem_of_mem_drop (by rw [hd.out]; exact List.mem_cons_self))
          obtain ⟨_, hlk, hwr, ⟨hr0, hr1⟩, _⟩ := chkR_ok hre
          rw [wrg_two] at hwr
          have hr32 : r.l.length ≤ 32 := by omega
          have htk := take_of_drop hd.out
          have hone := hits_one r.l
          have hDn : dropF 0 (L.take (j + 1)) = min (D + r.d) 65535 := by rw [htk, dropF_app, hDr.out]; rfl
          have hAn : allH (L.take (j + 1)) = allH (L.take j) ++ r.l := by rw [htk, allH_app]; simp [allH]
          have hnl : n = (allH (L.take j)).length := by
            have := hown.1
            rw [flat2_length] at this
            omega
          by_cases hn0 : n = 0
          · subst hn0
            have HWn := Lib.hid (show wE none (allH (L.take (j + 1))) = 0 by
              rw [hAn, List.eq_nil_of_length_eq_zero hnl.symm]; exact hwr)
            have HDn := Lib.hid hDn
            have HAn := Lib.hid hAn
            have Hown := Lib.hid hown
            have HR := Lib.hid hR
            clear hDn hAn htk hd hre hwr hrd hown hnl hW hDr hR
            go_wp2_with fail
            go_region
            have hd1 : wr.drew.cell? ⟨b, off + j * 3, none⟩ = some (.slice r.A r.l.length r.c) := d1
            replace Hown := Lib.hid (show wr.drew.ownsRow w.heap.size 48 2 (.slice A1 0 c1) 0 (hits (allH (L.take j))) from Hown.out)
            have HB := Lib.hid hB.drew
            replace HR := Lib.hid (show Reads wr.drew wr.drew.heap.size 2 r.A r.l.length (hits r.l) from HR.out)
            go_wp2_with (at_builtin; refine wpList_apr htEl (w0 := w) (by exact Hown.out) (by exact HB.out) (by exact HR.out) hone ?_)
            intro v' w4 hO4 hb4 hg4
            have q3 := (hb4.cell (p := ⟨b, off + j * 3 + 2, none⟩) hb).trans D3
            have hO5 : w4.ownsRow w.heap.size 48 2 v' (0 + r.l.length) (hits (allH (L.take (j + 1)))) := by
              rw [HAn.out, hits_app]; simpa using hO4
            have HO5 := Lib.hid hO5
            have hb4w : b < w4.heap.size := Nat.lt_of_lt_of_le hb hb4.size
            have hD2 : dropF 0 (L.take (j + 1)) = min (D + r.d) 65535 := HDn.out
            clear hd1 hO4 hg4 hO5 Hown HB HR hone HAn HDn d1 D1 D3 hB
            by_cases hmx : 65535 < D + r.d
            · have hD3 : dropF 0 (L.take (j + 1)) = 65535 := by omega
              have HD3 := Lib.hid hD3
              clear hD2 hD3
              go_wp2
              go_roundw
              case rel => exact ⟨j + 1, 0 + r.l.length, 65535, by omega, by go_num, rfl, rfl, rfl, by omega, by omega, HD3, HWn, by omega, HO5.out, hb4⟩
              case measure => simp [intOf]; omega
            · have hD3 : dropF 0 (L.take (j + 1)) = D + r.d := by omega
              have HD3 := Lib.hid hD3
              clear hD2 hD3
              go_wp2
              go_roundw
              case rel => exact ⟨j + 1, 0 + r.l.length, D + r.d, by omega, by go_num, rfl, rfl, rfl, by omega, by omega, HD3, HWn, by omega, HO5.out, hb4⟩
              case measure => simp [intOf]; omega
          · by_cases hr0' : r.l.length = 0
            · have HWn := Lib.hid (show wE none (allH (L.take (j + 1))) = 0 by
                rw [hAn, List.eq_nil_of_length_eq_zero hr0', List.append_nil]; exact hW.out)
              have HDn := Lib.hid hDn
              have HAn := Lib.hid hAn
              have Hown := Lib.hid hown
              have HR := Lib.hid hR
              have hn1 : decide (0 < n) = true := by simp; omega
              have hn2 : decide (0 < r.l.length) = false := by simp [hr0']
              have hd1 : wr.drew.cell? ⟨b, off + j * 3, none⟩ = some (.slice r.A r.l.length r.c) := d1
              clear hDn hAn htk hd hre hwr hrd hown hnl hW hDr hR hr0'
              go_wp2_with fail
              go_region
              clear hn1 hn2
              replace Hown := Lib.hid (show wr.drew.ownsRow w.heap.size 48 2 (.slice A1 n c1) n (hits (allH (L.take j))) from Hown.out)
              have HB := Lib.hid hB.drew
              replace HR := Lib.hid (show Reads wr.drew wr.drew.heap.size 2 r.A r.l.length (hits r.l) from HR.out)
              go_wp2_with (at_builtin; refine wpList_apr htEl (w0 := w) (by exact Hown.out) (by exact HB.out) (by exact HR.out) hone ?_)
              intro v' w4 hO4 hb4 hg4
              have q3 := (hb4.cell (p := ⟨b, off + j * 3 + 2, none⟩) hb).trans D3
              have hO5 : w4.ownsRow w.heap.size 48 2 v' (n + r.l.length) (hits (allH (L.take (j + 1)))) := by
                rw [HAn.out, hits_app]; simpa using hO4
              have HO5 := Lib.hid hO5
              have hb4w : b < w4.heap.size := Nat.lt_of_lt_of_le hb hb4.size
              have hD2 : dropF 0 (L.take (j + 1)) = min (D + r.d) 65535 := HDn.out
              clear hd1 hO4 hg4 hO5 Hown HB HR hone HAn HDn d1 D1 D3 hB
              by_cases hmx : 65535 < D + r.d
              · have hD3 : dropF 0 (L.take (j + 1)) = 65535 := by omega
                have HD3 := Lib.hid hD3
                clear hD2 hD3
                go_wp2
                go_roundw
                case rel => exact ⟨j + 1, n + r.l.length, 65535, by omega, by go_num, rfl, rfl, rfl, by omega, by omega, HD3, HWn, by omega, HO5.out, hb4⟩
                case measure => simp [intOf]; omega
              · have hD3 : dropF 0 (L.take (j + 1)) = D + r.d := by omega
                have HD3 := Lib.hid hD3
                clear hD2 hD3
                go_wp2
                go_roundw
                case rel => exact ⟨j + 1, n + r.l.length, D + r.d, by omega, by go_num, rfl, rfl, rfl, by omega, by omega, HD3, HWn, by omega, HO5.out, hb4⟩
                case measure => simp [intOf]; omega
            · obtain ⟨m, hm⟩ : ∃ m, n = m + 1 := ⟨n - 1, by omega⟩
              rw [hnl] at hrd
              obtain ⟨b2, off2, E2, I2, hA2, hb2, x1, x2, hdx⟩ := htAt hR (k := 0) (by omega)
              obtain ⟨b3, off3, E3, I3, hA3, hb3, y1, y2, hdy⟩ := htAt hrd (k := m) (by omega)
              have hlast : lastP none (allH (L.take j)) = some (E3, I3) := by
                rw [lastP_get, if_neg (by omega), ← hnl]
                have := congrArg (fun z : List Hit => z[0]?) hdy.out
                rw [hm, Nat.add_sub_cancel]
                simpa using this
              have hWn : wE none (allH (L.take (j + 1))) = if abv (E2, I2) (E3, I3) = true then 0 else 6 := by
                have hx := hdx.out
                rw [List.drop_zero] at hx
                rw [hAn, wE_app, hW.out, if_pos rfl, hlast, hx]
                rw [hx] at hwr
                exact wE_behind hwr _
              have hn1 : decide (0 < n) = true := by simp; omega
              have hn2 : decide (0 < r.l.length) = true := by simp; omega
              have hn3 : 0 < r.l.length := by omega
              have hn4 : m < n := by omega
              have hi1 : (0 : Int) < (r.l.length : Int) := by omega
              have hi2 : (0 : Int) ≤ (m : Int) := by omega
              have hi3 : (m : Int) < (n : Int) := by omega
              have hw1 : IntKind.i64.wrap ((n : Int) - 1) = (m : Int) := by
                rw [show (n : Int) - 1 = m by omega]; exact IntWalk.i64_in _ (by omega)
              have hw3 : IntKind.i64.wrap (m : Int) = (m : Int) := IntWalk.i64_in _ (by omega)
              rw [Nat.zero_mul, Nat.add_zero] at x1 x2
              have hT : MgT wr b (off + j * 3) (.slice (some ⟨b2, off2, none⟩) r.l.length r.c) b2 off2 E2 I2 b3 (off3 + m * 2) E3 I3 wr := ⟨⟨Below.refl _ _, hbw, hb2, hb3⟩, by rw [← hA2]; exact d1, x1, x2, y1, y2⟩
              have HDn := Lib.hid hDn
              have HAn := Lib.hid hAn
              have Hown := Lib.hid hown
              have HR := Lib.hid hR
              rw [hA2] at d1
              subst hA3
              have Hd := Lib.hid hd.out
              clear hDn hAn htk hd hre hwr hrd hown hnl hW hDr hR hlast hdx hdy hm hn0 hr0'
              cases hab : abv (E2, I2) (E3, I3) with
              | true =>
                rw [hab, if_pos rfl] at hWn
                have HWn := Lib.hid hWn
                have Hab := Lib.hid hab.symm
                clear hWn hab
                go_wp2_with fail
                go_region_held3 (fun w' => MgT wr b (off + j * 3) (.slice (some ⟨b2, off2, none⟩) r.l.length r.c) b2 off2 E2 I2 b3 (off3 + m * 2) E3 I3 w')
                  (with_reducible (first | exact MgT.drew hT | exact MgT.go (by assumption) hb3'))
                  ((go_at_call 30; refine (above_ (E2, I2) (E3, I3) true Hab _).mono ?_; rintro e w3 ⟨rfl, hb3'⟩))
                have hT3 : MgT wr b (off + j * 3) (.slice (some ⟨b2, off2, none⟩) r.l.length r.c) b2 off2 E2 I2 b3 (off3 + m * 2) E3 I3 w3 := by assumption
                have hbw3 := hT3.1.1
                have q1 : w3.cell? ⟨b, off + j * 3, none⟩ = some (.slice r.A r.l.length r.c) := by rw [hA2]; exact hT3.2.1
                rw [hA2] at q1
                replace Hown := Lib.hid (own_below Hown.out hbw3)
                have HB := Lib.hid (bt hB hbw3)
                replace HR := Lib.hid (HR.out.go hbw3)
                rw [hA2] at HR
                have hb3w : b < w3.heap.size := Nat.lt_of_lt_of_le hbw hbw3.size
                clear hT hT3 hbw3 hn1 hn2 hw1 hw3 hi1 hi2 hi3 hn3 hn4 x1 x2 y1 y2 hb3'
                go_wp2_with (at_builtin; refine wpList_apr htEl (w0 := w) (by exact Hown.out) (by exact HB.out) (by exact HR.out) hone ?_)
                intro v' w4 hO4 hb4 hg4
                have q3 := (hb4.cell (p := ⟨b, off + j * 3 + 2, none⟩) hb).trans D3
                have hO5 : w4.ownsRow w.heap.size 48 2 v' (n + r.l.length) (hits (allH (L.take (j + 1)))) := by
                  rw [HAn.out, hits_app]; simpa using hO4
                have HO5 := Lib.hid hO5
                have hb4w : b < w4.heap.size := Nat.lt_of_lt_of_le hb hb4.size
                have hD2 : dropF 0 (L.take (j + 1)) = min (D + r.d) 65535 := HDn.out
                clear q1 hO4 hg4 hO5 Hown HB HR hone HAn HDn d1 D1 D3 hB
                by_cases hmx : 65535 < D + r.d
                · have hD3 : dropF 0 (L.take (j + 1)) = 65535 := by omega
                  have HD3 := Lib.hid hD3
                  clear hD2 hD3
                  go_wp2
                  go_roundw
                  case rel => exact ⟨j + 1, n + r.l.length, 65535, by omega, by go_num, rfl, rfl, rfl, by omega, by omega, HD3, HWn, by omega, HO5.out, hb4⟩
                  case measure => simp [intOf]; omega
                · have hD3 : dropF 0 (L.take (j + 1)) = D + r.d := by omega
                  have HD3 := Lib.hid hD3
                  clear hD2 hD3
                  go_wp2
                  go_roundw
                  case rel => exact ⟨j + 1, n + r.l.length, D + r.d, by omega, by go_num, rfl, rfl, rfl, by omega, by omega, HD3, HWn, by omega, HO5.out, hb4⟩
                  case measure => simp [intOf]; omega
              | false =>
                rw [hab, if_neg (by decide)] at hWn
                have HWn := Lib.hid hWn
                have Hab := Lib.hid hab.symm
                clear hWn hab
                go_wp2_with fail
                go_region_held3 (fun w' => MgT wr b (off + j * 3) (.slice (some ⟨b2, off2, none⟩) r.l.length r.c) b2 off2 E2 I2 b3 (off3 + m * 2) E3 I3 w')
                  (with_reducible (first | exact MgT.drew hT | exact MgT.go (by assumption) hb3'))
                  ((go_at_call 30; refine (above_ (E2, I2) (E3, I3) false Hab _).mono ?_; rintro e w3 ⟨rfl, hb3'⟩))
                have hT3 : MgT wr b (off + j * 3) (.slice (some ⟨b2, off2, none⟩) r.l.length r.c) b2 off2 E2 I2 b3 (off3 + m * 2) E3 I3 w3 := by assumption
                have hB3 := bt hB hT3.1.1
                have hall : allH L = allH (L.take (j + 1)) ++ allH (L.drop (j + 1)) := by rw [← allH_app, List.take_append_drop]
                have hE6 : mgE L k = 6 := by rw [hE3.out, wrg_two, hall]; exact wE_prefix HWn.out (by decide)
                obtain ⟨m1, m2⟩ := mg_no (L := L) (k := k) (by rw [hE6]; decide)
                have HM := Lib.hid (And.intro m1 (And.intro m2 hE6))
                clear hT hT3 hn1 hn2 hw1 hw3 hi1 hi2 hi3 hn3 hn4 x1 x2 y1 y2 hb3' hE6 m1 m2 hall
                go_wp2
                refine bodyPost_ret (v := .tuple #[.slice none 0 0, .int .i64 0, .int .i64 6]) (by simp [results, go_sem]) rfl ?_
                rw [HM.out.1, HM.out.2.1, HM.out.2.2]
                exact RetMg.nil hB3 rfl rfl
        · obtain rfl : j = L.length := by omega
          rw [List.take_length] at hDr hown hW
          obtain rfl : n = (allH L).length := by
            have := hown.1
            rw [flat2_length] at this
            omega
          have hE4 : mgE L k = 0 := by rw [hE3.out, wrg_two, hW.out]
          have m1 : mgL L k = allH L := if_pos hE4
          have m2 : mgD L k = D := by unfold mgD; rw [if_pos hE4, hDr.out]
          have Hrd := Lib.hid (Reads.of_own hown)
          have HM := Lib.hid (And.intro m1 (And.intro m2 hE4))
          clear hE4 m1 m2 hrd hown
          go_wp2
          refine bodyPost_ret (v := .tuple #[.slice A1 (allH L).length c1, .int .i64 D, .int .i64 0]) (by simp [results, go_sem]) rfl ?_
          rw [HM.out.1, HM.out.2.1, HM.out.2.2]
          exact ⟨A1, c1, rfl, hB, Hrd.out, hcap, hmax⟩
end Go.Proofs.YtokcbdaoofjbgaaDoor
