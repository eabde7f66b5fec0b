/- ReportFixed: Decode of Encode is the report, Encode of what Decode accepts are the bytes. -/
import Derived.Test.YtokcbdaoofjbgaaDoorReportBytes
namespace Go.Proofs.YtokcbdaoofjbgaaDoor
open Go.RowKit
theorem ofNat_inj {x y : Int} (hx : 0 ≤ x ∧ x ≤ 255) (hy : 0 ≤ y ∧ y ≤ 255) : UInt8.ofNat x.toNat = UInt8.ofNat y.toNat ↔ x = y := by
  constructor
  · intro h
    have := congrArg UInt8.toNat h
    rw [UInt8.toNat_ofNat', UInt8.toNat_ofNat'] at this
    omega
  · rintro rfl; rfl
theorem encE_cap {l : List Hit} {o : Bool} {d k : Int} (h : capK k = false) : encE l o d k = 7 := by unfold encE chkR; rw [if_pos h]
theorem encR_len {l : List Hit} {o : Bool} {d k : Int} (h : encE l o d k = 0) (hk : capK k = true) : ((encR l o d k).length : Int) = 5 + 6 * k := by
  have hk2 := capK_iff.1 hk
  obtain ⟨_, hl, _⟩ := chkR_ok h
  unfold encR
  rw [if_pos h, encL_len _ _ _ _ (by omega)]
  omega
theorem decR_no {B : List Int} {k : Int} (h : (decR B k).er ≠ 0) : (decR B k).l = [] := by
  have key : ∀ q : Dec, q = decR B k → q.er ≠ 0 → q.l = [] := by
    intro q hq h
    unfold decR at hq
    repeat' split at hq
    all_goals first
      | (subst hq; rfl)
      | (unfold decQ at hq
         split at hq
         · subst hq; exact absurd rfl h
         · subst hq; rfl)
  exact key _ rfl h
set_option maxRecDepth 100000 in
set_option maxHeartbeats 4000000 in
theorem reportFixed_walk (w : World) (A : Option Addr) (c : Nat) (l : List Hit) (o : Bool) (d : Int) (h : Reads w w.heap.size 2 A l.length (hits l)) (hc : l.length ≤ c ∧ c ≤ 9223372036854775807) (_hd : -9223372036854775808 ≤ d ∧ d ≤ 9223372036854775807)
    (A' : Option Addr) (c' : Nat) (B : List Int) (h' : Reads w w.heap.size 1 A' B.length (u8s B)) (hx : ∀ x ∈ B, (0 : Int) ≤ x ∧ x ≤ 255) (hc' : B.length ≤ c' ∧ c' ≤ 9223372036854775807) (k : Int) (_hk : (Lit.int .i64 k).wf = true) (hP : Pow w) :
    Calls Tryd.prog 7 #[repV A l.length c o d, .slice A' B.length c', .int .i64 k] w fun e w' => e = .returned (.bool true) ∧ Below w.heap.size w w' := by
  have hl : l.length ≤ 9223372036854775807 := Nat.le_trans hc.1 hc.2
  have HP := Lib.hid hP
  have hF := (Fr.start w).newN rfl (repO A l.length c o d)
  have He1 := Lib.hid (fun w1 (hb : Below w.heap.size w w1) => encode_any w1 A c l (h.go hb) hl o d k)
  have He3 := Lib.hid (fun w1 (hb : Below w.heap.size w w1) => decode_any w1 A' c' B (h'.go hb) hx hc' k)
  have HRl := Lib.hid h
  have HRB := Lib.hid h'
  have HX := Lib.hid hx
  have hO := hF.at (g := w.heap.size) List.mem_cons_self
  have c0 := Lib.cell_of_heap hO 0
  have c1 := Lib.cell_of_heap hO 1
  have c2 := Lib.cell_of_heap hO 2
  have HF := Lib.hid hF
  have hBl : B.length ≤ 9223372036854775807 := Nat.le_trans hc'.1 hc'.2
  clear hP hF h h' hO hx hc hc'
  by_cases h100 : 100 < l.length
  · go_enter Tryd.func7, Tryd.ntmps7
    go_wp2_with fail
    (with_reducible refine (shown_ _ (by exact HP.out.below HF.out.bel)).mono ?_); rintro e w1 ⟨rfl, hb1⟩
    have hB := (HF.out.go hb1).bel
    go_wp2
    go_ret
    exact ⟨rfl, hB⟩
  by_cases h300 : 300 < B.length
  · go_enter Tryd.func7, Tryd.ntmps7
    go_wp2_with fail
    (with_reducible refine (shown_ _ (by exact HP.out.below HF.out.bel)).mono ?_); rintro e w1 ⟨rfl, hb1⟩
    have hB := (HF.out.go hb1).bel
    go_wp2
    go_ret
    exact ⟨rfl, hB⟩
  by_cases hcap : capK k = false
  · have hs1 : sizeI k = 0 := by unfold sizeI; rw [hcap]; rfl
    have hs2 : sizeE k = 7 := by unfold sizeE; rw [hcap]; rfl
    have hE := encE_cap (l := l) (o := o) (d := d) hcap
    have hR : encR l o d k = [] := if_neg (by rw [hE]; decide)
    have hsz := size_ k
    rw [hs1, hs2] at hsz
    have Hsz := Lib.hid hsz
    have He2 := Lib.hid (fun w1 hb => by have := He1.out w1 hb; rw [hR, hE] at this; exact this)
    clear hs1 hs2 hE hR hsz hcap He1 He3
    go_enter Tryd.func7, Tryd.ntmps7
    go_wp2_with fail
    (with_reducible refine (Hsz.out _).mono ?_); rintro e w1 ⟨rfl, rfl⟩
    go_wp2_with fail
    (with_reducible refine (He2.out _ HF.out.bel).mono ?_); rintro e w1 ⟨A1, c1', rfl, hb1, hr1, _, _⟩
    have HF1 := Lib.hid (HF.out.go hb1)
    clear c0 c1 c2 hb1 hr1 HF
    go_wp2_with fail
    (with_reducible refine (shown_ _ (by exact HP.out.below HF1.out.bel)).mono ?_); rintro e w6 ⟨rfl, hb6⟩
    have hB := (HF1.out.go hb6).bel
    go_wp2
    go_ret
    exact ⟨rfl, hB⟩
  have hcap : capK k = true := by simpa using hcap
  have hk12 := capK_iff.1 hcap
  have hs1 : sizeI k = 5 + 6 * k := by unfold sizeI; rw [hcap]; rfl
  have hs2 : sizeE k = 0 := by unfold sizeE; rw [hcap]; rfl
  have hsz := size_ k
  rw [hs1, hs2] at hsz
  have Hsz := Lib.hid hsz
  have Hcap := Lib.hid hcap
  clear hs1 hs2 hsz hcap
  go_enter Tryd.func7, Tryd.ntmps7
  go_wp2_with fail
  (with_reducible refine (Hsz.out _).mono ?_); rintro e w1 ⟨rfl, rfl⟩
  go_wp2_with fail
  (with_reducible refine (He1.out _ HF.out.bel).mono ?_); rintro e w1 ⟨A1, c1', rfl, hb1, hr1, hn1, hm1⟩
  have HF1 := Lib.hid (HF.out.go hb1)
  have HR1 := Lib.hid hr1
  clear c0 c1 c2 hb1 hr1 He1 HF
  have c0 := Lib.cell_of_heap (HF1.out.at (g := w.heap.size) List.mem_cons_self) 0
  have c1 := Lib.cell_of_heap (HF1.out.at (g := w.heap.size) List.mem_cons_self) 1
  have c2 := Lib.cell_of_heap (HF1.out.at (g := w.heap.size) List.mem_cons_self) 2
  have Hn1 := Lib.hid (And.intro hn1 hm1)
  clear hn1 hm1
  go_upto_if 56 with (fail)
  go_cut [10] (fun _ wx => Below w.heap.size w wx)
  case first =>
    by_cases hE : encE l o d k = 0
    · have hlen := encR_len hE Hcap.out
      have hdec := Lib.hid (enc_dec hE)
      have he2 := decode_any w1 A1 c1' (encR l o d k) HR1.out (encR_bytes l o d k) Hn1.out k
      rw [hdec.out] at he2
      rw [hE]
      have He2 := Lib.hid he2
      generalize encR l o d k = X at *
      have hne : ((X.length : Int) != 5 + 6 * k) = false := by simp [hlen]
      have hne2 : ((5 + 6 * k : Int) != 5 + 6 * k) = false := by simp
      clear he2 hE hlen
      go_wp2_with fail
      (with_reducible refine (He2.out).mono ?_); rintro e w3 ⟨A3, c3, rfl, hb3, hr3, hl3, hm3⟩
      have HF3 := Lib.hid ((HF1.out.go hb3).new (repO A3 l.length c3 o d))
      have heq := Lib.hid (equal_ _ A3 A c3 c l l (hr3.al (repO A3 l.length c3 o d)) (HRl.out.go HF3.out.bel) hl o o d d true (Lib.hid (by simp [eqR])))
      clear c0 c1 c2 hb3 hr3 hl3 hm3
      have g1 := HF3.out.at (List.mem_cons_of_mem _ List.mem_cons_self)
      have g2 := HF3.out.at List.mem_cons_self
      have k10 := Lib.cell_of_heap g1 0
      have k11 := Lib.cell_of_heap g1 1
      have k12 := Lib.cell_of_heap g1 2
      have k20 := Lib.cell_of_heap g2 0
      have k21 := Lib.cell_of_heap g2 1
      have k22 := Lib.cell_of_heap g2 2
      clear g1 g2
      go_wp2_with fail
      (with_reducible refine (heq.out).mono ?_); rintro e w5 ⟨rfl, hb5⟩
      have hB5 := (HF3.out.go hb5).bel
      clear hb5 k10 k11 k12 k20 k21 k22
      go_wp2
      go_meet
      exact hB5
    · generalize hEE : encE l o d k = E at *
      have e1 : (E == 0) = false := by simpa using hE
      have hB1 := HF1.out.bel
      clear hE hEE
      go_wp2
      go_meet
      exact hB1
  case rest =>
    clear HF1 HR1 Hn1 c0 c1 c2
    go_wp2_with fail
    (with_reducible refine (He3.out _ hcut).mono ?_); rintro e w3 ⟨A3, c3, rfl, hb3, hr3, hl3, hm3⟩
    have HF3 := Lib.hid ((Fr.nil (bt hcut hb3)).new (repO A3 (decR B k).l.length c3 (decR B k).o (decR B k).d))
    clear hb3 hcut He3
    by_cases hE : (decR B k).er = 0
    · obtain ⟨hch, hen, hat⟩ := dec_enc HX.out hE
      have hl3' : (decR B k).l.length ≤ 9223372036854775807 := Nat.le_trans hl3 hm3
      have hck := check_ _ A3 c3 (decR B k).l (hr3.al (repO A3 (decR B k).l.length c3 (decR B k).o (decR B k).d)) hl3' (decR B k).o (decR B k).d k
      rw [hch] at hck
      have Hck := Lib.hid hck
      have hen2 : encE (decR B k).l (decR B k).o (decR B k).d k = 0 := by unfold encE; rw [hch]
      have Hr3 := Lib.hid (hr3.al (repO A3 (decR B k).l.length c3 (decR B k).o (decR B k).d))
      have He4 := Lib.hid (fun w1 (hb : Below (w3.alloc (repO A3 (decR B k).l.length c3 (decR B k).o (decR B k).d)).heap.size (w3.alloc (repO A3 (decR B k).l.length c3 (decR B k).o (decR B k).d)) w1) => by
        have := encode_any w1 A3 c3 (decR B k).l (Hr3.out.go hb) hl3' (decR B k).o (decR B k).d k
        rw [hen, hen2] at this
        exact this)
      rw [hE, hat]
      generalize (decR B k).o = O at *
      generalize (decR B k).d = D at *
      generalize (decR B k).l.length = N at *
      have g2 := HF3.out.at List.mem_cons_self
      have k20 := Lib.cell_of_heap g2 0
      have k21 := Lib.cell_of_heap g2 1
      have k22 := Lib.cell_of_heap g2 2
      clear hch hen hat hck hen2 hE hr3 hl3 hm3 hl3' g2 Hr3
      go_wp2_with fail
      (with_reducible refine (Hck.out).mono ?_); rintro e w4 ⟨rfl, hb4⟩
      have HF4 := Lib.hid (HF3.out.go hb4)
      have He5 := Lib.hid (He4.out _ hb4)
      clear hb4 k20 k21 k22 HF3 He4
      have g2 := HF4.out.at List.mem_cons_self
      have k20 := Lib.cell_of_heap g2 0
      have k21 := Lib.cell_of_heap g2 1
      have k22 := Lib.cell_of_heap g2 2
      clear g2
      go_wp2_with fail
      (with_reducible refine (He5.out).mono ?_); rintro e w5 ⟨A5, c5, rfl, hb5, hr5, _, _⟩
      have HF5 := Lib.hid (HF4.out.go hb5)
      have hv1 := conv_u8s (c := c5) hr5 HX.out
      have hv2 := conv_u8s (c := c') (HRB.out.go HF5.out.bel) HX.out
      clear hb5 hr5 k20 k21 k22 HF4
      go_wp2_with fail
      (with_reducible refine (shown_ _ (by exact HP.out.below HF5.out.bel)).mono ?_); rintro e w6 ⟨rfl, hb6⟩
      have hB := (HF5.out.go hb6).bel
      clear hv1 hv2
      go_wp2
      go_ret
      exact ⟨rfl, hB⟩
    · have hno := decR_no hE
      generalize hEE : (decR B k).er = E at *
      have e1 : (E != 0) = true := by simpa using hE
      generalize (decR B k).o = O at *
      generalize (decR B k).d = D at *
      rw [hno] at HF3 ⊢
      replace HF3 : Hid (Fr w [(w3.heap.size, repO A3 0 c3 O D)] (w3.alloc (repO A3 0 c3 O D))) := HF3
      have g2 := HF3.out.at List.mem_cons_self
      have k20 := Lib.cell_of_heap g2 0
      clear hE hEE g2 hno hr3 hl3 hm3
      go_wp2_with fail
      (with_reducible refine (shown_ _ (by exact HP.out.below HF3.out.bel)).mono ?_); rintro e w6 ⟨rfl, hb6⟩
      have hB := (HF3.out.go hb6).bel
      go_wp2
      go_ret
      exact ⟨rfl, hB⟩
end Go.Proofs.YtokcbdaoofjbgaaDoor
