/- Sets of bytes: Has, Drop, Minus, Not of the reference. No condition. Sets of bytes: Not of the reference. No condition. Sets of bytes: List and Count of the reference. No condition. -/
import Derived.Test.YtcopnpllaoahaaaGreatDoorG3
import Derived.Deep.RegionWith
namespace Go.Proofs.YtcopnpllaoahaaaGreatDoor
open Go.RowKit
theorem bit_mod (x n : Nat) : (((x : Int) / 2 ^ n).tmod 2 == 1) = x.testBit n := by
  have h1 : ((x : Int) / 2 ^ n) = ((x / 2 ^ n : Nat) : Int) := by simp
  rw [h1, Nat.testBit_eq_decide_div_mod_eq, Bool.eq_iff_iff]
  show ((((x / 2 ^ n % 2 : Nat) : Int) == 1) = true) ↔ _
  simp
  omega
set_option maxRecDepth 100000 in
set_option maxHeartbeats 1000000 in
theorem rhas_ (f : Nat → Bool) (b : Nat) (hb : b < 256) (v : Bool) (hv : Hid (f b = v)) (w : World) : Calls Tryz.prog 126 #[stV f, .int .u8 (b : Int)] w fun e w' => e = .returned (.bool v) ∧ Below w.heap.size w w' := by
  have hF0 := ((Fr.start w).newN (g := w.heap.size) rfl (stO f))
  have hq : b / 64 < 4 := by omega
  have hc := stWordAt (hF0.at (g := w.heap.size) (o := stO f) (by simp)) hq
  have Hr := Lib.hid (show v = (wK f (b / 64)).testBit (b % 64) by rw [wK_bit f _ _ (by omega), show 64 * (b / 64) + b % 64 = b by omega, hv.out])
  have q0 : ((b : Int) / 64).toNat = b / 64 := by omega
  have q1 : (0 : Int) ≤ (b : Int) / 64 := by omega
  have q2 : (b : Int) / 64 < 4 := by omega
  have q3 : ((b % 64 : Nat) : Int) < 64 := by omega
  have hB := hF0.bel
  generalize wK f (b / 64) = x at *
  clear hF0
  go_enter Tryz.func126, Tryz.ntmps126
  go_upto_region 1 with fail
  generalize (w.alloc (stO f)) = W0 at *
  go_wp2
  go_ret
  exact ⟨ret_bool (by rw [bit_mod, Hr.out]), hB⟩
set_option maxRecDepth 100000 in
set_option maxHeartbeats 1000000 in
theorem rdrop_yes (f : Nat → Bool) (b : Nat) (hb : b < 256) (hd : f b = true) (w : World) : Calls Tryz.prog 129 #[stV f, .int .u8 (b : Int)] w fun e w' => e = .returned (stV (drK f b)) ∧ Below w.heap.size w w' := by
  have HF0 := Lib.hid (((Fr.start w).newN (g := w.heap.size) rfl (stO f)).newN (g := w.heap.size + 1) (by simp) st0O)
  have HH := Lib.hid (rhas_ f b hb true (Lib.hid hd))
  have hq : b / 64 < 4 := by omega
  have hp : (2 : Nat) ^ (b % 64) < 18446744073709551616 := Nat.lt_of_lt_of_le (Nat.pow_lt_pow_right (by omega) (show b % 64 < 64 by omega)) (by decide)
  have q0 : ((b : Int) / 64).toNat = b / 64 := by omega
  have q1 : (0 : Int) ≤ (b : Int) / 64 := by omega
  have q2 : (b : Int) / 64 < 4 := by omega
  have q3 : ((b % 64 : Nat) : Int) < 64 := by omega
  obtain ⟨hle, hsub⟩ := wK_dr hd
  have Hsub := Lib.hid (show (wK f (b / 64) : Int) - IntKind.u64.wrap (2 ^ (b % 64)) = ((wK (drK f b) (b / 64) : Nat) : Int) by
    rw [wrap_pow _ (by omega), ← hsub]; omega)
  have Hlt := Lib.hid (wK_lt (drK f b) (b / 64))
  clear hle hsub hd hp
  go_enter Tryz.func129, Tryz.ntmps129
  go_upto_region 1 with fail
  generalize (w.alloc (stO f)).alloc st0O = W0 at *
  obtain ⟨⟨c0, c1, c2, c3⟩, ⟨f0, f1, f2, f3⟩, hl0⟩ := bx4 (HF0.out.at (g := w.heap.size) (o := stO f) (by simp))
  go_wp2_with fail
  (with_reducible refine (HH.out _).mono ?_); rintro e w1 ⟨rfl, hb1⟩
  have hF1 := HF0.out.go hb1
  clear c0 c1 c2 c3 f0 f1 f2 f3 hl0 hb1 HF0 HH
  have hc := stWordAt (hF1.at (g := w.heap.size) (o := stO f) (by simp)) hq
  have hfz := Lib.frozen_of_heap (hF1.at (g := w.heap.size) (o := stO f) (by simp)) (b / 64)
  have hlt := hF1.lt (g := w.heap.size) (o := stO f) (by simp)
  have HF2 := Lib.hid (Fr.stWord (k := b / 64) (f := f) (h := drK f b) (hF1.sub (M := [(w.heap.size, stO f), (w.heap.size + 1, st0O)]) (by simp)) (Nat.le_refl _) (by simp) hq (fun j hj => wK_dr_other f b hj))
  have hsub := Hsub.out
  have hlt2 := Hlt.out
  generalize wK (drK f b) (b / 64) = y at *
  generalize wK f (b / 64) = x at *
  clear hF1 Hsub Hlt
  go_upto_region 3 with fail
  generalize w1.setCell ⟨w.heap.size, b / 64, none⟩ (.int .u64 (y : Int)) = W1 at *
  obtain ⟨⟨c0, c1, c2, c3⟩, _⟩ := bx4 (HF2.out.at (g := w.heap.size) (o := stO (drK f b)) (by simp))
  obtain ⟨⟨d0, d1, d2, d3⟩, ⟨f0, f1, f2, f3⟩, hlt1⟩ := bx4 (HF2.out.at (g := w.heap.size + 1) (o := st0O) (by simp))
  have hB := HF2.out.bel
  clear hc hsub q0 q1 q2 q3 hfz hlt
  go_wp2
  refine bodyPost_ret (v := stV (drK f b)) (by simp [results, go_sem, d0, d1, d2, d3]) rfl ⟨rfl, ?_⟩
  repeat' (first | with_reducible exact hB | with_reducible refine bs ?_ ?_ | (simp only; omega))
set_option maxRecDepth 100000 in
set_option maxHeartbeats 1000000 in
theorem rdrop_no (f : Nat → Bool) (b : Nat) (hb : b < 256) (hd : f b = false) (w : World) : Calls Tryz.prog 129 #[stV f, .int .u8 (b : Int)] w fun e w' => e = .returned (stV f) ∧ Below w.heap.size w w' := by
  have HF0 := Lib.hid (((Fr.start w).newN (g := w.heap.size) rfl (stO f)).newN (g := w.heap.size + 1) (by simp) st0O)
  have HH := Lib.hid (rhas_ f b hb false (Lib.hid hd))
  clear hd
  go_enter Tryz.func129, Tryz.ntmps129
  go_upto_region 1 with fail
  generalize (w.alloc (stO f)).alloc st0O = W0 at *
  obtain ⟨⟨c0, c1, c2, c3⟩, ⟨f0, f1, f2, f3⟩, hl0⟩ := bx4 (HF0.out.at (g := w.heap.size) (o := stO f) (by simp))
  go_wp2_with fail
  (with_reducible refine (HH.out _).mono ?_); rintro e w1 ⟨rfl, hb1⟩
  have hF1 := HF0.out.go hb1
  clear c0 c1 c2 c3 f0 f1 f2 f3 hl0 hb1 HF0 HH
  obtain ⟨⟨c0, c1, c2, c3⟩, _⟩ := bx4 (hF1.at (g := w.heap.size) (o := stO f) (by simp))
  obtain ⟨⟨d0, d1, d2, d3⟩, ⟨f0, f1, f2, f3⟩, hlt1⟩ := bx4 (hF1.at (g := w.heap.size + 1) (o := st0O) (by simp))
  have hB := hF1.bel
  clear hF1
  go_wp2
  refine bodyPost_ret (v := stV f) (by simp [results, go_sem, d0, d1, d2, d3]) rfl ⟨rfl, ?_⟩
  repeat' (first | with_reducible exact hB | with_reducible refine bs ?_ ?_ | (simp only; omega))
theorem rdrop_ (f : Nat → Bool) (b : Nat) (hb : b < 256) (w : World) : Calls Tryz.prog 129 #[stV f, .int .u8 (b : Int)] w fun e w' => e = .returned (stV (drK f b)) ∧ Below w.heap.size w w' := by
  rcases hd : f b with _ | _
  · have e : stV (drK f b) = stV f := stV_congr fun i _ => by
      unfold drK
      by_cases h : i = b
      · subst h; rw [hd]; rfl
      · rw [decide_eq_false h]; simp
    rw [e]
    exact rdrop_no f b hb hd w
  · exact rdrop_yes f b hb hd w
/-- the bytes below k of g are struck from f -/
def mnK (f g : Nat → Bool) (k i : Nat) : Bool := f i && !(decide (i < k) && g i)
theorem mnK_zero (f g : Nat → Bool) : mnK f g 0 = f := by funext i; unfold mnK; simp
theorem mnK_yes {f g : Nat → Bool} {k : Nat} (h : g k = true) : drK (mnK f g k) k = mnK f g (k + 1) := by
  funext i
  unfold drK mnK
  by_cases e : i = k
  · subst e; rw [h, decide_eq_true (show i < i + 1 by omega)]; simp
  · by_cases h2 : i < k
    · rw [decide_eq_true h2, decide_eq_true (show i < k + 1 by omega), decide_eq_false e]; simp
    · rw [decide_eq_false h2, decide_eq_false (show ¬ i < k + 1 by omega), decide_eq_false e]; simp
theorem mnK_no {f g : Nat → Bool} {k : Nat} (h : g k = false) : mnK f g k = mnK f g (k + 1) := by
  funext i
  unfold mnK
  by_cases e : i = k
  · subst e; rw [h]; simp
  · by_cases h2 : i < k
    · rw [decide_eq_true h2, decide_eq_true (show i < k + 1 by omega)]
    · rw [decide_eq_false h2, decide_eq_false (show ¬ i < k + 1 by omega)]
set_option maxRecDepth 100000 in
set_option maxHeartbeats 2000000 in
theorem rminus_ (f g : Nat → Bool) (w : World) : Calls Tryz.prog 118 #[stV f, stV g] w fun e w' => e = .returned (stV (mnK f g 256)) ∧ Below w.heap.size w w' := by
  have HF0 := Lib.hid ((((Fr.start w).newN (g := w.heap.size) rfl (stO f)).newN (g := w.heap.size + 1) (by simp) (stO g)).newN (g := w.heap.size + 2) (by simp) st0O)
  go_enter Tryz.func118, Tryz.ntmps118
  go_upto_region 1 with fail
  generalize ((w.alloc (stO f)).alloc (stO g)).alloc st0O = W0 at *
  go_wp2
  go_loopw [5] (fun i wr => ∃ k : Nat, k ≤ 256 ∧ i = .int .i64 (k : Int) ∧ Hid (Fr w [(w.heap.size, stO (mnK f g k)), (w.heap.size + 1, stO g), (w.heap.size + 2, st0O)] wr)) (fun i _ => 256 - (intOf i).toNat)
  case atStart => exact ⟨0, by omega, rfl, Lib.hid (by rw [mnK_zero]; exact HF0.out.sub (by simp))⟩
  case round =>
    obtain ⟨k, hk, rfl, HF⟩ := hrel
    clear HF0
    by_cases hlt : k < 256
    case neg =>
      have i1 : ¬ ((k : Int) < 256) := by omega
      obtain rfl : k = 256 := by omega
      obtain ⟨⟨c0, c1, c2, c3⟩, _⟩ := bx4 (HF.out.at (g := w.heap.size) (o := stO (mnK f g 256)) (by simp))
      obtain ⟨⟨d0, d1, d2, d3⟩, ⟨f0, f1, f2, f3⟩, hlt1⟩ := bx4 (HF.out.at (g := w.heap.size + 2) (o := st0O) (by simp))
      have hB := HF.out.bel
      clear HF
      go_wp2
      refine bodyPost_ret (v := stV (mnK f g 256)) (by simp [results, go_sem, d0, d1, d2, d3]) rfl ⟨rfl, ?_⟩
      repeat' (first | with_reducible exact hB | with_reducible refine bs ?_ ?_ | (simp only; omega))
    have i1 : (k : Int) < 256 := by omega
    have i2 : IntKind.u8.wrap (k : Int) = (k : Int) := by simp [IntKind.wrap, IntKind.bits, IntKind.signed]; omega
    obtain ⟨⟨c0, c1, c2, c3⟩, _, _⟩ := bx4 (HF.out.at (g := w.heap.size + 1) (o := stO g) (by simp))
    rcases hg : g k with _ | _
    · have HH := Lib.hid (rhas_ g k hlt false (Lib.hid hg))
      rw [mnK_no hg] at HF
      clear hg
      go_wp2_with fail
      (with_reducible refine (HH.out _).mono ?_); rintro e w1 ⟨rfl, hb1⟩
      have HF1 := Lib.hid (HF.out.go hb1)
      clear hb1 HF HH c0 c1 c2 c3
      go_wp2
      go_roundw
      case rel => exact ⟨k + 1, by omega, by go_num, HF1⟩
      case measure => (simp [intOf]) <;> omega
    · have HH := Lib.hid (rhas_ g k hlt true (Lib.hid hg))
      have HD := Lib.hid (rdrop_ (mnK f g k) k hlt)
      rw [mnK_yes hg] at HD
      clear hg
      go_wp2_with fail
      (with_reducible refine (HH.out _).mono ?_); rintro e w1 ⟨rfl, hb1⟩
      have HF1 := Lib.hid (HF.out.go hb1)
      clear hb1 HF HH c0 c1 c2 c3
      obtain ⟨⟨c0, c1, c2, c3⟩, _, _⟩ := bx4 (HF1.out.at (g := w.heap.size) (o := stO (mnK f g k)) (by simp))
      go_wp2_with fail
      (with_reducible refine (HD.out _).mono ?_); rintro e w2 ⟨rfl, hb2⟩
      have hF2 := HF1.out.go hb2
      clear hb2 HF1 HD c0 c1 c2 c3
      obtain ⟨_, ⟨f0, f1, f2, f3⟩, hl2⟩ := bx4 (hF2.at (g := w.heap.size) (o := stO (mnK f g k)) (by simp))
      have HF3 := Lib.hid (Fr.stPut (h := mnK f g (k + 1)) hF2 (Nat.le_refl _) (by simp))
      clear hF2
      go_wp2
      go_roundw
      case rel => exact ⟨k + 1, by omega, by go_num, HF3⟩
      case measure => (simp [intOf]) <;> omega
end Go.Proofs.YtcopnpllaoahaaaGreatDoor
namespace Go.Proofs.YtcopnpllaoahaaaGreatDoor
open Go.RowKit
set_option maxRecDepth 100000 in
set_option maxHeartbeats 2000000 in
theorem rnot_ (f : Nat → Bool) (w : World) : Calls Tryz.prog 91 #[stV f] w fun e w' => e = .returned (stV fun i => !f i) ∧ Below w.heap.size w w' := by
  have HA := Lib.hid rall_
  have hm := rminus_ (fun _ => true) f
  have hst : stV (mnK (fun _ => true) f 256) = stV fun i => !f i := stV_congr fun i hi => by unfold mnK; rw [decide_eq_true hi]; simp
  rw [hst] at hm
  have HM := Lib.hid hm
  have HF0 := Lib.hid (((Fr.start w).newN (g := w.heap.size) rfl (stO f)).newN (g := w.heap.size + 1) (by simp) st0O)
  clear hm hst
  obtain ⟨fa, hfa⟩ : ∃ f : Nat → Bool, f = fun _ => true := ⟨_, rfl⟩
  obtain ⟨fn, hfn⟩ : ∃ g : Nat → Bool, g = fun i => !f i := ⟨_, rfl⟩
  rw [← hfa] at HA HM
  rw [← hfn] at HM
  rw [← hfn]
  clear hfa hfn
  go_enter Tryz.func91, Tryz.ntmps91
  go_upto_region 1 with fail
  generalize (w.alloc (stO f)).alloc st0O = W0 at *
  obtain ⟨⟨c0, c1, c2, c3⟩, _, _⟩ := bx4 (HF0.out.at (g := w.heap.size) (o := stO f) (by simp))
  go_region_with ((first
    | (go_at_call 12; refine (HA.out _).mono ?_; rintro e w1 ⟨rfl, hb1⟩; have HF1 := Lib.hid (HF0.out.drew.go hb1); obtain ⟨⟨c0, c1, c2, c3⟩, _, _⟩ := bx4 (HF1.out.at (g := w.heap.size) (o := stO f) (by simp)))
    | (go_at_call 118; refine (HM.out _).mono ?_; rintro e w2 ⟨rfl, hb2⟩; have HF2 := Lib.hid (HF1.out.go hb2); obtain ⟨⟨d0, d1, d2, d3⟩, ⟨f0, f1, f2, f3⟩, hl⟩ := bx4 (HF2.out.at (g := w.heap.size + 1) (o := st0O) (by simp)))))
  all_goals
    have hB := HF2.out.bel
    go_wp2
    refine bodyPost_ret (v := stV fn) (by simp [results, go_sem, d0, d1, d2, d3]) rfl ⟨rfl, ?_⟩
    repeat' (first | with_reducible exact hB | with_reducible refine bs ?_ ?_ | (simp only; omega))
end Go.Proofs.YtcopnpllaoahaaaGreatDoor
namespace Go.Proofs.YtcopnpllaoahaaaGreatDoor
open Go.RowKit
def mbT (f : Nat → Bool) (k : Nat) : List Nat := (List.range k).filter f
theorem mbT_all (f : Nat → Bool) : mbT f 256 = mbK f := rfl
theorem mbT_yes {f : Nat → Bool} {k : Nat} (h : f k = true) : mbT f (k + 1) = mbT f k ++ [k] := by
  unfold mbT
  rw [List.range_succ, List.filter_append]
  simp [h]
theorem mbT_no {f : Nat → Bool} {k : Nat} (h : f k = false) : mbT f (k + 1) = mbT f k := by
  unfold mbT
  rw [List.range_succ, List.filter_append]
  simp [h]
theorem mbT_len (f : Nat → Bool) (k : Nat) : (mbT f k).length ≤ k := by
  have := List.length_filter_le f (List.range k)
  rw [List.length_range] at this
  exact this
def b8V (b : Nat) : Value := .int .u8 (b : Int)
abbrev b8s (l : List Nat) : List Value := l.map b8V
/-- what List answers -/
def RetLs (l : List Nat) (w : World) (e : Ending) (w' : World) : Prop :=
  ∃ A c, e = .returned (.slice A l.length c) ∧ Below w.heap.size w w' ∧ Reads w' w'.heap.size 1 A l.length (b8s l)
set_option maxRecDepth 100000 in
set_option maxHeartbeats 2000000 in
theorem rlist_ (f : Nat → Bool) (w : World) : Calls Tryz.prog 115 #[stV f] w (RetLs (mbK f) w) := by
  have HF0 := Lib.hid ((Fr.start w).newN (g := w.heap.size) rfl (stO f))
  go_enter Tryz.func115, Tryz.ntmps115
  go_upto_region 1 with fail
  generalize (w.alloc (stO f)) = W0 at *
  go_wp2
  go_loopw [3, 4] (fun v i wr => ∃ k : Nat, k ≤ 256 ∧ i = .int .i64 (k : Int) ∧ wr.ownsRow W0.heap.size 5 1 v (mbT f k).length (b8s (mbT f k)) ∧ Hid (Below W0.heap.size W0 wr)) (fun _ i _ => 256 - (intOf i).toNat)
  case atStart => exact ⟨0, by omega, rfl, World.ownsRow_nil _ _ _ _, Lib.hid (Below.refl _ _)⟩
  case round =>
    obtain ⟨k, hk, rfl, hown, HB⟩ := hrel
    have HF := Lib.hid (HF0.out.go HB.out)
    have hml := mbT_len f k
    by_cases hlt : k < 256
    case neg =>
      have i1 : ¬ ((k : Int) < 256) := by omega
      obtain rfl : k = 256 := by omega
      rw [mbT_all] at hown
      obtain ⟨A, c0, rfl, hrd, hcp, hcm⟩ := own_sl hown
      have hB := HF.out.bel
      have HRd := Lib.hid hrd
      clear hown hrd HF hml
      go_wp2
      go_ret
      exact ⟨A, c0, rfl, hB, HRd.out⟩
    have i1 : (k : Int) < 256 := by omega
    have i2 : IntKind.u8.wrap (k : Int) = (k : Int) := by simp [IntKind.wrap, IntKind.bits, IntKind.signed]; omega
    obtain ⟨⟨c0, c1, c2, c3⟩, _, _⟩ := bx4 (HF.out.at (g := w.heap.size) (o := stO f) (by simp))
    have HO := Lib.hid hown
    clear hown
    rcases hg : f k with _ | _
    · have HH := Lib.hid (rhas_ f k hlt false (Lib.hid hg))
      have Hst := Lib.hid (mbT_no hg)
      clear hg
      go_wp2_with fail
      (with_reducible refine (HH.out _).mono ?_); rintro e w1 ⟨rfl, hb1⟩
      have HO1 := Lib.hid (own_below HO.out hb1)
      have HB1 := Lib.hid (bt HB.out hb1)
      clear hb1 HF HH HO HB c0 c1 c2 c3
      go_wp2
      go_roundw
      case rel => exact ⟨k + 1, by omega, by go_num, by rw [Hst.out]; exact HO1.out, HB1⟩
      case measure => (simp [intOf]) <;> omega
    · have HH := Lib.hid (rhas_ f k hlt true (Lib.hid hg))
      have Hst := Lib.hid (mbT_yes hg)
      clear hg
      go_wp2_with fail
      (with_reducible refine (HH.out _).mono ?_); rintro e w1 ⟨rfl, hb1⟩
      have HO1 := Lib.hid (own_below HO.out hb1)
      have HB1 := Lib.hid (bt HB.out hb1)
      clear hb1 HF HH HO HB c0 c1 c2 c3
      go_wp2_with (at_builtin; refine wpList_ap u8El (HO1.out.alloc _) (ba HB1.out _) [.int .u8 (k : Int)] (alloc1_new _ _) ?_)
      intro g cap w3 hown3 hb3 hg3
      have HO3 := Lib.hid (show w3.ownsRow W0.heap.size 5 1 (.slice (some ⟨g, 0, none⟩) (mbT f (k + 1)).length cap) (mbT f (k + 1)).length (b8s (mbT f (k + 1))) by
        rw [Hst.out, List.length_append, b8s, List.map_append]; exact hown3)
      have HLn := Lib.hid (show (mbT f (k + 1)).length = (mbT f k).length + 1 by rw [Hst.out, List.length_append]; rfl)
      have HB3 := Lib.hid hb3
      clear hown3 hb3 hg3
      go_wp2
      go_roundw
      case rel => exact ⟨k + 1, by omega, by go_num, by rw [← HLn.out]; exact HO3.out, HB3⟩
      case measure => (simp [intOf]) <;> omega
set_option maxRecDepth 100000 in
set_option maxHeartbeats 1000000 in
theorem rcount_ (f : Nat → Bool) (n : Nat) (hn : Hid ((mbK f).length = n)) (w : World) : Calls Tryz.prog 89 #[stV f] w fun e w' => e = .returned (.int .i64 (n : Int)) ∧ Below w.heap.size w w' := by
  have HF0 := Lib.hid ((Fr.start w).newN (g := w.heap.size) rfl (stO f))
  have HL := Lib.hid (rlist_ f)
  go_enter Tryz.func89, Tryz.ntmps89
  go_upto_region 1 with fail
  generalize (w.alloc (stO f)) = W0 at *
  obtain ⟨⟨c0, c1, c2, c3⟩, _, _⟩ := bx4 (HF0.out.at (g := w.heap.size) (o := stO f) (by simp))
  go_wp2_with fail
  (with_reducible refine (HL.out _).mono ?_); rintro e w1 ⟨A, c, rfl, hb1, _⟩
  have hB := (HF0.out.go hb1).bel
  have hz := hn.out
  go_wp2
  go_ret
  exact ⟨by rw [← hz]; rfl, hB⟩
end Go.Proofs.YtcopnpllaoahaaaGreatDoor
