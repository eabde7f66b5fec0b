/- Traces: Print of the reference. No condition. -/
import Derived.Test.YtpgojecldmcopaaGreatDoorT26
import Derived.Test.YtpgojecldmcopaaGreatDoorT21
import Derived.Test.YtpgojecldmcopaaGreatDoorDig
import Derived.BigQuiet
import Derived.Deep.CutBlock
import Derived.Deep.CutRange
namespace Go.Proofs.YtpgojecldmcopaaGreatDoor
open Go.RowKit
theorem rdT (n : Int) (x : ByteArray) (hx : Hid (x = Dg n)) (h0 : 0 ≤ n) (h1 : n ≤ 9223372036854775807) (w : World) :
    Calls Tryz.prog 27 #[.int .i64 n] w fun e w' => e = .returned (.string x) ∧ Below w.heap.size w w' := by
  rw [hx.out]
  obtain ⟨N, rfl⟩ : ∃ N : Nat, n = N := ⟨n.toNat, by omega⟩
  exact rdig_pos N (by omega) w
theorem rwordO (K : Int) (x : ByteArray) (hx : Hid (x = kwd K)) (hK : K = 1 ∨ K = 2) (w : World) :
    Calls Tryz.prog 26 #[.int .i32 K] w fun e w' => e = .returned (.string x) ∧ Below w.heap.size w w' := by
  rw [hx.out]
  exact (rword_ K hK w).mono fun e w' ⟨h1, h2⟩ => ⟨h1, h2 ▸ Below.refl _ _⟩
abbrev RpS (w wi : World) (b p : Nat) (K a : Int) : Prop := (Below w.heap.size w wi ∧ b < w.heap.size) ∧ wi.cell? ⟨b, p, none⟩ = some (.int .i32 K) ∧ wi.cell? ⟨b, p + 1, none⟩ = some (.int .i32 a)
section
variable {w wi wj : World} {b p : Nat} {K a : Int}
theorem RpS.drew (h : RpS w wi b p K a) : RpS w wi.drew b p K a := ⟨⟨h.1.1.drew, h.1.2⟩, h.2⟩
theorem RpS.go (h : RpS w wi b p K a) (hb : Below wi.heap.size wi wj) : RpS w wj b p K a :=
  ⟨⟨bt h.1.1 hb, h.1.2⟩, (hb.cell (p := ⟨b, p, none⟩) (Nat.lt_of_lt_of_le h.1.2 h.1.1.size)).trans h.2.1, (hb.cell (p := ⟨b, p + 1, none⟩) (Nat.lt_of_lt_of_le h.1.2 h.1.1.size)).trans h.2.2⟩
end
theorem prTx_one (pre : List (Ev × Nat)) (x : Ev × Nat) : prTx (pre ++ [x]) = prTx pre ++ rnTx x := by unfold prTx; simp
set_option maxRecDepth 100000 in
set_option maxHeartbeats 4000000 in
theorem rprint06 (w : World) (A : Option Addr) (c : Nat) (l : List Ev) (h : Reads w w.heap.size 2 A l.length (evs l)) (ho : Ok32 l) (hl : l.length ≤ 9223372036854775807) :
    Calls Tryz.prog 9 #[.slice A l.length c] w fun e w' => e = .returned (.tuple #[.string (prS l), .int .i64 (prE l)]) ∧ Below w.heap.size w w' := by
  have hch := rcheck_ w A c l h ho hl 65536
  by_cases hck : (chkT l 65536).2 = 0
  case neg =>
    rw [(prE_bad hck).1, (prE_bad hck).2]
    generalize chkT l 65536 = q at *
    obtain ⟨pl, er⟩ := q
    simp only at hch hck ⊢
    have Hch := Lib.hid hch
    have x1 : (er != 0) = true := by simpa using hck
    clear h ho hl hck hch
    go_enter Tryz.func9, Tryz.ntmps9
    go_wp2_with fail
    (with_reducible refine Hch.out.mono ?_); rintro e w1 ⟨rfl, hb1⟩
    go_wp2
    go_ret2
    exact ⟨rfl, hb1⟩
  case pos =>
  have hck0 := chkT_zero hck
  obtain ⟨hl8, hok⟩ := okR_of hck0
  rw [hck0] at hch
  have Hch := Lib.hid hch
  have HR := Lib.hid h
  have Hok := Lib.hid hok
  have HE := Lib.hid (And.intro (fun hn => prE_ok (l := l) hck hn) (fun hn => prE_many (l := l) hck hn))
  clear h ho hl hck hck0 hch hok
  go_enter Tryz.func9, Tryz.ntmps9
  go_wp2_with fail
  (with_reducible refine Hch.out.mono ?_); rintro e w1 ⟨rfl, hb1⟩
  have HB1 := Lib.hid hb1
  clear hb1
  go_wp2
  go_loopw [6, 7, 8] (fun sv ln i wr => ∃ (q : Nat) (pre : List (Ev × Nat)) (S : ByteArray), q ≤ l.length ∧ i = .int .i64 q ∧ ln = .int .i64 pre.length ∧ sv = .string S ∧ pre.length ≤ 5000 ∧ S.size ≤ 60 * pre.length ∧ Below w.heap.size w wr ∧ Hid (S = ⟨(prTx pre).toArray⟩) ∧ Hid (runsT l = pre ++ runsT (l.drop q))) (fun _ _ i _ => l.length - (intOf i).toNat)
  case atStart => exact ⟨0, [], ⟨#[]⟩, Nat.zero_le _, rfl, rfl, rfl, Nat.zero_le _, Nat.zero_le _, HB1.out, Lib.hid rfl, Lib.hid rfl⟩
  case round =>
    obtain ⟨q, pre, S, hq, rfl, rfl, rfl, hp5, hS, hbl, hSe, hrun⟩ := hrel
    by_cases hlt : q < l.length
    case neg =>
      have j1 : ¬ ((q : Int) < (l.length : Int)) := by omega
      have hr0 : runsT l = pre := by rw [hrun.out, List.drop_eq_nil_of_le (by omega), runsT_nil, List.append_nil]
      have He := Lib.hid (HE.out.1 (by rw [hr0]; omega))
      have HS := Lib.hid (show prS l = S by rw [He.out.2, hSe.out]; unfold prT; rw [hr0])
      have HBl := Lib.hid hbl
      clear hrun HE hr0 hSe hbl
      go_wp2
      exact bodyPost_ret (v := .tuple #[.string S, .int .i64 0]) (by simp [results, go_sem]) rfl ⟨by rw [HS.out, He.out.1], HBl.out⟩
    case pos =>
    have j1 : (q : Int) < (l.length : Int) := by omega
    have j0 : (0 : Int) ≤ (q : Int) := by omega
    obtain ⟨b, off, K, a, rfl, hb, d1, d2, hd⟩ := evAt HR.out (k := q) hlt
    obtain ⟨hk1, hk2, hk3⟩ := Hok.out _ (mem_dropE hd)
    simp only at hk1 hk2 hk3
    have hst := Lib.hid (RunTo.start hd)
    have HBl := Lib.hid hbl
    have Hk := Lib.hid (And.intro hk1 (And.intro hk2 hk3))
    have Hd := Lib.hid (And.intro hb (And.intro d1 d2))
    clear hd hbl hk1 d1 d2
    obtain ⟨wo, rfl⟩ : ∃ wo : World, wo = wr := ⟨_, rfl⟩
    go_upto_block 2 with fail
    go_cut [9] from 22 to 62 (fun s wx => ∃ m : Nat, s = .int .i64 (m : Int) ∧ 1 ≤ m ∧ q + m ≤ l.length ∧ Hid (runsT (l.drop q) = ((K, a), m) :: runsT (l.drop (q + m))) ∧ Below w.heap.size w wx)
    case first =>
      go_wp2_with fail
      go_loopw [9] (fun mv wi => ∃ m : Nat, mv = .int .i64 m ∧ Hid (RunTo l q m K a) ∧ Below w.heap.size w wi) (fun mv _ => l.length - (intOf mv).toNat)
      case atStart => exact ⟨1, rfl, hst, HBl.out⟩
      case round =>
        clear hst HBl
        obtain ⟨m, rfl, hrt, hbi⟩ := hrel
        have hrt1 := hrt.out.1
        have hrt2 := hrt.out.2.1
        have wq : IntKind.i64.wrap ((q : Int) + (m : Int)) = (q : Int) + (m : Int) := IntWalk.i64_in _ (by omega)
        have Hbi := Lib.hid hbi
        have cq0 : wr.cell? ⟨b, off + q * 2, none⟩ = some (.int .i32 K) := (hbi.cell (p := ⟨b, off + q * 2, none⟩) Hd.out.1).trans Hd.out.2.1
        have cq1 : wr.cell? ⟨b, off + q * 2 + 1, none⟩ = some (.int .i32 a) := (hbi.cell (p := ⟨b, off + q * 2 + 1, none⟩) Hd.out.1).trans Hd.out.2.2
        by_cases hml : q + m < l.length
        case pos =>
          obtain ⟨b', off', K', a', hA, hb', e1, e2, hy⟩ := evAt HR.out (k := q + m) hml
          injection hA with hA; injection hA with a1 a2; subst a1 a2
          have cm0 : wr.cell? ⟨b, off + (q + m) * 2, none⟩ = some (.int .i32 K') := (hbi.cell (p := ⟨b, off + (q + m) * 2, none⟩) hb').trans e1
          have cm1 : wr.cell? ⟨b, off + (q + m) * 2 + 1, none⟩ = some (.int .i32 a') := (hbi.cell (p := ⟨b, off + (q + m) * 2 + 1, none⟩) hb').trans e2
          have i0 : (0 : Int) ≤ (q : Int) + (m : Int) := by omega
          have i1 : (q : Int) + (m : Int) < (l.length : Int) := by omega
          have i2 : ((q : Int) + (m : Int)).toNat = q + m := by omega
          have g1 : decide ((q : Int) + (m : Int) < (l.length : Int)) = true := by simp; omega
          have wm : IntKind.i32.wrap (m : Int) = (m : Int) := by simp [IntKind.wrap, IntKind.bits, IntKind.signed]; omega
          have wa : IntKind.i32.wrap (a + (m : Int)) = a + (m : Int) := by have := Hk.out.2; simp [IntKind.wrap, IntKind.bits, IntKind.signed]; omega
          clear e1 e2 hbi
          by_cases hK : K' = K
          case pos =>
            subst hK
            by_cases ha : a' = a + (m : Int)
            case pos =>
              have Hst := Lib.hid (hrt.out.step hy (by rw [ha]))
              have wm1 : IntKind.i64.wrap ((m : Int) + 1) = (m : Int) + 1 := IntWalk.i64_in _ (by omega)
              subst ha
              go_wp2
              go_quiet (fail)
              go_wp2
              go_roundw
              case rel => exact ⟨m + 1, by go_num, Hst, bd Hbi.out _⟩
              case measure => (simp [intOf]) <;> omega
            case neg =>
              have Hst := Lib.hid (hrt.out.stop (.inr ⟨_, hy, fun e => ha (by injection e)⟩))
              have g2 : decide (a' = a + (m : Int)) = false := by simpa using ha
              go_wp2
              go_quiet (fail)
              go_wp2
              go_meet
              exact ⟨m, rfl, hrt1, hrt2, Hst, bd Hbi.out _⟩
          case neg =>
            have Hst := Lib.hid (hrt.out.stop (.inr ⟨_, hy, fun e => hK (by injection e)⟩))
            have g2 : decide (K' = K) = false := by simpa using hK
            go_wp2
            go_quiet (fail)
            go_wp2
            go_meet
            exact ⟨m, rfl, hrt1, hrt2, Hst, bd Hbi.out _⟩
        case neg =>
          have Hst := Lib.hid (hrt.out.stop (.inl (by omega)))
          have i1 : ¬ ((q : Int) + (m : Int) < (l.length : Int)) := by omega
          have g1 : decide ((q : Int) + (m : Int) < (l.length : Int)) = false := by simp; omega
          clear cq0 cq1 hml
          go_wp2
          go_quiet (fail)
          go_wp2
          go_meet
          exact ⟨m, rfl, hrt1, hrt2, Hst, bd Hbi.out _⟩
    case rest =>
    clear hst HBl
    obtain ⟨m, rfl, hm1, hm2, hrr, hbx⟩ := hcut
    have wl1 : IntKind.i64.wrap ((pre.length : Int) + 1) = (pre.length : Int) + 1 := IntWalk.i64_in _ (by omega)
    have hrun2 : runsT l = (pre ++ [((K, a), m)]) ++ runsT (l.drop (q + m)) := by rw [hrun.out, hrr.out]; simp
    have HBx := Lib.hid hbx
    by_cases h5 : 5000 < pre.length + 1
    case pos =>
      have n1 : 5000 < (pre.length : Int) + 1 := by omega
      have He := Lib.hid (HE.out.2 (by rw [hrun2]; simp; omega))
      clear hrun hrr hrun2 HE hSe hbx
      go_wp2
      exact bodyPost_ret (v := .tuple #[.string ⟨#[]⟩, .int .i64 3]) (by simp [results, go_sem]) rfl ⟨by rw [He.out.1, He.out.2], HBx.out⟩
    case neg =>
    have n1 : ¬ (5000 < (pre.length : Int) + 1) := by omega
    have hT : RpS w wc b (off + q * 2) K a := ⟨⟨hbx, Hd.out.1⟩, (hbx.cell (p := ⟨b, off + q * 2, none⟩) Hd.out.1).trans Hd.out.2.1, (hbx.cell (p := ⟨b, off + q * 2 + 1, none⟩) Hd.out.1).trans Hd.out.2.2⟩
    obtain ⟨d1, hd1⟩ : ∃ d, d = Dg a := ⟨_, rfl⟩
    obtain ⟨d2, hd2⟩ : ∃ d, d = Dg (m : Int) := ⟨_, rfl⟩
    obtain ⟨kw, hkw⟩ : ∃ k, k = kwd K := ⟨_, rfl⟩
    obtain ⟨hk1, hk2, hk3⟩ := Hk.out
    have s1 : d1.size ≤ 21 := hd1 ▸ Dg_size a (by omega) (by omega)
    have s2 : d2.size ≤ 21 := hd2 ▸ Dg_size (m : Int) (by omega) (by omega)
    have s3 : kw.size ≤ 5 := hkw ▸ kwd_size K
    have j2 : ¬ (9223372036854775807 < S.size + kw.size) := by omega
    have j3 : ¬ (9223372036854775807 < S.size + kw.size + 1) := by omega
    have j4 : ¬ (9223372036854775807 < S.size + kw.size + 1 + d1.size) := by omega
    have j5 : ¬ (9223372036854775807 < S.size + kw.size + 1 + d1.size + 1) := by omega
    have j6 : ¬ (9223372036854775807 < S.size + kw.size + 1 + d1.size + 1 + d2.size) := by omega
    have j7 : ¬ (9223372036854775807 < S.size + kw.size + 1 + d1.size + 1 + d2.size + 1) := by omega
    have ha64 : IntKind.i64.wrap a = a := IntWalk.i64_in _ (by omega)
    have wqm : IntKind.i64.wrap ((q : Int) + (m : Int)) = (q : Int) + (m : Int) := IntWalk.i64_in _ (by omega)
    have Hsz := Lib.hid (show (S ++ kw ++ ⟨#[32]⟩ ++ d1 ++ ⟨#[32]⟩ ++ d2 ++ ⟨#[10]⟩ : ByteArray).size ≤ 60 * (pre.length + 1) by
      simp only [ByteArray.size_append]
      show S.size + kw.size + 1 + d1.size + 1 + d2.size + 1 ≤ _
      omega)
    have Htx := Lib.hid (show (S ++ kw ++ ⟨#[32]⟩ ++ d1 ++ ⟨#[32]⟩ ++ d2 ++ ⟨#[10]⟩ : ByteArray) = ⟨(prTx (pre ++ [((K, a), m)])).toArray⟩ by
      rw [hSe.out, hkw, hd1, hd2]
      apply ByteArray.ext
      apply Array.toList_inj.1
      rw [prTx_one]
      unfold rnTx rnB
      simp only [ByteArray.data_append, Array.toList_append, List.append_assoc])
    have Hd1 := Lib.hid hd1
    have Hd2 := Lib.hid hd2
    have Hkw := Lib.hid hkw
    have Hrun2 := Lib.hid hrun2
    have Hk1 := Lib.hid hk1
    clear hd1 hd2 hkw hrun hrr hrun2 HE hSe hbx s1 s2 s3 hk1 Hk h5
    go_wp2_with fail
    go_region_held3 (fun w' => RpS w w' b (off + q * 2) K a)
      (with_reducible (first | exact RpS.drew hT | exact RpS.go (by assumption) hb2 | assumption))
      ((first
        | (go_at_call_of 27 (Value.int IntKind.i64 a); refine (rdT a d1 Hd1 (by omega) (by omega) _).mono ?_; rintro e w2 ⟨rfl, hb2⟩)
        | (go_at_call_of 27 (Value.int IntKind.i64 (m : Int)); refine (rdT (m : Int) d2 Hd2 (by omega) (by omega) _).mono ?_; rintro e w2 ⟨rfl, hb2⟩)
        | (go_at_call 26; refine (rwordO K kw Hkw Hk1.out _).mono ?_; rintro e w2 ⟨rfl, hb2⟩)))
    have hBz : Below w.heap.size w w2 := by
      have hz : RpS w w2 b (off + q * 2) K a := by assumption
      exact hz.1.1
    go_wp2
    go_roundw
    case rel => exact ⟨q + m, pre ++ [((K, a), m)], _, by omega, by go_num, by simp, rfl, by simp; omega, by simpa using Hsz.out, hBz, Htx, Hrun2⟩
    case measure => (simp [intOf]) <;> omega
end Go.Proofs.YtpgojecldmcopaaGreatDoor
