/- ScriptStreams: for every script and all numbers the law returns true. No condition. -/
import Derived.Test.YtoogemdcmnjpnaaDoorS17
namespace Go.Proofs.YtoogemdcmnjpnaaDoor
open Go.RowKit
/-- the sum of the streams read so far -/
def SumRel (st : List ByteArray) (m k : Nat) : Prop := m + sumSz (st.drop k) = sumSz st
/-- a close has been met -/
def closedB (l : List Sc) : Bool := l.any fun x => x.1 == 4
def CloRel (l : List Sc) (b : Bool) (k : Nat) : Prop := b = closedB (l.take k)
theorem CloRel.step {l : List Sc} {b : Bool} {k : Nat} {K : Int} {s : ByteArray} (h : CloRel l b k) (hd : Hid (l.drop k = (K, s) :: l.drop (k + 1))) : CloRel l (b || (K == 4)) (k + 1) := by
  unfold CloRel closedB at *
  rw [take_of_drop hd.out, List.any_append, ← h]
  simp
/-- what the third loop meets at place k -/
structure ShRel (x y : List Sh) (n : Nat) (a b : Nat) : Prop where
  lx : y.length = x.length + 1
  hn : n < x.length
  lo : ∀ k, k < n → x[k]? = y[k]?
  hi : ∀ k, n < k → x[k]? = y[k + 1]?
  at0 : y[n]? = some (1, (a : Int))
  at1 : y[n + 1]? = some (1, (b : Int))
  atx : x[n]? = some (1, (a : Int) + (b : Int))
theorem shp_app (l m : List Sc) : shp (l ++ m) = shp l ++ shp m := by simp [shp]
theorem Two.sh {l c : List Sc} {n : Nat} {a b : ByteArray} (h : Two l c n a b) : ShRel (shp l) (shp c) n a.size b.size := by
  have hl := h.length
  have hn := h.len
  have ht : (shp (l.take n)).length = n := by rw [shp_length]; exact h.take_len
  have e1 : shp l = shp (l.take n) ++ (1, (a.size : Int) + (b.size : Int)) :: shp (l.drop (n + 1)) := by
    conv => lhs; rw [h.one]
    rw [shp_app]
    simp [shp, ByteArray.size_append]
  have e2 : shp c = shp (l.take n) ++ (1, (a.size : Int)) :: (1, (b.size : Int)) :: shp (l.drop (n + 1)) := by
    rw [h.two, shp_app]
    simp [shp]
  refine ⟨by rw [shp_length, shp_length, hl], by rw [shp_length]; exact hn, ?_, ?_, ?_, ?_, ?_⟩
  · intro k hk
    rw [e1, e2, List.getElem?_append_left (by omega), List.getElem?_append_left (by omega)]
  · intro k hk
    rw [e1, e2, List.getElem?_append_right (by omega), List.getElem?_append_right (by omega), ht]
    obtain ⟨j, hj⟩ : ∃ j, k - n = j + 1 := ⟨k - n - 1, by omega⟩
    rw [hj, show k + 1 - n = j + 1 + 1 by omega]
    rfl
  · rw [e2, List.getElem?_append_right (by omega), ht]; simp
  · rw [e2, List.getElem?_append_right (by omega), ht, show n + 1 - n = 1 by omega]; rfl
  · rw [e1, List.getElem?_append_right (by omega), ht]; simp
theorem shCell {w : World} {B k n : Nat} {A : Option Addr} {l : List Sh} {p : Sh} (h : Reads w B 2 A n (shs l)) (hn : n = l.length) (hp : l[k]? = some p) :
    ∃ b off, A = some ⟨b, off, none⟩ ∧ b < B ∧ w.cell? ⟨b, off + k * 2, none⟩ = some (.int .i64 p.1) ∧ w.cell? ⟨b, off + k * 2 + 1, none⟩ = some (.int .i64 p.2) := by
  obtain ⟨hk, rfl⟩ := List.getElem?_eq_some_iff.1 hp
  exact h.at2 hn hk

set_option maxRecDepth 100000 in
set_option maxHeartbeats 2000000 in
theorem scriptStreams_walk (w : World) (A : Option Addr) (c : Nat) (l : List Sc) (h : IsSc w A l) (hc : l.length ≤ c ∧ c ≤ 9223372036854775807) (k : Int) (hk : (Lit.int .i64 k).wf = true) (a : Int) (ha : (Lit.int .i64 a).wf = true) (hE : Esc w) :
    Calls Tryd.prog 7 #[.slice A l.length c, .int .i64 k, .int .i64 a] w fun e w' => e = .returned (.bool true) ∧ Below w.heap.size w w' := by
  obtain ⟨hk1, hk2⟩ := wf64 hk
  obtain ⟨ha1, ha2⟩ := wf64 ha
  clear hk ha
  by_cases hf : farB l = true
  · go_enter Tryd.func7, Tryd.ntmps7
    go_wp2_with fail
    (with_reducible refine (far w A c l h).mono ?_); rintro e w1 ⟨rfl, rfl⟩
    go_wp2_with fail
    (with_reducible refine (awake _ hE).mono ?_); rintro e w1 ⟨rfl, hb1⟩
    go_wp2
    go_ret
    exact ⟨rfl, hb1⟩
  have hf2 : farB l = false := by simpa using hf
  have hl := farB_len hf2
  clear hf
  by_cases h0 : (chk l).2 = 0
  case neg =>
    have e1 : ((chk l).2 != 0) = true := by simp [h0]
    have e2 : ((chk l).2 == (chk l).2) = true := by simp
    clear h0
    go_enter Tryd.func7, Tryd.ntmps7
    go_wp2_with fail
    (with_reducible refine (far w A c l h).mono ?_); rintro e w1 ⟨rfl, rfl⟩
    go_wp2_with fail
    (with_reducible refine (sstreams w A c l h).mono ?_); rintro e w1 ⟨A1, c1, rfl, hb1, hr1, _, _⟩
    go_wp2_with fail
    (with_reducible refine (stotal w1 A c l (h.below hb1)).mono ?_); rintro e w2 ⟨rfl, hb2⟩
    have hB2 := bt hb1 hb2
    go_wp2_with fail
    (with_reducible refine (awake _ (hE.below hB2)).mono ?_); rintro e w3 ⟨rfl, hb3⟩
    have hB3 := bt hB2 hb3
    go_wp2
    go_ret
    exact ⟨rfl, hB3⟩
  have H0 := Lib.hid h0
  have hl200 := chk_len h0
  obtain ⟨hsum1, hsum2⟩ := sum_streams l ⟨#[]⟩
  rw [← streams_pos h0] at hsum1 hsum2
  have htot : Go.Proofs.YtoogemdcmnjpnaaDoor.total l = bytesOf l := if_pos h0
  have hby : bytesOf l ≤ 220000 := bytes_le h0
  have hz : (⟨#[]⟩ : ByteArray).size = 0 := rfl
  rw [hz, Nat.zero_add, ← htot] at hsum1 hsum2
  rw [← htot] at hby
  clear htot hz h0
  have hsl := streams_len l
  obtain ⟨st, Hst⟩ : ∃ st, Hid (streams l = st) := ⟨_, Lib.hid rfl⟩
  obtain ⟨tt, Htt⟩ : ∃ tt, Hid (Go.Proofs.YtoogemdcmnjpnaaDoor.total l = tt) := ⟨_, Lib.hid rfl⟩
  rw [Hst.out] at hsum1 hsum2 hsl
  rw [Htt.out] at hsum1 hsum2 hby
  have Hsum2 := Lib.hid hsum2
  clear hsum2
  go_enter Tryd.func7, Tryd.ntmps7
  go_wp2_with fail
  (with_reducible refine (far w A c l h).mono ?_); rintro e w1 ⟨rfl, rfl⟩
  go_wp2_with fail
  (with_reducible refine (sstreams' w A c l h H0 Hst).mono ?_); rintro e w1 ⟨A1, c1, rfl, hb1, hr1, _, _⟩
  have h1 := h.below hb1
  go_wp2_with fail
  (with_reducible refine (stotal' w1 A c l h1 H0 Htt).mono ?_); rintro e w2 ⟨rfl, hb2⟩
  have hB2 := bt hb1 hb2
  have h2 := h1.below hb2
  have hr1 := hr1.go hb2
  go_wp2
  go_loop [11, 13] (fun v i => ∃ k m : Nat, k ≤ st.length ∧ i = .int .i64 k ∧ v = .int .i64 m ∧ SumRel st m k) (fun _ i => st.length - (intOf i).toNat)
  case atStart => exact ⟨0, 0, Nat.zero_le _, rfl, rfl, by simp [SumRel]⟩
  case round =>
    obtain ⟨j, m, hj, rfl, rfl, hrel⟩ := hrel
    by_cases hlt : j < st.length
    · obtain ⟨b, off, s, rfl, hb, d1, hd⟩ := strAt hr1 hlt
      have hrel2 : SumRel st (m + s.size) (j + 1) := by
        unfold SumRel at *
        rw [hd.out, sumSz] at hrel
        omega
      have hm2 : m + s.size ≤ 1000000 := by unfold SumRel at hrel2; omega
      have hi1 : (j : Int) < (st.length : Int) := by omega
      have hi0 : (0 : Int) ≤ (j : Int) := by omega
      go_wp2
      go_round
      case rel => exact ⟨j + 1, m + s.size, by omega, by go_num, by go_num, hrel2⟩
      case measure => simp [intOf]; omega
    · have hms : m = sumSz st := by
        unfold SumRel at hrel
        rw [List.drop_eq_nil_of_le (by omega), sumSz] at hrel
        omega
      have hm1 : m ≤ tt := by omega
      have Hm := Lib.hid hms
      clear hms hrel
      go_wp2
      go_loopw [12, 14] (fun v i wr => ∃ (k : Nat) (q : Bool), k ≤ l.length ∧ i = .int .i64 k ∧ v = .bool q ∧ CloRel l q k ∧ w2 = wr) (fun _ i _ => l.length - (intOf i).toNat)
      case atStart => exact ⟨0, false, Nat.zero_le _, rfl, rfl, rfl, rfl⟩
      case round =>
        obtain ⟨j2, q, hj2, rfl, rfl, hrel, rfl⟩ := hrel
        by_cases hlt2 : j2 < l.length
        · obtain ⟨b, off, K, s, rfl, hb, d1, d2, hd, hK1, hK4, hs1, _⟩ := scAtOk h2.rd hlt2 H0
          have hi1 : (j2 : Int) < (l.length : Int) := by omega
          have hi0 : (0 : Int) ≤ (j2 : Int) := by omega
          have hrel2 := hrel.step hd
          have Hr2 := Lib.hid hrel2
          clear hrel hrel2
          cases q with
          | true =>
            go_wp2
            go_roundw
            case rel => exact ⟨j2 + 1, true, by omega, by go_num, rfl, by simpa using Hr2.out, trivial⟩
            case measure => simp [intOf]; omega
          | false =>
            go_wp2
            go_roundw
            case rel => exact ⟨j2 + 1, K == 4, by omega, by go_num, rfl, by simpa using Hr2.out, trivial⟩
            case measure => simp [intOf]; omega
        · have hq : q = closedB l := by
            unfold CloRel at hrel
            rwa [List.take_of_length_le (by omega)] at hrel
          have g1 : (q = false) → m = tt := by
            intro e
            rw [Hm.out]
            refine Hsum2.out fun x hx h4 => ?_
            rw [hq] at e
            unfold closedB at e
            rw [List.any_eq_false] at e
            exact e x hx (by simp [h4])
          have g2 : decide ((tt : Int) < (m : Int)) = false := by simp; omega
          have g3 : q = false → ((m : Int) != (tt : Int)) = false := fun e => by rw [g1 e]; simp
          have g4 : ((!q) && ((m : Int) != (tt : Int)) || decide ((tt : Int) < (m : Int))) = false := by
            rw [g2]
            cases q with
            | true => rfl
            | false => rw [g3 rfl]; rfl
          have G3 := Lib.hid g3
          have G4 := Lib.hid g4
          clear g1 g3 g4 hq hrel
          have e1 : q = false → ((m : Int) != (tt : Int)) = false := G3.out
          have e2 : ¬ (tt < m) := by omega
          by_cases hcut : cutErr l k a = 0
          case neg =>
            have f1 : (cutErr l k a != 0) = true := by simp [hcut]
            have hm := Lib.hid (cut_neg hcut)
            obtain ⟨e0, he⟩ : ∃ e0, Hid (cutErr l k a = e0) := ⟨_, Lib.hid rfl⟩
            rw [he.out] at f1
            clear hcut
            cases q with
            | true =>
              clear e1
              go_wp2_with fail
              (with_reducible refine (scut' w2 A c l h2 hc k a hk1 hk2 ha1 ha2 hm (Lib.hid rfl) he).mono ?_); rintro e w3 ⟨A3, c3, rfl, hb3, hr3, _, _⟩
              have hB3 := bt hB2 hb3
              go_wp2_with fail
              (with_reducible refine (awake _ (hE.below hB3)).mono ?_); rintro e w4 ⟨rfl, hb4⟩
              have hB4 := bt hB3 hb4
              go_wp2
              go_ret
              exact ⟨rfl, hB4⟩
            | false =>
              have e1 := e1 rfl
              go_wp2_with fail
              (with_reducible refine (scut' w2 A c l h2 hc k a hk1 hk2 ha1 ha2 hm (Lib.hid rfl) he).mono ?_); rintro e w3 ⟨A3, c3, rfl, hb3, hr3, _, _⟩
              have hB3 := bt hB2 hb3
              go_wp2_with fail
              (with_reducible refine (awake _ (hE.below hB3)).mono ?_); rintro e w4 ⟨rfl, hb4⟩
              have hB4 := bt hB3 hb4
              go_wp2
              go_ret
              exact ⟨rfl, hB4⟩
          obtain ⟨n, a', rfl, rfl, ham, hT⟩ := two_of_cut hcut
          have hlt200 : l.length < 200 := (cutErr_zero hcut).choose_spec.choose_spec.2.2.2.2.2.2
          have hcl := hT.length
          have Hcut := Lib.hid hcut
          generalize hcm : cut l (n : Int) (a' : Int) = cm at *
          have Hcm := Lib.hid hcm
          have HC0 := Lib.hid hT.okc
          obtain ⟨hj1, hj2⟩ := hT.joined
          have Hj1 := Lib.hid hj1
          have Hj2 := Lib.hid hj2
          have Hst2 : Hid (streams cm = st) := Lib.hid (hT.streams.trans Hst.out)
          have Htt2 : Hid (Go.Proofs.YtoogemdcmnjpnaaDoor.total cm = tt) := Lib.hid (hT.total.trans Htt.out)
          have hsh := hT.sh
          rw [ext_size1 _ _ ham, ext_size2] at hsh
          have hsz : (atK l n).2.size ≤ 1100 := (scErr_iff.1 (chk_ok H0.out _ (by rw [split_at hT.len]; simp [atK_mid hT.take_len]))).2.2.1
          obtain ⟨b', hb'⟩ : ∃ b', b' = (atK l n).2.size - a' := ⟨_, rfl⟩
          have hab : a' + b' ≤ 1100 := by omega
          rw [← hb'] at hsh
          clear hb'
          have Hsh := Lib.hid hsh
          have hnl := hT.len
          have hcl2 : cm.length ≤ 201 := by omega
          have Hcl := Lib.hid hcl
          have hsx := Lib.hid (shp_length l)
          have hsy := Lib.hid (shp_length cm)
          have f1 : ((cm.length : Int) != (l.length : Int) + 1) = false := by rw [hcl]; simp
          have f2 : ((tt : Int) != (tt : Int)) = false := by simp
          clear hcut hcm hj1 hj2 hT hsh hcl hsum1
          have hcase : q = true ∨ (q = false ∧ ((m : Int) != (tt : Int)) = false) := by
            cases q with
            | true => exact .inl rfl
            | false => exact .inr ⟨rfl, e1 rfl⟩
          clear e1
          rcases hcase with rfl | ⟨rfl, e1⟩
          all_goals
            go_wp2_with fail
            (with_reducible refine (scut' w2 A c l h2 hc n a' hk1 hk2 ha1 ha2 Hcm (Lib.hid rfl) Hcut).mono ?_); rintro e w3 ⟨A3, c3, rfl, hb3, hr3, hc3a, hc3b⟩
            have hB3 := bt hB2 hb3
            have h3 := h2.below hb3
            have hr1 := hr1.go hb3
            have hm3 := isSc_of hr3 HC0
            go_wp2_with fail
            (with_reducible refine (sjoin' w3 A3 c3 cm hm3 ⟨hc3a, hc3b⟩ n hk1 hk2 Hj2 (Lib.hid rfl) Hj1).mono ?_); rintro e w4 ⟨A4, c4, rfl, hb4, hr4, _, _⟩
            have hB4 := bt hB3 hb4
            have h4 := h3.below hb4
            have hr1 := hr1.go hb4
            have hm4 := hm3.below hb4
            go_wp2_with fail
            (with_reducible refine (sstreams' w4 A3 c3 cm hm4 HC0 Hst2).mono ?_); rintro e w5 ⟨A5, c5, rfl, hb5, hr5, _, _⟩
            have hB5 := bt hB4 hb5
            have h5 := h4.below hb5
            have hr1 := hr1.go hb5
            have hr4 := hr4.go hb5
            have hm5 := hm4.below hb5
            go_wp2_with fail
            (with_reducible refine (stotal' w5 A3 c3 cm hm5 HC0 Htt2).mono ?_); rintro e w6 ⟨rfl, hb6⟩
            have hB6 := bt hB5 hb6
            have h6 := h5.below hb6
            have hr1 := hr1.go hb6
            have hr4 := hr4.go hb6
            have hr5 := hr5.go hb6
            have hm6 := hm5.below hb6
            go_wp2_with fail
            (with_reducible refine (sshape' w6 A c l h6 H0 (Lib.hid rfl)).mono ?_); rintro e w7 ⟨A7, c7, rfl, hb7, hr7, _, _⟩
            have hB7 := bt hB6 hb7
            have h7 := h6.below hb7
            have hr1 := hr1.go hb7
            have hr4 := hr4.go hb7
            have hr5 := hr5.go hb7
            have hm7 := hm6.below hb7
            go_wp2_with fail
            (with_reducible refine (sshape' w7 A3 c3 cm hm7 HC0 (Lib.hid rfl)).mono ?_); rintro e w8 ⟨A8, c8, rfl, hb8, hr8, _, _⟩
            have hB8 := bt hB7 hb8
            have h8 := h7.below hb8
            have hr1 := hr1.go hb8
            have hr4 := hr4.go hb8
            have hr5 := hr5.go hb8
            have hr7 := hr7.go hb8
            go_wp2_with fail
            (with_reducible refine (equal_same w8 A4 A c4 c _ hr4 h8.rd (by omega)).mono ?_); rintro e w9 ⟨rfl, hb9⟩
            have hB9 := bt hB8 hb9
            have hr1 := hr1.go hb9
            have hr5 := hr5.go hb9
            have hr7 := hr7.go hb9
            have hr8 := hr8.go hb9
            go_wp2_with fail
            (with_reducible refine (strings_same w9 A1 A5 c1 c5 _ hr1 hr5 (by omega)).mono ?_); rintro e w10 ⟨rfl, hb10⟩
            have hB10 := bt hB9 hb10
            have hr7 := hr7.go hb10
            have hr8 := hr8.go hb10
            clear hr1 hr3 hr4 hr5
            go_wp2
            go_loopw [24] (fun i wr => ∃ j : Nat, j ≤ l.length ∧ i = .int .i64 j ∧ Below w10.heap.size w10 wr ∧ ∀ p, wr.cell? p = w10.cell? p) (fun i _ => l.length - (intOf i).toNat)
            case atStart => exact ⟨0, Nat.zero_le _, rfl, Below.refl _ _, fun _ => rfl⟩
            case round =>
              obtain ⟨j, hj, rfl, hbl, hsame⟩ := hrel
              by_cases hlt : j < l.length
              · have hs := Hsh.out
                have hxl := hsx.out
                have hyl := hsy.out
                have hcl3 := Hcl.out
                obtain ⟨p, hp⟩ : ∃ p, (shp l)[j]? = some p := ⟨_, List.getElem?_eq_getElem (by omega)⟩
                obtain ⟨b7, o7, rfl, _, d1, d2⟩ := shCell hr7 hxl.symm hp
                have hi1 : (j : Int) < (l.length : Int) := by omega
                have hi0 : (0 : Int) ≤ (j : Int) := by omega
                have hi2 : (j : Int) < (cm.length : Int) := by omega
                have hi3 : (j : Int) + 1 < (cm.length : Int) := by omega
                have hi4 : (0 : Int) ≤ (j : Int) + 1 := by omega
                have hi5 : ((j : Int) + 1).toNat = j + 1 := by omega
                have hwrap : IntKind.i64.wrap ((j : Int) + 1) = (j : Int) + 1 := IntWalk.i64_in _ (by omega)
                have c1 := (hsame ⟨b7, o7 + j * 2, none⟩).trans d1
                have c2 := (hsame ⟨b7, o7 + j * 2 + 1, none⟩).trans d2
                have Hs := Lib.hid hsame
                rcases (show j < n ∨ j = n ∨ n < j by omega) with hjn | hjn | hjn
                · have hy := (hs.lo j hjn).symm.trans hp
                  obtain ⟨b8, o8, rfl, _, d3, d4⟩ := shCell hr8 hyl.symm hy
                  have c3 := (hsame ⟨b8, o8 + j * 2, none⟩).trans d3
                  have c4 := (hsame ⟨b8, o8 + j * 2 + 1, none⟩).trans d4
                  have g1 : decide ((j : Int) < (n : Int)) = true := by simp; omega
                  have g2 : decide (n < j) = false := by simp; omega
                  have g3 : ((j : Int) == (n : Int)) = false := by simp; omega
                  have g4 : decide (j < n) = true := by simp; omega
                  clear hs hxl hyl hcl3 hp hy hsame d1 d2 d3 d4
                  go_wp2
                  go_quiet (fail)
                  go_wp2
                  go_quiet (fail)
                  go_wp2
                  go_quiet (fail)
                  go_wp2
                  go_roundw
                  case rel =>
                    go_light
                    exact ⟨j + 1, by omega, by go_num, Go.RowKit.Below.trans hbl (drewN_below _ _), fun p => Hs.out p⟩
                  case measure => simp [intOf]; omega
                · subst hjn
                  obtain ⟨b8, o8, rfl, _, d3, d4⟩ := shCell hr8 hyl.symm hs.at0
                  obtain ⟨b9, o9, eA, _, d5, d6⟩ := shCell hr8 hyl.symm hs.at1
                  injection eA with eA
                  injection eA with eb eo _
                  subst eb eo
                  have hpx : p = (1, (a' : Int) + (b' : Int)) := by
                    have := hp.symm.trans hs.atx
                    injection this
                  subst hpx
                  simp only at d1 d2 d3 d4 d5 d6 c1 c2
                  have c3 := (hsame ⟨b8, o8 + j * 2, none⟩).trans d3
                  have c4 := (hsame ⟨b8, o8 + j * 2 + 1, none⟩).trans d4
                  have c5 := (hsame ⟨b8, o8 + (j + 1) * 2, none⟩).trans d5
                  have c6 := (hsame ⟨b8, o8 + (j + 1) * 2 + 1, none⟩).trans d6
                  have g1 : decide (j < j) = false := by simp
                  have g3 : ((j : Int) == (j : Int)) = true := by simp
                  have g4 : decide ((j : Int) < (j : Int)) = false := by simp
                  have hwrap2 : IntKind.i64.wrap ((a' : Int) + (b' : Int)) = (a' : Int) + (b' : Int) := IntWalk.i64_in _ (by omega)
                  clear hs hxl hyl hcl3 hp hsame d1 d2 d3 d4 d5 d6
                  go_wp2
                  go_quiet (fail)
                  go_wp2
                  go_quiet (fail)
                  go_wp2
                  go_quiet (fail)
                  go_wp2
                  go_roundw
                  case rel =>
                    go_light
                    exact ⟨j + 1, by omega, by go_num, Go.RowKit.Below.trans hbl (drewN_below _ _), fun p => Hs.out p⟩
                  case measure => simp [intOf]; omega
                · have hy := (hs.hi j hjn).symm.trans hp
                  obtain ⟨b8, o8, rfl, _, d3, d4⟩ := shCell hr8 hyl.symm hy
                  have c3 := (hsame ⟨b8, o8 + (j + 1) * 2, none⟩).trans d3
                  have c4 := (hsame ⟨b8, o8 + (j + 1) * 2 + 1, none⟩).trans d4
                  have g1 : decide ((n : Int) < (j : Int)) = true := by simp; omega
                  have g2 : decide (j < n) = false := by simp; omega
                  have g3 : ((j : Int) == (n : Int)) = false := by simp; omega
                  have g4 : decide (n < j) = true := by simp; omega
                  clear hs hxl hyl hcl3 hp hy hsame d1 d2 d3 d4
                  go_wp2
                  go_quiet (fail)
                  go_wp2
                  go_quiet (fail)
                  go_wp2
                  go_quiet (fail)
                  go_wp2
                  go_roundw
                  case rel =>
                    go_light
                    exact ⟨j + 1, by omega, by go_num, Go.RowKit.Below.trans hbl (drewN_below _ _), fun p => Hs.out p⟩
                  case measure => simp [intOf]; omega
              · have hbx := bt hB10 hbl
                go_wp2_with fail
                (with_reducible refine (awake _ (hE.below hbx)).mono ?_); rintro e w11 ⟨rfl, hb11⟩
                have hB11 := bt hbx hb11
                go_wp2
                go_ret
                exact ⟨rfl, hB11⟩
end Go.Proofs.YtoogemdcmnjpnaaDoor
