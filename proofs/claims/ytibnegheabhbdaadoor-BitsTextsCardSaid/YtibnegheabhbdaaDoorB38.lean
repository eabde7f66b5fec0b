/- Rows of bits: Parse of the reference. -/
import Derived.Test.YtibnegheabhbdaaDoorB36
import Derived.Test.YtibnegheabhbdaaDoorB37
namespace Go.Proofs.YtibnegheabhbdaaDoor
open Go.RowKit
def digV (c : UInt8) : Int := if isHx c = true then (hv c : Int) else -1
theorem dig_hit {c : UInt8} {k : Nat} (hk : k < 16) (h : (hd k).toNat = c.toNat) : digV c = k := by
  have e : hd k = c := UInt8.toNat_inj.1 h
  unfold digV
  rw [← e, if_pos (hd_hx hk).1, (hd_hx hk).2]
theorem dig_none {c : UInt8} (h : ∀ j, j < 16 → (hd j).toNat ≠ c.toNat) : digV c = -1 := by
  unfold digV
  rw [if_neg]
  intro hx
  obtain ⟨h1, h2⟩ := hx_hd hx
  exact h _ h2 (by rw [h1])
set_option maxRecDepth 100000 in
set_option maxHeartbeats 2000000 in
theorem digit_ (c : UInt8) (w : World) : Calls Tryd.prog 62 #[.int .u8 (c.toNat : Int)] w fun e w' => e = .returned (.int .i64 (digV c)) ∧ Below w.heap.size w w' := by
  go_enter Tryd.func62, Tryd.ntmps62
  go_wp2
  go_loopw [3] (fun i wr => ∃ k : Nat, k ≤ 16 ∧ i = .int .i64 k ∧ Hid (∀ j, j < k → (hd j).toNat ≠ c.toNat) ∧ Below w.heap.size w wr) (fun i _ => 16 - (intOf i).toNat)
  case atStart => exact ⟨0, Nat.zero_le _, rfl, Lib.hid fun j hj => absurd hj (Nat.not_lt_zero j), Below.refl _ _⟩
  case round =>
    obtain ⟨k, hk, rfl, hno, hB⟩ := hrel
    by_cases hk16 : k < 16
    · have hlt : k < hex16.size := hk16
      have hg : (hex16[k]'hlt).toNat = (hd k).toNat := by rw [hex16_get k hk16]
      go_wp2
      all_goals first
        | (go_ret
           rename_i hcmp
           have h3 : ((hex16[k]'hlt).toNat : Int) = (c.toNat : Int) := eq_of_beq hcmp
           exact ⟨by rw [dig_hit hk16 (by omega)]; rfl, hB⟩)
        | (go_roundw
           case rel =>
             rename_i hcmp
             have h3 : (((hex16[k]'hlt).toNat : Int) == (c.toNat : Int)) = false := hcmp
             have h4 : ¬ (hex16[k]'hlt).toNat = c.toNat := by intro e; rw [e] at h3; simp at h3
             refine ⟨k + 1, by omega, by go_num, Lib.hid fun j hj => ?_, hB⟩
             rcases Nat.lt_or_ge j k with h | h
             · exact hno.out j h
             · rw [show j = k by omega]; omega
           case measure => simp [intOf]; omega)
    · obtain rfl : k = 16 := by omega
      have HV := Lib.hid (dig_none hno.out)
      clear hno
      go_wp2
      go_ret
      rw [HV.out]
      exact ⟨rfl, hB⟩
theorem getD_text {s : ByteArray} {l : List UInt8} (hl : s.data.toList = l) {k : Nat} (hk : k < s.size) : s[k]'hk = l.getD k 0 := by
  rw [← hl, List.getD_eq_getElem?_getD, List.getElem?_eq_getElem (by simpa using hk)]
  rfl
set_option maxRecDepth 100000 in
set_option maxHeartbeats 4000000 in
theorem rparse_ (s : ByteArray) (l : List UInt8) (hl : s.data.toList = l) (w : World) (hsz : s.size ≤ 1000) :
    Calls Tryd.prog 41 #[.string s] w (RetSl w 1 (u64s (psV l)) (psV l).length (psE l)) := by
  have hls : l.length = s.size := by rw [← hl]; simp
  by_cases h135 : 135 < s.size
  · have HE := Lib.hid (show psE l = 3 from if_pos (by omega))
    have HL := Lib.hid (show psV l = [] from if_neg (by rw [HE.out]; decide))
    clear hl hls
    go_enter Tryd.func41, Tryd.ntmps41
    go_wp2
    go_ret2
    rw [HE.out, HL.out]
    exact RetSl.nil (Below.refl _ _) rfl rfl
  have hl135 : l.length ≤ 135 := by omega
  have HBad := Lib.hid (fun h : ¬ okR l => psE_bad hl135 h)
  by_cases h17 : (s.size + 1) % 17 = 0
  case neg =>
    obtain ⟨q1, q2⟩ := HBad.out fun h => h17 (by rw [← hls]; exact h.1)
    have HQ1 := Lib.hid q1
    have HQ2 := Lib.hid q2
    have hm : ((s.size : Int) + 1) % 17 ≠ 0 := by omega
    clear hl hls q1 q2 HBad
    go_enter Tryd.func41, Tryd.ntmps41
    go_wp2
    go_ret2
    rw [HQ1.out, HQ2.out]
    exact RetSl.nil (Below.refl _ _) rfl rfl
  by_cases h0 : s.size = 0
  · omega
  obtain ⟨n, hn⟩ : ∃ n, n = (s.size + 1) / 17 := ⟨_, rfl⟩
  have hmk := mk64 n (by omega)
  have hown0 : (w.alloc (.cells (madeCells #[.int .u64 0] n) 55)).ownsRow w.heap.size 55 1 (.slice (some ⟨w.heap.size, 0, none⟩) n n) n (u64s (rowR l n 0)) := by
    have := World.ownsRow_lit (base := w.heap.size) (size := 1) (e := 55) w (madeCells #[.int .u64 0] n) n (Nat.le_refl _) (by unfold maxLen; omega) (by rw [zeros_made]; simp)
    rw [zeros_made] at this ⊢
    have e : u64s (rowR l n 0) = List.replicate n (.int .u64 0) := by
      rw [rowR_zero]
      simp [u64s, u64V]
    rw [e]
    exact this
  have Hown0 := Lib.hid hown0
  have Hend := Lib.hid (fun h : okR l => (show psE l = 0 ∧ rowR l n s.size = psV l by
    have := rowR_end hl135 h
    rw [hls, ← hn] at this
    exact ⟨(psE_iff hl135).2 h, this⟩))
  have hm0 : ((s.size : Int) + 1) % 17 = 0 := by omega
  have hnq : ((s.size : Int) + 1) / 17 = (n : Int) := by omega
  have hne : ((s.size : Int) == 0) = false := beq_eq_false_iff_ne.2 (by omega)
  have H17 := Lib.hid h17
  have H0 := Lib.hid h0
  have hn8 : n ≤ 8 := by omega
  have hn17 : s.size + 1 = 17 * n := by omega
  have HGet := Lib.hid (fun (k : Nat) (hk : k < s.size) => getD_text hl hk)
  have Hls := Lib.hid hls
  have hB0 : Below w.heap.size w (w.alloc (.cells (madeCells #[.int .u64 0] n) 55)) := ba (Below.refl _ _) _
  have HB0 := Lib.hid hB0
  have HN17 := Lib.hid hn17
  clear hl hls hown0 hn hB0 h17 h0 hn17
  go_enter Tryd.func41, Tryd.ntmps41
  go_wp2_with fail
  go_loopw [5] (fun i wr => ∃ k : Nat, k ≤ s.size ∧ i = .int .i64 k ∧ Hid (∀ j, j < k → posOk l j) ∧ wr.ownsRow w.heap.size 55 1 (.slice (some ⟨w.heap.size, 0, none⟩) n n) n (u64s (rowR l n k)) ∧ Below w.heap.size w wr) (fun i _ => s.size - (intOf i).toNat)
  case atStart => exact ⟨0, Nat.zero_le _, rfl, Lib.hid fun j hj => absurd hj (Nat.not_lt_zero j), Hown0.out, HB0.out⟩
  case round =>
    obtain ⟨k, hk, rfl, hpo, hO, hB⟩ := hrel
    clear hmk hm0 hnq hne
    by_cases hks : k < s.size
    · have hget := HGet.out k hks
      by_cases h16 : k % 17 = 16
      · have hm16 : (k : Int) % 17 = 16 := by omega
        by_cases hdot : l.getD k 0 = 46
        · have HP := Lib.hid (show ∀ j, j < k + 1 → posOk l j from fun j hj => by
            rcases Nat.lt_or_ge j k with h | h
            · exact hpo.out j h
            · rw [show j = k by omega]; unfold posOk; rw [if_pos h16]; exact hdot)
          have hO2 : wr.ownsRow w.heap.size 55 1 (.slice (some ⟨w.heap.size, 0, none⟩) n n) n (u64s (rowR l n (k + 1))) := by rw [rowR_dot h16]; exact hO
          have HO2 := Lib.hid hO2
          have hc : (s[k]'hks).toNat = 46 := by rw [hget, hdot]; rfl
          clear hget hdot hpo hO hO2
          go_wp2
          go_roundw
          case rel => exact ⟨k + 1, by omega, by go_num, HP, HO2.out, hB⟩
          case measure => simp [intOf]; omega
        · have hbad : ¬ okR l := fun h => by
            have := h.2.2 k (by rw [Hls.out]; exact hks)
            unfold posOk at this
            rw [if_pos h16] at this
            exact hdot this
          obtain ⟨q1, q2⟩ := HBad.out hbad
          have HQ1 := Lib.hid q1
          have HQ2 := Lib.hid q2
          have hc : (s[k]'hks).toNat ≠ 46 := by rw [hget]; intro e; exact hdot (UInt8.toNat_inj.1 e)
          clear hget hdot hpo hO hbad q1 q2
          go_wp2
          go_ret2
          rw [HQ1.out, HQ2.out]
          exact RetSl.nil hB rfl rfl
      · have hm16 : (k : Int) % 17 ≠ 16 := by omega
        obtain ⟨c, hc⟩ : ∃ c, c = l.getD k 0 := ⟨_, rfl⟩
        rw [← hc] at hget
        by_cases hx : isHx c = true
        · obtain ⟨hc1, hv16⟩ := hx_hd hx
          have hdv : digV (s[k]'hks) = (hv c : Int) := by rw [hget]; exact if_pos hx
          have HDg := Lib.hid (fun W => by
            have := digit_ (s[k]'hks) W
            rw [hdv] at this
            exact this)
          have hk17 : k / 17 < n := by have := HN17.out; omega
          have hpo2 : ∀ j, j < k + 1 → posOk l j := fun j hj => by
            rcases Nat.lt_or_ge j k with h | h
            · exact hpo.out j h
            · rw [show j = k by omega]; unfold posOk; rw [if_neg h16, ← hc]; exact hx
          have hstep := rowR_step (l := l) (n := n) (i := k) (by rw [Hls.out]; exact hks) h16 hk17
          have hwk := wkR_step (l := l) (i := k) (by rw [Hls.out]; exact hks) h16
          have hlt := wkR_lt (l := l) (i := k + 1) (by rw [Hls.out]; omega) hpo2 (k / 17)
          rw [← hc] at hstep hwk
          rw [hwk] at hlt
          obtain ⟨X, hX⟩ : ∃ X, X = wkR l k (k / 17) := ⟨_, rfl⟩
          obtain ⟨d, hd⟩ : ∃ d, d = hv c := ⟨_, rfl⟩
          obtain ⟨q, hq⟩ : ∃ q, q = n - 1 - k / 17 := ⟨_, rfl⟩
          rw [← hX, ← hd] at hstep hlt
          rw [← hq] at hstep
          rw [← hd] at HDg hv16
          have HPo := Lib.hid hpo2
          have Hq := Lib.hid hq
          have HX := Lib.hid hX
          have HSt := Lib.hid hstep
          clear hpo2 hstep hwk hc1 hdv hx hd hc hget hX hpo
          go_wp2_with fail
          (with_reducible refine (HDg.out _).mono ?_); rintro e w2 ⟨rfl, hb2⟩
          have hO2 := own_below hO hb2
          have hB2 := bt hB hb2
          have hqn : q < n := by omega
          have hcl : w2.cell? ⟨w.heap.size, q, none⟩ = some (.int .u64 (X : Int)) := by
            rw [hO2.cellAt q (by omega), List.getElem?_map, rowR_get hqn, HX.out, show n - 1 - q = k / 17 by omega]
            rfl
          obtain ⟨hst, _⟩ := hO2.stored q (.int .u64 ((X * 16 + d : Nat) : Int))
          have hst2 : (w2.setCell ⟨w.heap.size, q, none⟩ (.int .u64 ((X * 16 + d : Nat) : Int))).ownsRow w.heap.size 55 1 (.slice (some ⟨w.heap.size, 0, none⟩) n n) n (u64s (rowR l n (k + 1))) := by
            rw [HSt.out, u64s, List.map_set]; exact hst
          have hgw : w.heap.size < w2.heap.size := (hO2.lt w.heap.size rfl).2
          have hfr := hO2.frozenAt q
          have hBs := bs hB2 (p := ⟨w.heap.size, q, none⟩) (u := .int .u64 ((X * 16 + d : Nat) : Int)) (Nat.le_refl _)
          have hval : (16 : Int) * (X : Int) + (d : Int) = ((X * 16 + d : Nat) : Int) := by omega
          have hX60 : X < 1152921504606846976 := by omega
          have Hval := Lib.hid hval
          have Hst := Lib.hid hst2
          have HBs := Lib.hid hBs
          clear hst hst2 hBs hval hO hO2 hB hB2 hb2 HSt HX HDg
          subst hq
          clear hqn hlt Hq
          go_wp2
          go_roundw
          case rel =>
            rw [Hval.out]
            exact ⟨k + 1, by omega, by go_num, HPo, Hst.out, HBs.out⟩
          case measure => simp [intOf]; omega
        · have hbad : ¬ okR l := fun h => by
            have := h.2.2 k (by rw [Hls.out]; exact hks)
            unfold posOk at this
            rw [if_neg h16, ← hc] at this
            exact hx this
          obtain ⟨q1, q2⟩ := HBad.out hbad
          have HQ1 := Lib.hid q1
          have HQ2 := Lib.hid q2
          have hdv : digV (s[k]'hks) = -1 := by rw [hget]; exact if_neg hx
          have HDg := Lib.hid (fun W => by
            have := digit_ (s[k]'hks) W
            rw [hdv] at this
            exact this)
          clear hdv hx hc hget hpo hO hbad q1 q2
          go_wp2_with fail
          (with_reducible refine (HDg.out _).mono ?_); rintro e w2 ⟨rfl, hb2⟩
          have hB2 := bt hB hb2
          clear HDg hb2 hB
          go_wp2
          go_ret2
          rw [HQ1.out, HQ2.out]
          exact RetSl.nil hB2 rfl rfl
    · obtain rfl : k = s.size := by omega
      have hok : okR l := ⟨by rw [Hls.out]; exact H17.out, by rw [Hls.out]; exact H0.out, fun j hj => hpo.out j (by rw [← Hls.out]; exact hj)⟩
      obtain ⟨q1, q2⟩ := Hend.out hok
      rw [q2] at hO
      have HQ1 := Lib.hid q1
      have hlen : (psV l).length = n := by rw [← q2, rowR_len]
      have HL := Lib.hid hlen
      have HO := Lib.hid hO
      clear hpo hO hok q1 q2 hlen
      go_wp2
      go_ret2
      rw [HQ1.out]
      exact RetSl.of_own HO.out hB rfl HL.out.symm rfl
end Go.Proofs.YtibnegheabhbdaaDoor
