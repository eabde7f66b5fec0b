/- Lexer: Same of the reference. No condition. -/
import Derived.Test.YtfleamgncodkpaaDoorJ4
import Derived.Deep.DeepCutAuto
namespace Go.Proofs.YtfleamgncodkpaaDoor
open Go.RowKit
/-- one token in place of another, with places or without -/
def smQ (p : Bool) (t u : T9) : Bool := if p = true then t9Q t u else t9Q (t.1, u.2.1, u.2.2.1, t.2.2.2) u
def sameL (p : Bool) : List T9 → List T9 → Bool
  | [], [] => true
  | t :: l, u :: m => smQ p t u && sameL p l m
  | _, _ => false
theorem sameL_len {p : Bool} : ∀ {l m : List T9}, l.length ≠ m.length → sameL p l m = false
  | [], [], h => absurd rfl h
  | [], _ :: _, _ => rfl
  | _ :: _, [], _ => rfl
  | t :: l, u :: m, h => by
    rw [sameL, sameL_len (fun e => h (by simp [e]))]; simp
theorem sameL_at {p : Bool} {l m : List T9} {k : Nat} (h1 : k < l.length) (h2 : k < m.length) : sameL p (l.drop k) (m.drop k) = (smQ p l[k] m[k] && sameL p (l.drop (k + 1)) (m.drop (k + 1))) := by
  rw [List.drop_eq_getElem_cons h1, List.drop_eq_getElem_cons h2, sameL]
theorem t9Q_iff {t u : T9} : t9Q t u = true ↔ t.1 = u.1 ∧ t.2.1 = u.2.1 ∧ t.2.2.1 = u.2.2.1 ∧ t.2.2.2.1 = u.2.2.2.1 ∧ t.2.2.2.2.1 = u.2.2.2.2.1 ∧ sQ t.2.2.2.2.2 u.2.2.2.2.2 = true := by
  unfold t9Q
  rw [tkQ_iff, ← stQ_sets]
  unfold stQ
  rw [decide_eq_true_eq]
theorem sameL_true {p : Bool} : ∀ {l m : List T9}, l.length = m.length → (∀ k (h1 : k < l.length) (h2 : k < m.length), smQ p l[k] m[k] = true) → sameL p l m = true
  | [], [], _, _ => rfl
  | [], _ :: _, h, _ => by simp at h
  | _ :: _, [], h, _ => by simp at h
  | t :: l, u :: m, h, hk => by
    have h0 : smQ p t u = true := hk 0 (by simp) (by simp)
    rw [sameL, h0, sameL_true (by simpa using h) (fun k h1 h2 => hk (k + 1) (by simpa using h1) (by simpa using h2))]; rfl
set_option maxRecDepth 100000 in
set_option maxHeartbeats 8000000 in
theorem same_ (p : Bool) (l m : List T9) (w : World) (A A' : Option Addr) (c c' : Nat) (hR : Reads w w.heap.size 9 A l.length (tks l)) (hR' : Reads w w.heap.size 9 A' m.length (tks m)) (_ : l.length ≤ 100000) (hm : m.length ≤ 100000) (b : Bool) (hb : Hid (sameL p l m = b)) :
    Calls Tryd.prog 15 #[.slice A l.length c, .slice A' m.length c', .bool p] w fun e w' => e = .returned (.bool b) ∧ Below w.heap.size w w' := by
  by_cases hlen : l.length = m.length
  case neg =>
    have e0 : ((l.length : Int) != (m.length : Int)) = true := by rw [bne_iff_ne]; omega
    have HB := Lib.hid (show false = b by rw [← hb.out, sameL_len hlen])
    clear hlen hb
    go_enter Tryd.func15, Tryd.ntmps15
    go_wp2
    go_ret
    exact ⟨by rw [← HB.out]; rfl, Below.refl _ _⟩
  have e0 : ((l.length : Int) != (m.length : Int)) = false := by rw [hlen]; simp
  have hlm : l.length ≤ m.length := by omega
  have HLen := Lib.hid hlen
  have HR := Lib.hid hR
  have HR' := Lib.hid hR'
  clear hlen hR hR'
  go_enter Tryd.func15, Tryd.ntmps15
  go_wp2
  go_loopw [7] (fun i wr => ∃ k : Nat, k ≤ l.length ∧ i = .int .i64 (k : Int) ∧ Below w.heap.size w wr ∧ Hid (sameL p (l.drop k) (m.drop k) = b)) (fun i _ => l.length - (intOf i).toNat)
  case atStart => exact ⟨0, Nat.zero_le _, rfl, Below.refl _ _, Lib.hid (by rw [List.drop_zero, List.drop_zero]; exact hb.out)⟩
  case round =>
    obtain ⟨k, hk, rfl, hbl, hs⟩ := hrel
    by_cases hlt : k < l.length
    case neg =>
      have i1 : ¬ ((k : Int) < (l.length : Int)) := by omega
      have HB := Lib.hid (show true = b by
        have h := hs.out
        rw [List.drop_of_length_le (by omega), List.drop_of_length_le (by have := HLen.out; omega)] at h
        exact h)
      clear hs hb
      go_wp2
      go_ret
      exact ⟨by rw [← HB.out]; rfl, hbl⟩
    have i1 : (k : Int) < (l.length : Int) := by omega
    have i0 : (0 : Int) ≤ (k : Int) := by omega
    have hkm : k < m.length := by omega
    have i2 : (k : Int) < (m.length : Int) := by omega
    have hst := sameL_at (p := p) hlt hkm
    rw [hs.out] at hst
    obtain ⟨bk, off, rfl, hbk, c0, c1, c2, c3, c4, c5, c6, c7, c8⟩ := (HR.out.below hbl).at9 hlt
    obtain ⟨bk', off', rfl, hbk', d0, d1, d2, d3, d4, d5, d6, d7, d8⟩ := (HR'.out.below hbl).at9 hkm
    obtain ⟨K, F, T, N, S, f, ht⟩ : ∃ K F T N S f, l[k] = (K, F, T, N, S, f) := ⟨_, _, _, _, _, _, rfl⟩
    obtain ⟨K', F', T', N', S', f', ht'⟩ : ∃ K F T N S f, m[k] = (K, F, T, N, S, f) := ⟨_, _, _, _, _, _, rfl⟩
    rw [ht] at c0 c1 c2 c3 c4 c5 c6 c7 c8 hst
    rw [ht'] at d0 d1 d2 d3 d4 d5 d6 d7 d8 hst
    simp only at c0 c1 c2 c3 c4 c5 c6 c7 c8 d0 d1 d2 d3 d4 d5 d6 d7 d8
    have hbkw : bk < wr.heap.size := Nat.lt_of_lt_of_le hbk hbl.size
    have hbkw' : bk' < wr.heap.size := Nat.lt_of_lt_of_le hbk' hbl.size
    have Hst := Lib.hid hst
    have HBl := Lib.hid hbl
    clear hst ht ht' hs hb
    go_upto_region 6 with fail
    go_cut [8, 9] (fun x y wx => ∃ g1 g2, x = .pointer (some ⟨g1, 0, none⟩) ∧ y = .pointer (some ⟨g2, 0, none⟩) ∧ g1 ≠ g2 ∧ w.heap.size ≤ g1 ∧ Fr w [(g1, tkO K F T N S f), (g2, tkO K' F' T' N' S' f')] wx)
    case first =>
      have hA : Fr w [(wr.heap.size, tkO K F T N S f), (wr.heap.size + 1, tkO K' F' T' N' S' f')] ((wr.alloc (tkO K F T N S f)).alloc (tkO K' F' T' N' S' f')).drew :=
        ((((Fr.nil HBl.out).newN rfl (tkO K F T N S f)).newN (g := wr.heap.size + 1) (by simp) (tkO K' F' T' N' S' f')).sub (by simp)).drew
      have hA' : Fr w [(wr.heap.size + 1, tkO K F T N S f), (wr.heap.size, tkO K' F' T' N' S' f')] ((wr.alloc (tkO K' F' T' N' S' f')).alloc (tkO K F T N S f)).drew :=
        ((((Fr.nil HBl.out).newN rfl (tkO K' F' T' N' S' f')).newN (g := wr.heap.size + 1) (by simp) (tkO K F T N S f)).sub (by simp)).drew
      have hz1 := HBl.out.size
      have hz2 : w.heap.size ≤ wr.heap.size + 1 := by omega
      have hz3 : wr.heap.size ≠ wr.heap.size + 1 := by omega
      have HA := Lib.hid hA
      have HA' := Lib.hid hA'
      clear hA hA'
      go_region
      all_goals
        go_wp2
        go_meet
        first
          | exact ⟨wr.heap.size, wr.heap.size + 1, rfl, rfl, hz3, hz1, HA.out⟩
          | exact ⟨wr.heap.size + 1, wr.heap.size, rfl, rfl, hz3.symm, hz2, HA'.out⟩
    case rest =>
    obtain ⟨g1, g2, rfl, rfl, hg, hg1, hF⟩ := hcut
    clear c0 c1 c2 c3 c4 c5 c6 c7 c8 d0 d1 d2 d3 d4 d5 d6 d7 d8 hbkw hbkw' hbl
    obtain ⟨⟨c0, c1, c2, c3, c4, c5, c6, c7, c8⟩, ⟨f0, f1, f2, f3, f4, f5, f6, f7, f8⟩, hl1⟩ := bx9 (hF.at (g := g1) (o := tkO K F T N S f) (by simp))
    obtain ⟨⟨d0, d1, d2, d3, d4, d5, d6, d7, d8⟩, _, hl2⟩ := bx9 (hF.at (g := g2) (o := tkO K' F' T' N' S' f') (by simp))
    have HF := Lib.hid hF
    clear hF
    have hst := Hst.out
    rcases p with _ | _
    · have hF2 : Fr w [(g1, tkO K F' T' N S f), (g2, tkO K' F' T' N' S' f')] ((wc.setCell ⟨g1, 1, none⟩ (.int .i64 F')).setCell ⟨g1, 2, none⟩ (.int .i64 T')).drew := by
        have h := ((HF.out.set hg1 (by simpa using hg.symm) 1 (.int .i64 F')).set hg1 (by simpa using hg.symm) 2 (.int .i64 T')).drew
        simpa using h
      have HF2 := Lib.hid hF2
      clear hF2
      go_wp2
      go_region
      all_goals
        generalize ((wc.setCell ⟨g1, 1, none⟩ (.int .i64 F')).setCell ⟨g1, 2, none⟩ (.int .i64 T')).drew = W5 at *
        clear c0 c1 c2 c3 c4 c5 c6 c7 c8 f0 f1 f2 f3 f4 f5 f6 f7 f8 hl1 d0 d1 d2 d3 d4 d5 d6 d7 d8 hl2
        obtain ⟨⟨c0, c1, c2, c3, c4, c5, c6, c7, c8⟩, _, hl1⟩ := bx9 (HF2.out.at (g := g1) (o := tkO K F' T' N S f) (by simp))
        obtain ⟨⟨d0, d1, d2, d3, d4, d5, d6, d7, d8⟩, _, hl2⟩ := bx9 (HF2.out.at (g := g2) (o := tkO K' F' T' N' S' f') (by simp))
        have hB2 := HF2.out.bel
        rcases hq : tkQ (K, F', T', N, S, ((wK f 0 : Nat) : Int), ((wK f 1 : Nat) : Int), ((wK f 2 : Nat) : Int), ((wK f 3 : Nat) : Int)) (K', F', T', N', S', ((wK f' 0 : Nat) : Int), ((wK f' 1 : Nat) : Int), ((wK f' 2 : Nat) : Int), ((wK f' 3 : Nat) : Int)) with _ | _
        · have HB := Lib.hid (show false = b by
            rw [hst, show smQ false (K, F, T, N, S, f) (K', F', T', N', S', f') = false from hq]; rfl)
          clear hst
          go_wp2
          go_ret
          exact ⟨by rw [← HB.out]; rfl, hB2⟩
        · have HS := Lib.hid (show sameL false (l.drop (k + 1)) (m.drop (k + 1)) = b by
            rw [hst, show smQ false (K, F, T, N, S, f) (K', F', T', N', S', f') = true from hq]; rfl)
          clear hst
          go_wp2
          go_roundw
          case rel => exact ⟨k + 1, by omega, by go_num, hB2, HS⟩
          case measure => (simp [intOf]) <;> omega
    · have hB2 := HF.out.bel
      rcases hq : tkQ (K, F, T, N, S, ((wK f 0 : Nat) : Int), ((wK f 1 : Nat) : Int), ((wK f 2 : Nat) : Int), ((wK f 3 : Nat) : Int)) (K', F', T', N', S', ((wK f' 0 : Nat) : Int), ((wK f' 1 : Nat) : Int), ((wK f' 2 : Nat) : Int), ((wK f' 3 : Nat) : Int)) with _ | _
      · have HB := Lib.hid (show false = b by
          rw [hst, show smQ true (K, F, T, N, S, f) (K', F', T', N', S', f') = false from hq]; rfl)
        clear hst
        go_wp2
        go_ret
        exact ⟨by rw [← HB.out]; rfl, hB2⟩
      · have HS := Lib.hid (show sameL true (l.drop (k + 1)) (m.drop (k + 1)) = b by
          rw [hst, show smQ true (K, F, T, N, S, f) (K', F', T', N', S', f') = true from hq]; rfl)
        clear hst
        go_wp2
        go_roundw
        case rel => exact ⟨k + 1, by omega, by go_num, hB2, HS⟩
        case measure => (simp [intOf]) <;> omega
end Go.Proofs.YtfleamgncodkpaaDoor
