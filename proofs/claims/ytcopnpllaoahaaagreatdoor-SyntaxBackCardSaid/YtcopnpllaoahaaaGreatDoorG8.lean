/- Sets of bytes: the text of a byte is read (read of the program). No condition. Sets of bytes: the text of a set is read (Prefix of the program). No condition. -/
import Derived.Test.YtcopnpllaoahaaaGreatDoorG7
import Derived.Test.YtcopnpllaoahaaaGreatDoorK3
namespace Go.Proofs.YtcopnpllaoahaaaGreatDoor
open Go.RowKit
theorem hex_index (c : UInt8) : Lib.indexByte [48, 49, 50, 51, 52, 53, 54, 55, 56, 57, 97, 98, 99, 100, 101, 102] c = if vlK c = 16 then -1 else (vlK c : Int) := by
  have key : ∀ k : Fin 256, Lib.indexByte [48, 49, 50, 51, 52, 53, 54, 55, 56, 57, 97, 98, 99, 100, 101, 102] (UInt8.ofNat k) = if vlK (UInt8.ofNat k) = 16 then -1 else (vlK (UInt8.ofNat k) : Int) := by decide +kernel
  have := key ⟨c.toNat, c.toNat_lt⟩
  simpa using this
theorem vlK_le (c : UInt8) : vlK c ≤ 16 := by
  unfold vlK
  split
  · omega
  · split <;> omega
theorem signs_ (c : UInt8) (v : Int) (hv : Hid ((if vlK c = 16 then -1 else (vlK c : Int)) = v)) (w : World) :
    Calls Tryz.prog 101 #[.string ⟨#[48, 49, 50, 51, 52, 53, 54, 55, 56, 57, 97, 98, 99, 100, 101, 102]⟩, .int .u8 (c.toNat : Int)] w fun e w' => e = .returned (.int .i64 v) ∧ w = w' := by
  refine (Tryz.strings_IndexByte ⟨#[48, 49, 50, 51, 52, 53, 54, 55, 56, 57, 97, 98, 99, 100, 101, 102]⟩ (c.toNat : Int) w).mono ?_
  rintro e w' ⟨rfl, rfl⟩
  refine ⟨?_, rfl⟩
  rw [← hv.out, ← hex_index]
  simp
theorem dropB (s : ByteArray) (a : Nat) (h : a < s.size) : s.data.toList.drop a = s[a] :: s.data.toList.drop (a + 1) := by
  rw [List.drop_eq_getElem_cons (by simpa using h)]; rfl
/-- what reading a byte gives -/
def RdB (w : World) (a : Nat) (r : Option UInt8 × Nat) (e : Ending) (w' : World) : Prop :=
  e = .returned (.tuple #[.int .u8 (((r.1.getD 0).toNat : Nat) : Int), .int .i64 ((a + r.2 : Nat) : Int), .bool r.1.isSome]) ∧ w = w'
theorem RdB.no {w w' : World} {a k : Nat} {r : Option UInt8 × Nat} {x : Int} (h : r = (none, k)) (hx : x = ((a + k : Nat) : Int)) (hw : w = w') : RdB w a r (.returned (.tuple #[.int .u8 0, .int .i64 x, .bool false])) w' := by
  subst h hx hw; exact ⟨rfl, rfl⟩
theorem RdB.yes {w w' : World} {a k : Nat} {b : UInt8} {r : Option UInt8 × Nat} {x y : Int} (h : r = (some b, k)) (hx : x = ((a + k : Nat) : Int)) (hy : y = (b.toNat : Int)) (hw : w = w') : RdB w a r (.returned (.tuple #[.int .u8 y, .int .i64 x, .bool true])) w' := by
  subst h hx hy hw; exact ⟨rfl, rfl⟩
theorem pl_iff (c : UInt8) : (plK c = true) ↔ (33 ≤ c.toNat ∧ c.toNat ≤ 126) := by unfold plK; simp
/-- two hexadecimal digits -/
def HxR (L : List UInt8) (j v : Nat) : Prop :=
  (j = 0 ∧ v = 0) ∨ (j = 1 ∧ ∃ x r, L = x :: r ∧ vlK x ≠ 16 ∧ v = vlK x) ∨ (j = 2 ∧ ∃ x y r, L = x :: y :: r ∧ vlK x ≠ 16 ∧ vlK y ≠ 16 ∧ v = 16 * vlK x + vlK y)
set_option maxRecDepth 100000 in
set_option maxHeartbeats 4000000 in
theorem read_ (s : ByteArray) (a : Nat) (ha : a ≤ s.size) (hs : s.size ≤ 1000000) (r : Option UInt8 × Nat) (h : Hid (onK (s.data.toList.drop a) = r)) (w : World) :
    Calls Tryz.prog 80 #[.string s, .int .i64 (a : Int)] w (RdB w a r) := by
  have hr := h.out
  have hsl : s.data.toList.length = s.size := by simp
  by_cases h0 : a = s.size
  · have i1 : (s.size : Int) ≤ (a : Int) := by omega
    have HQ := Lib.hid (show r = (none, 0) by rw [← hr, List.drop_of_length_le (by omega)]; rfl)
    have He := Lib.hid h0
    clear h0 hr hsl h
    go_enter Tryz.func80, Tryz.ntmps80
    go_wp2
    refine bodyPost_ret (v := .tuple #[.int .u8 0, .int .i64 (s.size : Int), .bool false]) (by simp [results, go_sem]) rfl (RdB.no HQ.out (by have := He.out; omega) rfl)
  have hlt : a < s.size := by omega
  have i1 : ¬ ((s.size : Int) ≤ (a : Int)) := by omega
  have i2 : (a : Int) < (s.size : Int) := by omega
  rw [dropB s a hlt] at hr
  have hc8 := s[a].toNat_lt
  by_cases h92 : s[a] = 92
  case neg =>
    have m1 : ((s[a].toNat : Int) != 92) = true := by
      rw [bne_iff_ne]; intro e; exact h92 (UInt8.toNat_inj.1 (by have : s[a].toNat = 92 := by omega
                                                                 rw [this]; rfl))
    unfold onK at hr
    simp only at hr
    rw [if_pos h92] at hr
    obtain ⟨v, hv⟩ : ∃ v, Lib.indexByte [91, 93, 92, 94, 45] s[a] = v := ⟨_, rfl⟩
    have hsp := sp_index s[a]
    rw [hv] at hsp
    have Hv := Lib.hid hv
    have hp := pl_iff s[a]
    by_cases c1 : 33 ≤ s[a].toNat
    case neg =>
      have j1 : (s[a].toNat : Int) < 33 := by omega
      have HQ := Lib.hid (show r = (none, 0) by
        rw [← hr, if_neg]
        intro e
        have := (hp.1 ((Bool.and_eq_true _ _).mp e).1).1
        omega)
      clear h92 hr hv hsp hp c1 hsl h h0
      go_enter Tryz.func80, Tryz.ntmps80
      go_wp2
      refine bodyPost_ret (v := .tuple #[.int .u8 0, .int .i64 (a : Int), .bool false]) (by simp [results, go_sem]) rfl (RdB.no HQ.out (by omega) rfl)
    have j1 : ¬ ((s[a].toNat : Int) < 33) := by omega
    by_cases c2 : s[a].toNat ≤ 126
    case neg =>
      have j2 : (126 : Int) < (s[a].toNat : Int) := by omega
      have HQ := Lib.hid (show r = (none, 0) by
        rw [← hr, if_neg]
        intro e
        have := (hp.1 ((Bool.and_eq_true _ _).mp e).1).2
        omega)
      clear h92 hr hv hsp hp c1 c2 hsl h h0
      go_enter Tryz.func80, Tryz.ntmps80
      go_wp2
      refine bodyPost_ret (v := .tuple #[.int .u8 0, .int .i64 (a : Int), .bool false]) (by simp [results, go_sem]) rfl (RdB.no HQ.out (by omega) rfl)
    have j2 : ¬ ((126 : Int) < (s[a].toNat : Int)) := by omega
    rcases hss : spK s[a] with _ | _
    · have HQ := Lib.hid (show r = (some s[a], 1) by
        rw [← hr, if_pos]
        rw [hss, hp.2 ⟨c1, c2⟩]; rfl)
      rw [hss] at hsp
      have j3 : ¬ (0 ≤ v) := by simpa using hsp
      clear h92 hr hv hsp hp c1 c2 hsl h h0 hss
      go_enter Tryz.func80, Tryz.ntmps80
      go_wp2_with fail
      (with_reducible refine (marks_ s[a] v Hv _).mono ?_); rintro e w1 ⟨rfl, hw1⟩; subst w1
      go_wp2
      refine bodyPost_ret (v := .tuple #[.int .u8 (s[a].toNat : Int), .int .i64 ((a : Int) + 1), .bool true]) (by simp [results, go_sem]) rfl (RdB.yes HQ.out (by omega) rfl rfl)
    · have HQ := Lib.hid (show r = (none, 0) by
        rw [← hr, if_neg]
        rw [hss]; simp)
      rw [hss] at hsp
      have j3 : 0 ≤ v := by simpa using hsp
      clear h92 hr hv hsp hp c1 c2 hsl h h0 hss
      go_enter Tryz.func80, Tryz.ntmps80
      go_wp2_with fail
      (with_reducible refine (marks_ s[a] v Hv _).mono ?_); rintro e w1 ⟨rfl, hw1⟩; subst w1
      go_wp2
      refine bodyPost_ret (v := .tuple #[.int .u8 0, .int .i64 (a : Int), .bool false]) (by simp [results, go_sem]) rfl (RdB.no HQ.out (by omega) rfl)
  case pos =>
  have m1 : ((s[a].toNat : Int) != 92) = false := by rw [h92]; rfl
  have Ha92 := Lib.hid h92
  unfold onK at hr
  simp only at hr
  rw [if_neg (fun e => e h92)] at hr
  by_cases h1 : a + 1 < s.size
  case neg =>
    have i3 : (s.size : Int) ≤ (a : Int) + 1 := by omega
    have HQ := Lib.hid (show r = (none, 1) by rw [← hr, List.drop_of_length_le (by omega)])
    have He := Lib.hid (show s.size = a + 1 by omega)
    clear hr hsl h h0 h92 h1 hc8
    go_enter Tryz.func80, Tryz.ntmps80
    go_wp2
    refine bodyPost_ret (v := .tuple #[.int .u8 0, .int .i64 (s.size : Int), .bool false]) (by simp [results, go_sem]) rfl (RdB.no HQ.out (by have := He.out; omega) rfl)
  have i3 : ¬ ((s.size : Int) ≤ (a : Int) + 1) := by omega
  have i4 : (a : Int) + 1 < (s.size : Int) := by omega
  rw [dropB s (a + 1) h1] at hr
  simp only at hr
  have hd8 := s[a + 1].toNat_lt
  obtain ⟨v, hv⟩ : ∃ v, Lib.indexByte [91, 93, 92, 94, 45] s[a + 1] = v := ⟨_, rfl⟩
  have hsp := sp_index s[a + 1]
  rw [hv] at hsp
  have Hv := Lib.hid hv
  rcases hss : spK s[a + 1] with _ | _
  case true =>
    rw [hss] at hsp
    rw [if_pos hss] at hr
    have j3 : 0 ≤ v := by simpa using hsp
    have HQ := Lib.hid hr.symm
    clear hr hv hsp hsl h h0 h92 hss hc8
    go_enter Tryz.func80, Tryz.ntmps80
    go_wp2_with fail
    (with_reducible refine (marks_ s[a + 1] v Hv _).mono ?_); rintro e w1 ⟨rfl, hw1⟩; subst w1
    go_wp2
    refine bodyPost_ret (v := .tuple #[.int .u8 (s[a + 1].toNat : Int), .int .i64 ((a : Int) + 2), .bool true]) (by simp [results, go_sem]) rfl (RdB.yes HQ.out (by omega) rfl rfl)
  case false =>
  rw [hss] at hsp
  rw [if_neg (by rw [hss]; simp)] at hr
  have j3 : ¬ (0 ≤ v) := by simpa using hsp
  by_cases hx : s[a + 1] = 120
  case neg =>
    have m2 : ((s[a + 1].toNat : Int) != 120) = true := by
      rw [bne_iff_ne]; intro e; exact hx (UInt8.toNat_inj.1 (by have : s[a + 1].toNat = 120 := by omega
                                                                rw [this]; rfl))
    rw [if_pos hx] at hr
    have HQ := Lib.hid hr.symm
    clear hr hv hsp hsl h h0 h92 hss hc8 hx
    go_enter Tryz.func80, Tryz.ntmps80
    go_wp2_with fail
    (with_reducible refine (marks_ s[a + 1] v Hv _).mono ?_); rintro e w1 ⟨rfl, hw1⟩; subst w1
    go_wp2
    refine bodyPost_ret (v := .tuple #[.int .u8 0, .int .i64 ((a : Int) + 1), .bool false]) (by simp [results, go_sem]) rfl (RdB.no HQ.out (by omega) rfl)
  case pos =>
  have m2 : ((s[a + 1].toNat : Int) != 120) = false := by rw [hx]; rfl
  rw [if_neg (fun e => e hx)] at hr
  have HQ := Lib.hid hr.symm
  clear hr hv hsp hsl h h0 h92 hss hc8 hx
  go_enter Tryz.func80, Tryz.ntmps80
  go_wp2_with fail
  (with_reducible refine (marks_ s[a + 1] v Hv _).mono ?_); rintro e w1 ⟨rfl, hw1⟩; subst w1
  go_wp2
  go_loop [4, 7] (fun b i => ∃ j v : Nat, j ≤ 2 ∧ i = .int .i64 ((a : Int) + 2 + j) ∧ b = .int .u8 (v : Int) ∧ Hid (HxR (s.data.toList.drop (a + 2)) j v) ∧ a + 2 + j ≤ s.size) (fun _ i => a + 4 - (intOf i).toNat)
  case atStart => exact ⟨0, 0, by omega, by go_num, rfl, Lib.hid (.inl ⟨rfl, rfl⟩), by omega⟩
  case round =>
    obtain ⟨j, v', hj, rfl, rfl, hx, hle⟩ := hrel
    by_cases hj2 : j = 2
    · have k1 : ¬ ((a : Int) + 2 + j < (a : Int) + 4) := by omega
      have HQ2 := Lib.hid (show r = (some (UInt8.ofNat v'), 4) ∧ v' < 256 by
        rcases hx.out with ⟨h, _⟩ | ⟨h, _⟩ | ⟨_, x, y, t, h1, h2, h3, h4⟩
        · omega
        · omega
        · have e := HQ.out
          rw [show a + 1 + 1 = a + 2 from rfl, h1] at e
          simp only [if_neg h2, if_neg h3] at e
          have b1 := vlK_le x
          have b2 := vlK_le y
          exact ⟨by rw [e, h4], by omega⟩)
      clear HQ hx hj2
      go_wp2
      refine bodyPost_ret (v := .tuple #[.int .u8 (v' : Int), .int .i64 ((a : Int) + 4), .bool true]) (by simp [results, go_sem]) rfl (RdB.yes HQ2.out.1 (by omega) ?_ rfl)
      have := HQ2.out.2
      simp; omega
    have k1 : (a : Int) + 2 + j < (a : Int) + 4 := by omega
    have hno : (s.data.toList.drop (a + 2 + j) = [] ∨ ∃ c t, s.data.toList.drop (a + 2 + j) = c :: t ∧ vlK c = 16) → r = (none, 2 + j) := by
      intro hd
      rcases hx.out with ⟨rfl, _⟩ | ⟨rfl, x, t, h1, h2, _⟩ | ⟨h, _⟩
      · have e := HQ.out
        rw [show a + 1 + 1 = a + 2 + 0 from rfl] at e
        rcases hd with h | ⟨c, t, h, h9⟩
        · rw [h] at e; exact e
        · rw [h] at e; simp only [if_pos h9] at e; exact e
      · have e := HQ.out
        rw [show a + 1 + 1 = a + 2 from rfl, h1] at e
        have ht : s.data.toList.drop (a + 2 + 1) = t := by rw [← List.drop_drop, h1]; rfl
        rw [ht] at hd
        simp only [if_neg h2] at e
        rcases hd with h | ⟨c, t', h, h9⟩
        · rw [h] at e; exact e
        · rw [h] at e; simp only [if_pos h9] at e; exact e
      · exact absurd h hj2
    by_cases hin : a + 2 + j < s.size
    case neg =>
      have k2 : ¬ ((a : Int) + 2 + j < (s.size : Int)) := by omega
      have HN := Lib.hid (hno (.inl (List.drop_of_length_le (by simp; omega))))
      have k3 : min ((a : Int) + 2 + j) (s.size : Int) = (a : Int) + 2 + j := by omega
      clear HQ hno hx hj2
      go_wp2
      refine bodyPost_ret (v := .tuple #[.int .u8 0, .int .i64 ((a : Int) + 2 + j), .bool false]) (by simp [results, go_sem]) rfl (RdB.no HN.out (by omega) rfl)
    have k2 : (a : Int) + 2 + j < (s.size : Int) := by omega
    have hd := dropB s (a + 2 + j) hin
    have hc8 := s[a + 2 + j].toNat_lt
    by_cases hv16 : vlK s[a + 2 + j] = 16
    · have Hu := Lib.hid (show (if vlK s[a + 2 + j] = 16 then -1 else (vlK s[a + 2 + j] : Int)) = -1 by rw [if_pos hv16])
      have HN := Lib.hid (hno (.inr ⟨_, _, hd, hv16⟩))
      have k3 : min ((a : Int) + 2 + j) (s.size : Int) = (a : Int) + 2 + j := by omega
      clear HQ hno hx hj2 hv16 hd
      go_wp2_with fail
      (with_reducible refine (signs_ s[a + 2 + j] (-1) Hu _).mono ?_); rintro e w1 ⟨rfl, hw1⟩; subst w1
      go_wp2
      refine bodyPost_ret (v := .tuple #[.int .u8 0, .int .i64 ((a : Int) + 2 + j), .bool false]) (by simp [results, go_sem]) rfl (RdB.no HN.out (by omega) rfl)
    · have hvl := vlK_le s[a + 2 + j]
      obtain ⟨u, hu⟩ : ∃ u, u = vlK s[a + 2 + j] := ⟨_, rfl⟩
      have Hu := Lib.hid (show (if vlK s[a + 2 + j] = 16 then -1 else (vlK s[a + 2 + j] : Int)) = (u : Int) by rw [if_neg hv16, hu])
      have hv15 : u < 16 := by omega
      have hv' : v' < 16 := by
        rcases hx.out with ⟨_, h⟩ | ⟨_, x, r, _, h1, h2⟩ | ⟨h, _⟩
        · omega
        · have := vlK_le x; omega
        · exact absurd h hj2
      have hor : bits .or .u8 ((v' : Int) * 16) (u : Int) = ((16 * v' + u : Nat) : Int) := by
        have := u8_or_nat (v' * 16) u (by omega) (by omega)
        rw [nat_join 4 (v' * 16) u (by omega) (by omega)] at this
        rw [show ((v' : Int) * 16) = ((v' * 16 : Nat) : Int) by omega, this]
        omega
      have Hor := Lib.hid hor
      have Hx2 : Hid (HxR (s.data.toList.drop (a + 2)) (j + 1) (16 * v' + u)) := Lib.hid (by
        rcases hx.out with ⟨rfl, rfl⟩ | ⟨rfl, x, t, h1, h2, h3⟩ | ⟨h, _⟩
        · refine .inr (.inl ⟨rfl, _, _, hd, hv16, by omega⟩)
        · have ht : s.data.toList.drop (a + 2 + 1) = t := by rw [← List.drop_drop, h1]; rfl
          rw [ht] at hd
          exact .inr (.inr ⟨rfl, x, s[a + 2 + 1], _, by rw [h1, hd], h2, hv16, by omega⟩)
        · exact absurd h hj2)
      clear hv16 hd hor hx hno hu hvl
      go_wp2_with fail
      (with_reducible refine (signs_ s[a + 2 + j] (u : Int) Hu _).mono ?_); rintro e w1 ⟨rfl, hw1⟩; subst w1
      go_wp2
      go_round
      case rel => exact ⟨j + 1, 16 * v' + u, by omega, by go_num, by rw [Hor.out], Hx2, by omega⟩
      case measure => (simp [intOf]) <;> omega
end Go.Proofs.YtcopnpllaoahaaaGreatDoor
namespace Go.Proofs.YtcopnpllaoahaaaGreatDoor
open Go.RowKit
theorem read_no (s : ByteArray) (a q k : Nat) (ha : a ≤ s.size) (hs : s.size ≤ 1000000) (h : Hid (onK (s.data.toList.drop a) = (none, k))) (hq : Hid (q = a + k)) (w : World) :
    Calls Tryz.prog 80 #[.string s, .int .i64 (a : Int)] w fun e w' => e = .returned (.tuple #[.int .u8 0, .int .i64 (q : Int), .bool false]) ∧ w = w' := by
  rw [hq.out]
  exact read_ s a ha hs _ h w
theorem read_yes (s : ByteArray) (a q k : Nat) (b : UInt8) (ha : a ≤ s.size) (hs : s.size ≤ 1000000) (h : Hid (onK (s.data.toList.drop a) = (some b, k))) (hq : Hid (q = a + k)) (w : World) :
    Calls Tryz.prog 80 #[.string s, .int .i64 (a : Int)] w fun e w' => e = .returned (.tuple #[.int .u8 (b.toNat : Int), .int .i64 (q : Int), .bool true]) ∧ w = w' := by
  rw [hq.out]
  exact read_ s a ha hs _ h w
/-- what reading a set gives -/
def RetPf (w : World) (r : (Nat → Bool) × Nat × Int) (e : Ending) (w' : World) : Prop := e = .returned (.tuple #[stV r.1, .int .i64 (r.2.1 : Int), .int .i64 r.2.2]) ∧ Below w.heap.size w w'
theorem stV_no : stV (fun _ => false) = .agg #[.int .u64 0, .int .u64 0, .int .u64 0, .int .u64 0] := by unfold stV; rw [wK_no, wK_no, wK_no, wK_no]; rfl
theorem RetPf.no {w w' : World} {r : (Nat → Bool) × Nat × Int} {n : Nat} {x : Int} (h : r = (fun _ => false, n, 6)) (hx : x = (n : Int)) (hb : Below w.heap.size w w') : RetPf w r (.returned (.tuple #[.agg #[.int .u64 0, .int .u64 0, .int .u64 0, .int .u64 0], .int .i64 x, .int .i64 6])) w' := by
  subst h hx
  exact ⟨by rw [stV_no], hb⟩
theorem RetPf.yes {w w' : World} {r : (Nat → Bool) × Nat × Int} {g : Nat → Bool} {n : Nat} {x : Int} (h : r = (g, n, 0)) (hx : x = (n : Int)) (hb : Below w.heap.size w w') : RetPf w r (.returned (.tuple #[stV g, .int .i64 x, .int .i64 0])) w' := by
  subst h hx
  exact ⟨rfl, hb⟩
theorem hasP1 (c : UInt8) : ∀ l : List UInt8, Lib.hasPrefix l [c] = decide (l.head? = some c)
  | [] => by simp [Lib.hasPrefix]
  | d :: t => by
    simp [Lib.hasPrefix]
    first | done | (rw [Bool.eq_iff_iff]; simp; exact eq_comm) | (exact eq_comm)
theorem trimP1 (c : UInt8) (l : List UInt8) : Lib.trimPrefix (c :: l) [c] = l := by
  simp [Lib.trimPrefix, hasP1]
/-- one item of a set -/
theorem pxK_end (n : Nat) (at_ : Nat) (acc : Nat → Bool) : pxK n [] at_ acc = (fun _ => false, at_, 6) := by cases n <;> rfl
theorem pxK_close (n : Nat) (t : List UInt8) (at_ : Nat) (acc : Nat → Bool) : pxK (n + 1) (93 :: t) at_ acc = (acc, at_ + 1, 0) := by rw [pxK, if_pos rfl]
theorem pxK_none {c : UInt8} {t : List UInt8} {n k at_ : Nat} {acc : Nat → Bool} (h : c ≠ 93) (ho : onK (c :: t) = (none, k)) : pxK (n + 1) (c :: t) at_ acc = (fun _ => false, at_ + k, 6) := by
  rw [pxK, if_neg h, ho]
theorem pxK_single {c : UInt8} {t : List UInt8} {n k at_ : Nat} {acc : Nat → Bool} {lo : UInt8} (h : c ≠ 93) (ho : onK (c :: t) = (some lo, k)) (hd : ((c :: t).drop k).head? ≠ some 45) :
    pxK (n + 1) (c :: t) at_ acc = pxK n ((c :: t).drop k) (at_ + k) fun i => acc i || decide (lo.toNat ≤ i ∧ i ≤ lo.toNat) := by
  rw [pxK, if_neg h, ho]
  simp only
  rw [if_neg hd]
theorem pxK_none2 {c : UInt8} {t : List UInt8} {n k k2 at_ : Nat} {acc : Nat → Bool} {lo : UInt8} (h : c ≠ 93) (ho : onK (c :: t) = (some lo, k)) (hd : ((c :: t).drop k).head? = some 45) (h2 : onK ((c :: t).drop (k + 1)) = (none, k2)) :
    pxK (n + 1) (c :: t) at_ acc = (fun _ => false, at_ + k + 1 + k2, 6) := by
  rw [pxK, if_neg h, ho]
  simp only
  rw [if_pos hd, h2]
theorem pxK_pair {c : UInt8} {t : List UInt8} {n k k2 at_ : Nat} {acc : Nat → Bool} {lo hi : UInt8} (h : c ≠ 93) (ho : onK (c :: t) = (some lo, k)) (hd : ((c :: t).drop k).head? = some 45) (h2 : onK ((c :: t).drop (k + 1)) = (some hi, k2)) :
    pxK (n + 1) (c :: t) at_ acc = if hi.toNat < lo.toNat then (fun _ => false, at_ + k + 1, 6) else pxK n ((c :: t).drop (k + 1 + k2)) (at_ + k + 1 + k2) fun i => acc i || decide (lo.toNat ≤ i ∧ i ≤ hi.toNat) := by
  rw [pxK, if_neg h, ho]
  simp only
  rw [if_pos hd, h2]
/-- where the reading of a set stands -/
def PxR (L : List UInt8) (R : (Nat → Bool) × Nat × Int) (p : Nat) (acc : Nat → Bool) : Prop := ∃ n, (L.drop p).length < n ∧ pxK n (L.drop p) p acc = R
theorem rg_union (acc : Nat → Bool) (lo hi : Nat) : (fun i => acc i || rgK lo (hi + 1) i) = fun i => acc i || decide (lo ≤ i ∧ i ≤ hi) := by
  funext i
  unfold rgK
  congr 1
  rw [Bool.eq_iff_iff]
  simp only [decide_eq_true_eq]
  omega
section
variable {L : List UInt8} {R : (Nat → Bool) × Nat × Int} {p k k2 : Nat} {acc : Nat → Bool} {c lo hi : UInt8} {t : List UInt8}
theorem PxR.over (h : PxR L R p acc) (hp : L.length ≤ p) : R = (fun _ => false, p, 6) := by
  obtain ⟨n, _, e⟩ := h
  rw [List.drop_of_length_le hp, pxK_end] at e
  exact e.symm
theorem PxR.close (h : PxR L R p acc) (hd : L.drop p = 93 :: t) : R = (acc, p + 1, 0) := by
  obtain ⟨n, hn, e⟩ := h
  obtain ⟨n, rfl⟩ : ∃ n', n = n' + 1 := ⟨n - 1, by omega⟩
  rw [hd, pxK_close] at e
  exact e.symm
theorem PxR.none (h : PxR L R p acc) (hd : L.drop p = c :: t) (hc : c ≠ 93) (ho : onK (L.drop p) = (.none, k)) : R = (fun _ => false, p + k, 6) := by
  obtain ⟨n, hn, e⟩ := h
  obtain ⟨n, rfl⟩ : ∃ n', n = n' + 1 := ⟨n - 1, by omega⟩
  rw [hd] at e ho
  rw [pxK_none hc ho] at e
  exact e.symm
theorem PxR.single (h : PxR L R p acc) (hd : L.drop p = c :: t) (hc : c ≠ 93) (ho : onK (L.drop p) = (some lo, k)) (hm : (L.drop (p + k)).head? ≠ some 45) (hk : 0 < k) : PxR L R (p + k) fun i => acc i || rgK lo.toNat (lo.toNat + 1) i := by
  obtain ⟨n, hn, e⟩ := h
  obtain ⟨n, rfl⟩ : ∃ n', n = n' + 1 := ⟨n - 1, by omega⟩
  rw [← List.drop_drop, hd] at hm
  rw [hd] at e ho
  rw [pxK_single hc ho hm] at e
  refine ⟨n, ?_, ?_⟩
  · rw [← List.drop_drop, hd, List.length_drop]; rw [hd] at hn; simp only [List.length_cons] at hn ⊢; omega
  · rw [rg_union, ← List.drop_drop, hd]; exact e
theorem PxR.none2 (h : PxR L R p acc) (hd : L.drop p = c :: t) (hc : c ≠ 93) (ho : onK (L.drop p) = (some lo, k)) (hm : (L.drop (p + k)).head? = some 45) (h2 : onK (L.drop (p + k + 1)) = (.none, k2)) : R = (fun _ => false, p + k + 1 + k2, 6) := by
  obtain ⟨n, hn, e⟩ := h
  obtain ⟨n, rfl⟩ : ∃ n', n = n' + 1 := ⟨n - 1, by omega⟩
  rw [← List.drop_drop, hd] at hm
  rw [show p + k + 1 = p + (k + 1) by omega, ← List.drop_drop, hd] at h2
  rw [hd] at e ho
  rw [pxK_none2 hc ho hm h2] at e
  exact e.symm
theorem PxR.bad (h : PxR L R p acc) (hd : L.drop p = c :: t) (hc : c ≠ 93) (ho : onK (L.drop p) = (some lo, k)) (hm : (L.drop (p + k)).head? = some 45) (h2 : onK (L.drop (p + k + 1)) = (some hi, k2)) (hl : hi.toNat < lo.toNat) : R = (fun _ => false, p + k + 1, 6) := by
  obtain ⟨n, hn, e⟩ := h
  obtain ⟨n, rfl⟩ : ∃ n', n = n' + 1 := ⟨n - 1, by omega⟩
  rw [← List.drop_drop, hd] at hm
  rw [show p + k + 1 = p + (k + 1) by omega, ← List.drop_drop, hd] at h2
  rw [hd] at e ho
  rw [pxK_pair hc ho hm h2, if_pos hl] at e
  exact e.symm
theorem PxR.pair (h : PxR L R p acc) (hd : L.drop p = c :: t) (hc : c ≠ 93) (ho : onK (L.drop p) = (some lo, k)) (hm : (L.drop (p + k)).head? = some 45) (h2 : onK (L.drop (p + k + 1)) = (some hi, k2)) (hl : ¬ hi.toNat < lo.toNat) : PxR L R (p + k + 1 + k2) fun i => acc i || rgK lo.toNat (hi.toNat + 1) i := by
  obtain ⟨n, hn, e⟩ := h
  obtain ⟨n, rfl⟩ : ∃ n', n = n' + 1 := ⟨n - 1, by omega⟩
  rw [← List.drop_drop, hd] at hm
  rw [show p + k + 1 = p + (k + 1) by omega, ← List.drop_drop, hd] at h2
  rw [hd] at e ho
  rw [pxK_pair hc ho hm h2, if_neg hl] at e
  refine ⟨n, ?_, ?_⟩
  · rw [show p + k + 1 + k2 = p + (k + 1 + k2) by omega, ← List.drop_drop, hd, List.length_drop]; rw [hd] at hn; simp only [List.length_cons] at hn ⊢; omega
  · rw [rg_union, show p + k + 1 + k2 = p + (k + 1 + k2) by omega, ← List.drop_drop, hd]
    rw [show p + (k + 1 + k2) = p + k + 1 + k2 by omega]
    exact e
end
end Go.Proofs.YtcopnpllaoahaaaGreatDoor
