/- Places, of the program. -/
import Derived.Test.YtmpdgckccgbdnaaDoorC9
namespace Go.Proofs.YtmpdgckccgbdnaaDoor
open Go.RowKit
/-- regions that lie one behind the other from a on -/
def Cont : Int → List Rg → Prop
  | _, [] => True
  | a, x :: r => x.2.1 = a ∧ 1 ≤ x.2.2 ∧ Cont (a + x.2.2) r
theorem Cont.ge {l : List Rg} {a : Int} (h : Cont a l) : ∀ x ∈ l, a ≤ x.2.1 := by
  induction l generalizing a with
  | nil => intro x hx; cases hx
  | cons y r ih =>
    obtain ⟨h1, h2, h3⟩ := h
    intro x hx
    rcases List.mem_cons.1 hx with rfl | hx
    · omega
    · have := ih h3 x hx; omega
theorem Cont.none {l : List Rg} {a at_ : Int} (h : Cont a l) (ha : at_ < a) : l.find? (holdsAt at_) = none := by
  rw [List.find?_eq_none]
  intro x hx
  have := h.ge x hx
  simp [holdsAt]; omega
theorem Cont.place {l : List Rg} {a : Int} (h : Cont a l) (at_ : Int) :
    ∃ cnt, cnt ≤ l.length ∧ (∀ (k : Nat) (x : Rg), l[k]? = some x → (at_ < x.2.1 ↔ cnt ≤ k)) ∧ (cnt = 0 → l.find? (holdsAt at_) = Option.none ∧ (l = [] ∨ at_ < a)) ∧
      (∀ (m : Nat) (x : Rg), cnt = m + 1 → l[m]? = some x → a ≤ at_ ∧ (at_ < x.2.1 + x.2.2 → l.find? (holdsAt at_) = some x) ∧ (x.2.1 + x.2.2 ≤ at_ → l.find? (holdsAt at_) = Option.none)) := by
  induction l generalizing a with
  | nil => exact ⟨0, by simp, fun k x hx => by simp at hx, fun _ => ⟨rfl, .inl rfl⟩, fun m x hm => by omega⟩
  | cons y r ih =>
    have h' := h
    obtain ⟨h1, h2, h3⟩ := h
    by_cases ha : at_ < a
    · refine ⟨0, by simp, fun k x hx => ⟨fun _ => Nat.zero_le _, fun _ => ?_⟩, fun _ => ⟨h'.none ha, .inr ha⟩, fun m x hm => by omega⟩
      have := h'.ge x (List.mem_of_getElem? hx); omega
    · obtain ⟨cnt, k1, k2, k3, k4⟩ := ih h3
      refine ⟨cnt + 1, by simpa using k1, fun k x hx => ?_, fun h0 => by omega, fun m x hm hx => ?_⟩
      · cases k with
        | zero => simp at hx; subst hx; constructor <;> intro _ <;> omega
        | succ k => rw [List.getElem?_cons_succ] at hx; rw [k2 k x hx]; omega
      · refine ⟨by omega, ?_⟩
        cases m with
        | zero =>
          simp at hx
          subst hx
          have hc : cnt = 0 := by omega
          obtain ⟨q1, q2⟩ := k3 hc
          constructor
          · intro hl; rw [List.find?_cons_of_pos (by simp [holdsAt]; omega)]
          · intro hl; rw [List.find?_cons_of_neg (by simp [holdsAt]; omega)]; exact q1
        | succ m =>
          rw [List.getElem?_cons_succ] at hx
          obtain ⟨q0, q1, q2⟩ := k4 m x (by omega) hx
          rw [List.find?_cons_of_neg (by simp [holdsAt]; omega)]
          exact ⟨q1, q2⟩
theorem lay_cont (s r n : Int) (hs : 1 ≤ s) (hr : 1 ≤ r) (hrs : 1 ≤ r * s) (hn : 1 ≤ n) : Cont 0 (lay s r n) := by
  unfold lay
  simp only [Cont, and_true]
  repeat' apply And.intro
  all_goals first | trivial | omega
set_option maxRecDepth 100000 in
set_option maxHeartbeats 1000000 in
theorem cwhere1 (w : World) (p q : Nat) (A : Option Addr) (c : Nat) (L : List Rg) (at_ : Int) (k : Nat) (x : Rg) (hx : L[k]? = some x) (hp : w.cell? ⟨p, 0, none⟩ = some (.slice A L.length c)) (hq : w.cell? ⟨q, 0, none⟩ = some (.int .i64 at_))
    (hr : Reads w w.heap.size 3 A L.length (rgs L)) (_hlen : L.length ≤ 9) :
    Calls Tryd.prog 34 #[.int .i64 k, .pointer (some ⟨p, 0, none⟩), .pointer (some ⟨q, 0, none⟩)] w fun e w' => e = .returned (.bool (decide (at_ < x.2.1))) ∧ ∃ n, w' = w.drewN n := by
  have hk : k < L.length := by
    rcases Nat.lt_or_ge k L.length with h | h
    · exact h
    · rw [List.getElem?_eq_none h] at hx; cases hx
  obtain ⟨b', off, nm', B, S, rfl, hb', d1, d2, d3, hd⟩ := rgAt hr hk
  have hx' : x = (nm', B, S) := by
    have := List.drop_eq_getElem_cons hk
    rw [hd.out] at this
    injection this with h1 _
    rw [List.getElem?_eq_getElem hk] at hx
    injection hx with hx
    rw [← hx, ← h1]
  subst hx'
  clear hd hx
  have hi0 : (0 : Int) ≤ (k : Int) := by omega
  have hi1 : (k : Int) < (L.length : Int) := by omega
  go_enter Tryd.func34, Tryd.ntmps34
  go_wp2
  go_quiet (fail)
  go_wp2
  go_ret
  exact ⟨rfl, _, rfl⟩
set_option maxRecDepth 100000 in
set_option maxHeartbeats 1000000 in
theorem csearch (w : World) (p q : Nat) (A : Option Addr) (c : Nat) (L : List Rg) (at_ : Int) (cnt : Nat) (hcnt : cnt ≤ L.length) (hx : ∀ (k : Nat) (x : Rg), L[k]? = some x → (at_ < x.2.1 ↔ cnt ≤ k)) (hp : w.cell? ⟨p, 0, none⟩ = some (.slice A L.length c)) (hq : w.cell? ⟨q, 0, none⟩ = some (.int .i64 at_))
    (hr : Reads w w.heap.size 3 A L.length (rgs L)) (hlen : L.length ≤ 9) :
    Calls Tryd.prog 33 #[.int .i64 (L.length : Int), .func (Fn.func 34) #[] #[.pointer (some ⟨p, 0, none⟩), .pointer (some ⟨q, 0, none⟩)]] w fun e w' => e = .returned (.int .i64 (cnt : Int)) ∧ ∃ n, w' = w.drewN n := by
  have HX := Lib.hid hx
  clear hx
  go_enter Tryd.func33, Tryd.ntmps33
  go_wp2
  go_loopw [5, 6] (fun i j wr => ∃ (a b n : Nat), a ≤ cnt ∧ cnt ≤ b ∧ b ≤ L.length ∧ i = .int .i64 (a : Int) ∧ j = .int .i64 (b : Int) ∧ wr = w.drewN n) (fun i j _ => (intOf j).toNat - (intOf i).toNat)
  case atStart => exact ⟨0, L.length, 0, Nat.zero_le _, hcnt, Nat.le_refl _, rfl, rfl, rfl⟩
  case round =>
    obtain ⟨a, b, n, ha, hb, hbl, rfl, rfl, rfl⟩ := hrel
    by_cases hlt : a < b
    · have hm : ∃ m : Nat, m = (a + b) / 2 := ⟨_, rfl⟩
      go_wp2_with fail
      rw [show ((a : Int) + (b : Int)) / 2 = (((a + b) / 2 : Nat) : Int) by omega]
      clear hm
      obtain ⟨m, hm⟩ : ∃ m : Nat, m = (a + b) / 2 := ⟨_, rfl⟩
      have hm1 : a ≤ m := by omega
      have hm2 : m < b := by omega
      rw [← hm]
      clear hm
      have hml : m < L.length := by omega
      have hp' : (w.drewN n).cell? ⟨p, 0, none⟩ = some (.slice A L.length c) := hp
      have hq' : (w.drewN n).cell? ⟨q, 0, none⟩ = some (.int .i64 at_) := hq
      have hr' : Reads (w.drewN n) (w.drewN n).heap.size 3 A L.length (rgs L) := hr.drewN n
      have HM := Lib.hid (HX.out m L[m] (List.getElem?_eq_getElem hml))
      (with_reducible refine (cwhere1 (w.drewN n) p q A c L at_ m L[m] (List.getElem?_eq_getElem hml) hp' hq' hr' hlen).mono ?_); rintro e w' ⟨rfl, n', rfl⟩
      by_cases hc : cnt ≤ m
      · have hd : decide (at_ < (L[m]).2.1) = true := by simpa using HM.out.2 hc
        rw [hd]
        clear hd HM
        go_wp2
        go_roundw
        case rel => exact ⟨a, m, n + n', ha, hc, by omega, rfl, rfl, rfl⟩
        case measure => simp [intOf]; omega
      · have hd : decide (at_ < (L[m]).2.1) = false := by simpa using fun h => hc (HM.out.1 h)
        rw [hd]
        clear hd HM
        go_wp2
        go_roundw
        case rel => exact ⟨m + 1, b, n + n', by omega, hb, hbl, by go_num, rfl, rfl⟩
        case measure => simp [intOf]; omega
    · obtain rfl : a = cnt := by omega
      obtain rfl : b = a := by omega
      go_wp2
      go_ret
      exact ⟨rfl, _, rfl⟩
set_option maxRecDepth 100000 in
set_option maxHeartbeats 2000000 in
theorem cwhere (b k l s r at_ : Int) (h64 : -9223372036854775808 ≤ at_ ∧ at_ ≤ 9223372036854775807) (w : World) :
    Calls Tryd.prog 18 #[cfV b k l, csV s r, .int .i64 at_] w fun e w' => e = .returned (whrV b k l s r at_) ∧ Below w.heap.size w w' := by
  obtain ⟨h641, h642⟩ := h64
  by_cases h : Ok2 b k l s r
  · have Hk := Lib.hid h
    have hlen := lay_len s r (k + b * r)
    have hbd := layL_bd b k l s r
    rw [layL_yes h] at hbd
    obtain ⟨cnt, hcnt, hx, h0, h1⟩ := (lay_cont s r (k + b * r) h.s.1 h.s.2.2.1 (by obtain ⟨_, hs1, hs2, hr1, hr2⟩ := h; rcases (show s = 1 ∨ s = 2 ∨ s = 3 ∨ s = 4 by omega) with rfl | rfl | rfl | rfl <;> omega) (by obtain ⟨⟨hb, hk1, _⟩, _, _, hr1, _⟩ := h; rcases hb with rfl | rfl | rfl | rfl | rfl <;> omega)).place at_
    generalize hL : lay s r (k + b * r) = L at *
    have HL := Lib.hid hL
    clear h hL
    rw [hlen] at hcnt
    have Hlen := Lib.hid hlen
    have HB := Lib.hid hbd
    have HX := Lib.hid hx
    have H0 := Lib.hid h0
    have H1 := Lib.hid h1
    clear hlen hbd hx h0 h1
    go_enter Tryd.func18, Tryd.ntmps18
    go_wp2_with fail
    (with_reducible refine (layout_yes b k l s r Hk.out _).mono ?_); rintro e w1 ⟨A, c, rfl, hb1, hr1, _, _⟩
    rw [HL.out] at hr1
    have hF : Fr w [(w.heap.size + 1 + 1, .cells #[.int .i64 at_] 3 (0, 0))] w1 := ((frBox3 w b k l s r (.cells #[.int .i64 at_] 3 (0, 0))).go hb1).sub (by simp)
    have hq := hF.at (g := w.heap.size + 1 + 1) List.mem_cons_self
    have hlt := heap_lt hq
    have q0 : w1.cell? ⟨w.heap.size + 1 + 1, 0, none⟩ = some (.int .i64 at_) := Lib.cell_of_heap hq 0
    have hB := ba hF.bel (.cells #[.slice A 9 c] 26 (0, 0))
    have hr2 := hr1.al (.cells #[.slice A 9 c] 26 (0, 0))
    have p0 : (w1.alloc (.cells #[.slice A 9 c] 26 (0, 0))).cell? ⟨w1.heap.size, 0, none⟩ = some (.slice A 9 c) := Lib.cell_of_heap (alloc1_new _ _) 0
    have q1 : (w1.alloc (.cells #[.slice A 9 c] 26 (0, 0))).cell? ⟨w.heap.size + 1 + 1, 0, none⟩ = some (.int .i64 at_) := Lib.cell_of_heap (alloc_blk hq) 0
    clear hb1 hF hq
    go_wp2_with fail
    generalize hw : w1.alloc (.cells #[.slice A 9 c] 26 (0, 0)) = w2 at *
    generalize w1.heap.size = p at *
    clear hw hr1 q0 hlt
    have hs := csearch w2 p (w.heap.size + 1 + 1) A c L at_ cnt (by rw [Hlen.out]; exact hcnt) HX.out (by rw [Hlen.out]; exact p0) q1 (by rw [Hlen.out]; exact hr2) (by rw [Hlen.out]; omega)
    rw [Hlen.out, show ((9 : Nat) : Int) = 9 from rfl] at hs
    (with_reducible refine hs.mono ?_); rintro e w3 ⟨rfl, n1, rfl⟩
    clear hs
    by_cases hc : cnt = 0
    · subst hc
      obtain ⟨hn, _⟩ := H0.out rfl
      have Hx := Lib.hid (whr_none Hk.out (HL.out ▸ hn))
      clear hn
      go_wp2
      go_quiet (fail)
      go_wp2
      go_ret3
      exact ⟨ret_of Hx.out.symm, (hB.trans (drewN_below _ _)).trans (drewN_below _ _)⟩
    · obtain ⟨m, rfl⟩ : ∃ m, cnt = m + 1 := ⟨cnt - 1, by omega⟩
      have hml : m < L.length := by rw [Hlen.out]; omega
      obtain ⟨b', off, nm', B, S, rfl, hb', d1, d2, d3, hd⟩ := rgAt (by rw [Hlen.out]; exact hr2) hml
      obtain ⟨x1, x2, x3, x4⟩ := HB.out.2 _ (mem_drop hd)
      simp only at x1 x2 x3 x4
      have hLm : L[m]? = some (nm', B, S) := by
        have := List.drop_eq_getElem_cons hml
        rw [hd.out] at this
        injection this with h1 _
        rw [List.getElem?_eq_getElem hml, h1]
      obtain ⟨y0, y1, y2⟩ := H1.out m (nm', B, S) rfl hLm
      have y3 := HX.out m (nm', B, S) hLm
      simp only at y1 y2 y3
      have hge : B ≤ at_ := by
        rcases Int.lt_or_le at_ B with hh | hh
        · have := y3.1 hh; omega
        · exact hh
      clear y3 hLm hd hml hb' hc
      have hs1 : IntKind.i64.wrap (((m + 1 : Nat) : Int) - 1) = (m : Int) := by rw [IntWalk.i64_in _ (by omega)]; omega
      have hm0 : decide ((m : Int) < 0) = false := by simp
      have hi0 : (0 : Int) ≤ (m : Int) := by omega
      have hi1 : (m : Int) < 9 := by omega
      have hs2 : IntKind.i64.wrap (at_ - B) = at_ - B := IntWalk.i64_in _ (by omega)
      have hmt : (m : Int).toNat = m := by omega
      by_cases hin : at_ < B + S
      · have Hx := Lib.hid (whr_some Hk.out (HL.out ▸ y1 hin))
        have h2 : decide (S ≤ at_ - B) = false := by simp; omega
        clear y1 y2 hge hin
        go_wp2_with fail
        go_quiet (fail)
        go_wp2_with fail
        go_quiet (fail)
        go_wp2
        go_ret3
        exact ⟨ret_of Hx.out.symm, ((hB.trans (drewN_below _ _)).trans (drewN_below _ _)).trans (drewN_below _ _)⟩
      · have Hx := Lib.hid (whr_none Hk.out (HL.out ▸ y2 (by omega)))
        have h2 : decide (S ≤ at_ - B) = true := by simp; omega
        clear y1 y2 hge hin
        go_wp2_with fail
        go_quiet (fail)
        go_wp2
        go_ret3
        exact ⟨ret_of Hx.out.symm, (hB.trans (drewN_below _ _)).trans (drewN_below _ _)⟩
  · have Hk := Lib.hid h
    have Hx := Lib.hid (whr_no (at_ := at_) h)
    clear h
    go_enter Tryd.func18, Tryd.ntmps18
    go_wp2_with fail
    (with_reducible refine (layout_no b k l s r Hk.out _).mono ?_); rintro e w1 ⟨A, c, rfl, hb1, hr1, _, _⟩
    have hB := ((frBox3 w b k l s r (.cells #[.int .i64 at_] 3 (0, 0))).go hb1).bel
    clear hb1
    go_wp2
    go_ret3
    exact ⟨ret_of Hx.out.symm, ba hB _⟩
end Go.Proofs.YtmpdgckccgbdnaaDoor
