/- Traces: Differ of the program and of its reference. -/
import Derived.Test.YtpgojecldmcopaaDoorT3
namespace Go.Proofs.YtpgojecldmcopaaDoor
open Go.RowKit
set_option maxRecDepth 100000 in
set_option maxHeartbeats 1000000 in
theorem differ_ (w : World) (B B' : Nat) (A A' : Option Addr) (c c' : Nat) (l m : List Ev) (h : Reads w B 2 A l.length (evs l)) (h' : Reads w B' 2 A' m.length (evs m)) (hl : l.length ≤ 9223372036854775807) (hm : m.length ≤ 9223372036854775807) :
    Calls Tryd.prog 6 #[.slice A l.length c, .slice A' m.length c'] w fun e w' => e = .returned (.int .i64 (dif l m)) ∧ Below w.heap.size w w' := by
  by_cases hq : m.length < l.length
  · have hn1 : m.length ≤ l.length := by omega
    have hn2 : m.length ≤ m.length := by omega
    go_enter Tryd.func6, Tryd.ntmps6
    go_wp2
    go_loopw [13] (fun i wr => ∃ k : Nat, k ≤ m.length ∧ i = .int .i64 k ∧ Below w.heap.size w wr ∧ (∀ p, wr.cell? p = w.cell? p) ∧ DifRel l m k) (fun i _ => m.length - (intOf i).toNat)
    case atStart => exact ⟨0, Nat.zero_le _, rfl, Below.refl _ _, fun _ => rfl, DifRel.start l m⟩
    case round =>
      obtain ⟨k, hk, rfl, hbl, hsame, hr⟩ := hrel
      by_cases hlt : k < m.length
      · obtain ⟨b, off, K, a, rfl, hb, d1, d2, hd⟩ := evAt h (show k < l.length by omega)
        obtain ⟨b', off', K', a', rfl, hb', d1', d2', hd'⟩ := evAt h' (show k < m.length by omega)
        have c1 := (hsame ⟨b, off + k * 2, none⟩).trans d1
        have c1' := (hsame ⟨b', off' + k * 2, none⟩).trans d1'
        have c2 := (hsame ⟨b, off + k * 2 + 1, none⟩).trans d2
        have c2' := (hsame ⟨b', off' + k * 2 + 1, none⟩).trans d2'
        have Hs := Lib.hid hsame
        clear d1 d1' d2 d2' hsame
        have hi1 : (k : Int) < (l.length : Int) := by omega
        have hi1' : (k : Int) < (m.length : Int) := by omega
        have hi0 : (0 : Int) ≤ (k : Int) := by omega
        go_wp2
        go_quiet (fail)
        go_wp2
        all_goals first
          | (go_roundw
             case rel =>
               go_light
               exact ⟨k + 1, by omega, by go_num, Go.RowKit.Below.trans hbl (drewN_below _ _), fun p => Hs.out p, hr.step hd hd' (by simp_all)⟩
             case measure => simp [intOf]; omega)
          | (go_ret
             go_light
             exact ⟨ret_int (hr.stop hd hd' (by intro he; simp_all)).symm, Go.RowKit.Below.trans hbl (drewN_below _ _)⟩)
      · obtain rfl : k = m.length := by omega
        by_cases hs : l.length = m.length
        · have HS := Lib.hid (hr.same (by omega) (by omega))
          have e1 : ((l.length : Int) == (m.length : Int)) = true := by simp [hs]
          clear hr hsame
          go_wp2
          go_ret
          exact ⟨by rw [HS.out]; rfl, hbl⟩
        · have HS : Hid (dif l m = ((m.length : Nat) : Int)) := Lib.hid (hr.right (by omega) (by omega))
          have e1 : ((l.length : Int) == (m.length : Int)) = false := by simp; omega
          clear hr hsame
          go_wp2
          go_ret
          exact ⟨by rw [HS.out]; rfl, hbl⟩
  · have hn1 : l.length ≤ l.length := by omega
    have hn2 : l.length ≤ m.length := by omega
    go_enter Tryd.func6, Tryd.ntmps6
    go_wp2
    go_loopw [13] (fun i wr => ∃ k : Nat, k ≤ l.length ∧ i = .int .i64 k ∧ Below w.heap.size w wr ∧ (∀ p, wr.cell? p = w.cell? p) ∧ DifRel l m k) (fun i _ => l.length - (intOf i).toNat)
    case atStart => exact ⟨0, Nat.zero_le _, rfl, Below.refl _ _, fun _ => rfl, DifRel.start l m⟩
    case round =>
      obtain ⟨k, hk, rfl, hbl, hsame, hr⟩ := hrel
      by_cases hlt : k < l.length
      · obtain ⟨b, off, K, a, rfl, hb, d1, d2, hd⟩ := evAt h (show k < l.length by omega)
        obtain ⟨b', off', K', a', rfl, hb', d1', d2', hd'⟩ := evAt h' (show k < m.length by omega)
        have c1 := (hsame ⟨b, off + k * 2, none⟩).trans d1
        have c1' := (hsame ⟨b', off' + k * 2, none⟩).trans d1'
        have c2 := (hsame ⟨b, off + k * 2 + 1, none⟩).trans d2
        have c2' := (hsame ⟨b', off' + k * 2 + 1, none⟩).trans d2'
        have Hs := Lib.hid hsame
        clear d1 d1' d2 d2' hsame
        have hi1 : (k : Int) < (l.length : Int) := by omega
        have hi1' : (k : Int) < (m.length : Int) := by omega
        have hi0 : (0 : Int) ≤ (k : Int) := by omega
        go_wp2
        go_quiet (fail)
        go_wp2
        all_goals first
          | (go_roundw
             case rel =>
               go_light
               exact ⟨k + 1, by omega, by go_num, Go.RowKit.Below.trans hbl (drewN_below _ _), fun p => Hs.out p, hr.step hd hd' (by simp_all)⟩
             case measure => simp [intOf]; omega)
          | (go_ret
             go_light
             exact ⟨ret_int (hr.stop hd hd' (by intro he; simp_all)).symm, Go.RowKit.Below.trans hbl (drewN_below _ _)⟩)
      · obtain rfl : k = l.length := by omega
        by_cases hs : l.length = m.length
        · have HS := Lib.hid (hr.same (by omega) (by omega))
          have e1 : ((l.length : Int) == (m.length : Int)) = true := by simp [hs]
          clear hr hsame
          go_wp2
          go_ret
          exact ⟨by rw [HS.out]; rfl, hbl⟩
        · have HS : Hid (dif l m = ((l.length : Nat) : Int)) := Lib.hid (hr.left (by omega) (by omega))
          have e1 : ((l.length : Int) == (m.length : Int)) = false := by simp; omega
          clear hr hsame
          go_wp2
          go_ret
          exact ⟨by rw [HS.out]; rfl, hbl⟩
end Go.Proofs.YtpgojecldmcopaaDoor
