/- Traces: Differ, SameEvents, Ints. -/
import Derived.Test.YtpgojecldmcopaaDoorT2
namespace Go.Proofs.YtpgojecldmcopaaDoor
open Go.RowKit
@[go_sem] theorem eqgEv : Tryd.prog.eqGuardType Tryd.prog.depth 30 = false := by kernel_rfl
@[go_sem] theorem eqEv (a b c d : Int) (w : World) : (Op.equalIn 10000 30 (.agg #[.int .i32 a, .int .i32 b]) (.agg #[.int .i32 c, .int .i32 d])).run Tryd.prog w = .ok (decide (((a, b) : Ev) = (c, d))) w := by
  have u3 := Tryd.underlying21
  have hS : Tryd.prog.underlying 30 = some (.struct (Tryd.prog.fieldsOf 30)) := by kernel_rfl
  rw [show (10000 : Nat) = 9999 + 1 from rfl, run_equalIn_agg w 9999 30 _ _ hS (by kernel_rfl)]
  simp only [Program.fieldsOf, Tryd.underlying30]
  go_simp
  by_cases h1 : a = c <;> by_cases h2 : b = d <;> simp [h1, h2]
@[go_sem high] theorem neqEv (a b c d : Int) (w : World) : (binOp .neq 30 (.agg #[.int .i32 a, .int .i32 b]) (.agg #[.int .i32 c, .int .i32 d])).run Tryd.prog w = .ok (.bool (!(decide (((a, b) : Ev) = (c, d))))) w := by
  rw [run_neq_struct, eqEv]; rfl
@[go_sem high] theorem eqlEv (a b c d : Int) (w : World) : (binOp .eql 30 (.agg #[.int .i32 a, .int .i32 b]) (.agg #[.int .i32 c, .int .i32 d])).run Tryd.prog w = .ok (.bool (decide (((a, b) : Ev) = (c, d)))) w := by
  rw [run_eql_struct, eqEv]; rfl
set_option maxRecDepth 100000 in
set_option maxHeartbeats 400000 in
theorem same_any (w : World) (B B' : Nat) (A A' : Option Addr) (c c' : Nat) (l m : List Ev) (h : Reads w B 2 A l.length (evs l)) (h' : Reads w B' 2 A' m.length (evs m)) (hl : l.length ≤ 9223372036854775807) :
    Calls Tryd.prog 7 #[.slice A l.length c, .slice A' m.length c'] w fun e w' => e = .returned (.bool (decide (l = m))) ∧ Below w.heap.size w w' := by
  by_cases hlen : l.length = m.length
  · have e0 : ((l.length : Int) != (m.length : Int)) = false := by simp [hlen]
    have hm : m.length ≤ l.length := by omega
    have Hlen := Lib.hid hlen
    clear hlen
    go_enter Tryd.func7, Tryd.ntmps7
    go_wp2
    go_loopw [5] (fun i wr => ∃ k : Nat, k ≤ l.length ∧ i = .int .i64 k ∧ Below w.heap.size w wr ∧ (∀ p, wr.cell? p = w.cell? p) ∧ CmpRel l m k) (fun i _ => l.length - (intOf i).toNat)
    case atStart => exact ⟨0, Nat.zero_le _, rfl, Below.refl _ _, fun _ => rfl, rfl⟩
    case round =>
      obtain ⟨k, hk, rfl, hbl, hsame, hr⟩ := hrel
      by_cases hlt : k < l.length
      · obtain ⟨b, off, K, n, rfl, hb, d1, d2, hd⟩ := evAt h hlt
        obtain ⟨b', off', K', n', rfl, hb', d1', d2', hd'⟩ := evAt h' (by rw [← Hlen.out]; exact hlt)
        have c1 := (hsame ⟨b, off + k * 2, none⟩).trans d1
        have c1' := (hsame ⟨b', off' + k * 2, none⟩).trans d1'
        have c2 := (hsame ⟨b, off + k * 2 + 1, none⟩).trans d2
        have c2' := (hsame ⟨b', off' + k * 2 + 1, none⟩).trans d2'
        have Hs := Lib.hid hsame
        clear d1 d1' d2 d2' hsame
        have hi1 : (k : Int) < (l.length : Int) := by omega
        have hi1' : (k : Int) < (m.length : Int) := by rw [← Hlen.out]; omega
        have hi0 : (0 : Int) ≤ (k : Int) := by omega
        go_wp2
        go_quiet (fail)
        go_wp2
        all_goals first
          | (go_roundw
             case rel =>
               go_light
               exact ⟨k + 1, by omega, by go_num, Go.RowKit.Below.trans hbl (drewN_below _ _), fun p => Hs.out p, hr.step hd hd' (by first | (simp_all; done) | (simp_all [bytes_eq]; done))⟩
             case measure => simp [intOf]; omega)
          | (go_ret
             go_light
             exact ⟨ret_ne rfl (CmpRel.stop hd hd' (by intro he; first | (simp_all; done) | (simp_all [bytes_eq]; done))), Go.RowKit.Below.trans hbl (drewN_below _ _)⟩)
      · go_wp2
        go_ret
        exact ⟨ret_eq rfl (hr.done (by omega) (by rw [← Hlen.out]; omega)), hbl⟩
  · have e0 : ((l.length : Int) != (m.length : Int)) = true := by rw [bne_iff_ne]; omega
    have Hn := Lib.hid (show l ≠ m from fun e => hlen (by rw [e]))
    clear hlen
    go_enter Tryd.func7, Tryd.ntmps7
    go_wp2
    go_ret
    exact ⟨ret_ne rfl Hn.out, Below.refl _ _⟩
/-- numbers of 64 bits -/
abbrev ints (l : List Int) : List Value := l.map (Value.int .i64)
theorem intAt {w : World} {B k : Nat} {A : Option Addr} {l : List Int} (h : Reads w B 1 A l.length (ints l)) (hk : k < l.length) :
    ∃ b off n, A = some ⟨b, off, none⟩ ∧ b < B ∧ w.cell? ⟨b, off + k, none⟩ = some (.int .i64 n) ∧ Hid (l.drop k = n :: l.drop (k + 1)) := by
  obtain ⟨b, off, e, hb, hc⟩ := h.2 (by omega)
  exact ⟨b, off, _, e, hb, hc k _ (by rw [List.getElem?_map, List.getElem?_eq_getElem hk]; rfl), List.drop_eq_getElem_cons hk⟩
set_option maxRecDepth 100000 in
set_option maxHeartbeats 400000 in
theorem ints_same (w : World) (B B' : Nat) (A A' : Option Addr) (c c' : Nat) (l m : List Int) (h : Reads w B 1 A l.length (ints l)) (h' : Reads w B' 1 A' m.length (ints m)) (hl : l.length ≤ 9223372036854775807) :
    Calls Tryd.prog 13 #[.slice A l.length c, .slice A' m.length c'] w fun e w' => e = .returned (.bool (decide (l = m))) ∧ Below w.heap.size w w' := by
  by_cases hlen : l.length = m.length
  · have e0 : ((l.length : Int) != (m.length : Int)) = false := by simp [hlen]
    have hm : m.length ≤ l.length := by omega
    have Hlen := Lib.hid hlen
    clear hlen
    go_enter Tryd.func13, Tryd.ntmps13
    go_wp2
    go_loopw [5] (fun i wr => ∃ k : Nat, k ≤ l.length ∧ i = .int .i64 k ∧ Below w.heap.size w wr ∧ (∀ p, wr.cell? p = w.cell? p) ∧ CmpRel l m k) (fun i _ => l.length - (intOf i).toNat)
    case atStart => exact ⟨0, Nat.zero_le _, rfl, Below.refl _ _, fun _ => rfl, rfl⟩
    case round =>
      obtain ⟨k, hk, rfl, hbl, hsame, hr⟩ := hrel
      by_cases hlt : k < l.length
      · obtain ⟨b, off, K, rfl, hb, d1, hd⟩ := intAt h hlt
        obtain ⟨b', off', K', rfl, hb', d1', hd'⟩ := intAt h' (by rw [← Hlen.out]; exact hlt)
        have c1 := (hsame ⟨b, off + k, none⟩).trans d1
        have c1' := (hsame ⟨b', off' + k, none⟩).trans d1'
        have Hs := Lib.hid hsame
        clear d1 d1' hsame
        have hi1 : (k : Int) < (l.length : Int) := by omega
        have hi1' : (k : Int) < (m.length : Int) := by rw [← Hlen.out]; omega
        have hi0 : (0 : Int) ≤ (k : Int) := by omega
        go_wp2
        go_quiet (fail)
        go_wp2
        all_goals first
          | (go_roundw
             case rel =>
               go_light
               exact ⟨k + 1, by omega, by go_num, Go.RowKit.Below.trans hbl (drewN_below _ _), fun p => Hs.out p, hr.step hd hd' (by first | (simp_all; done) | (simp_all [bytes_eq]; done))⟩
             case measure => simp [intOf]; omega)
          | (go_ret
             go_light
             exact ⟨ret_ne rfl (CmpRel.stop hd hd' (by intro he; first | (simp_all; done) | (simp_all [bytes_eq]; done))), Go.RowKit.Below.trans hbl (drewN_below _ _)⟩)
      · go_wp2
        go_ret
        exact ⟨ret_eq rfl (hr.done (by omega) (by rw [← Hlen.out]; omega)), hbl⟩
  · have e0 : ((l.length : Int) != (m.length : Int)) = true := by rw [bne_iff_ne]; omega
    have Hn := Lib.hid (show l ≠ m from fun e => hlen (by rw [e]))
    clear hlen
    go_enter Tryd.func13, Tryd.ntmps13
    go_wp2
    go_ret
    exact ⟨ret_ne rfl Hn.out, Below.refl _ _⟩
end Go.Proofs.YtpgojecldmcopaaDoor
