/- Regions compared; the cells that both layouts need; the search of the reference. -/
import Derived.Test.YtmpdgckccgbdnaaDoorC5
import Derived.Test.YtmpdgckccgbdnaaDoorCmp
namespace Go.Proofs.YtmpdgckccgbdnaaDoor
open Go.RowKit
@[go_sem] theorem eqgRg : Tryd.prog.eqGuardType Tryd.prog.depth 38 = false := by kernel_rfl
@[go_sem] theorem eqRg (a c : ByteArray) (b d z f : Int) (w : World) : (Op.equalIn 10000 38 (.agg #[.string a, .int .i64 b, .int .i64 z]) (.agg #[.string c, .int .i64 d, .int .i64 f])).run Tryd.prog w = .ok (decide (((a, b, z) : Rg) = (c, d, f))) w := by
  have u3 := Tryd.underlying3
  have hS : Tryd.prog.underlying 38 = some (.struct (Tryd.prog.fieldsOf 38)) := by kernel_rfl
  rw [show (10000 : Nat) = 9999 + 1 from rfl, run_equalIn_agg w 9999 38 _ _ hS (by kernel_rfl)]
  simp only [Program.fieldsOf, Tryd.underlying38]
  go_simp
  have e := bytes_eq a c
  by_cases h1 : a = c <;> by_cases h2 : b = d <;> by_cases h3 : z = f <;> simp [h1, h2, h3, e]
@[go_sem high] theorem neqRg (a c : ByteArray) (b d e f : Int) (w : World) : (binOp .neq 38 (.agg #[.string a, .int .i64 b, .int .i64 e]) (.agg #[.string c, .int .i64 d, .int .i64 f])).run Tryd.prog w = .ok (.bool (!(decide (((a, b, e) : Rg) = (c, d, f))))) w := by
  rw [run_neq_struct, eqRg]; rfl
@[go_sem high] theorem eqlRg (a c : ByteArray) (b d e f : Int) (w : World) : (binOp .eql 38 (.agg #[.string a, .int .i64 b, .int .i64 e]) (.agg #[.string c, .int .i64 d, .int .i64 f])).run Tryd.prog w = .ok (.bool (decide (((a, b, e) : Rg) = (c, d, f)))) w := by
  rw [run_eql_struct, eqRg]; rfl
theorem rgAt {w : World} {B k : Nat} {A : Option Addr} {l : List Rg} (h : Reads w B 3 A l.length (rgs l)) (hk : k < l.length) :
    ∃ b off s B' S, A = some ⟨b, off, none⟩ ∧ b < B ∧ w.cell? ⟨b, off + k * 3, none⟩ = some (.string s) ∧ w.cell? ⟨b, off + k * 3 + 1, none⟩ = some (.int .i64 B') ∧ w.cell? ⟨b, off + k * 3 + 2, none⟩ = some (.int .i64 S) ∧
      Hid (l.drop k = (s, B', S) :: l.drop (k + 1)) := by
  obtain ⟨b, off, e, hb, c1, c2, c3⟩ := h.at3 rfl hk
  exact ⟨b, off, _, _, _, e, hb, c1, c2, c3, List.drop_eq_getElem_cons hk⟩
set_option maxRecDepth 100000 in
set_option maxHeartbeats 400000 in
theorem sameRegions_any (w : World) (B B' : Nat) (A A' : Option Addr) (c c' : Nat) (l m : List Rg) (h : Reads w B 3 A l.length (rgs l)) (h' : Reads w B' 3 A' m.length (rgs m)) (hl : l.length ≤ 9223372036854775807) :
    Calls Tryd.prog 10 #[.slice A l.length c, .slice A' m.length c'] w fun e w' => e = .returned (.bool (decide (l = m))) ∧ Below w.heap.size w w' := by
  by_cases hlen : l.length = m.length
  · have e0 : ((l.length : Int) != (m.length : Int)) = false := by simp [hlen]
    have hm : m.length ≤ l.length := by omega
    have Hlen := Lib.hid hlen
    clear hlen
    go_enter Tryd.func10, Tryd.ntmps10
    go_wp2
    go_loopw [5] (fun i wr => ∃ k : Nat, k ≤ l.length ∧ i = .int .i64 k ∧ Below w.heap.size w wr ∧ (∀ p, wr.cell? p = w.cell? p) ∧ CmpRel l m k) (fun i _ => l.length - (intOf i).toNat)
    case atStart => exact ⟨0, Nat.zero_le _, rfl, Below.refl _ _, fun _ => rfl, rfl⟩
    case round =>
      obtain ⟨k, hk, rfl, hbl, hsame, hr⟩ := hrel
      by_cases hlt : k < l.length
      · obtain ⟨b, off, K, n, q, rfl, hb, d1, d2, d3, hd⟩ := rgAt h hlt
        obtain ⟨b', off', K', n', q', rfl, hb', d1', d2', d3', hd'⟩ := rgAt h' (by rw [← Hlen.out]; exact hlt)
        have c1 := (hsame ⟨b, off + k * 3, none⟩).trans d1
        have c1' := (hsame ⟨b', off' + k * 3, none⟩).trans d1'
        have c2 := (hsame ⟨b, off + k * 3 + 1, none⟩).trans d2
        have c2' := (hsame ⟨b', off' + k * 3 + 1, none⟩).trans d2'
        have c3 := (hsame ⟨b, off + k * 3 + 2, none⟩).trans d3
        have c3' := (hsame ⟨b', off' + k * 3 + 2, none⟩).trans d3'
        have Hs := Lib.hid hsame
        clear d1 d1' d2 d2' d3 d3' hsame
        have hi1 : (k : Int) < (l.length : Int) := by omega
        have hi1' : (k : Int) < (m.length : Int) := by rw [← Hlen.out]; omega
        have hi0 : (0 : Int) ≤ (k : Int) := by omega
        go_wp2
        go_quiet (fail)
        go_wp2
        all_goals first
          | (go_roundw
             case rel =>
               go_light
               exact ⟨k + 1, by omega, by go_num, Go.RowKit.Below.trans hbl (drewN_below _ _), fun p => Hs.out p, hr.step hd hd' (by first | (simp_all; done) | (simp_all [bytes_eq]; done))⟩
             case measure => simp [intOf]; omega)
          | (go_ret
             go_light
             exact ⟨ret_ne rfl (CmpRel.stop hd hd' (by intro he; first | (simp_all; done) | (simp_all [bytes_eq]; done))), Go.RowKit.Below.trans hbl (drewN_below _ _)⟩)
      · go_wp2
        go_ret
        exact ⟨ret_eq rfl (hr.done (by omega) (by rw [← Hlen.out]; omega)), hbl⟩
  · have e0 : ((l.length : Int) != (m.length : Int)) = true := by rw [bne_iff_ne]; omega
    have Hn := Lib.hid (show l ≠ m from fun e => hlen (by rw [e]))
    clear hlen
    go_enter Tryd.func10, Tryd.ntmps10
    go_wp2
    go_ret
    exact ⟨ret_ne rfl Hn.out, Below.refl _ _⟩
instance (b k l s r : Int) : Decidable (Ok2 b k l s r) := decidable_of_iff (OkC b k l ∧ OkS s r) ⟨fun h => ⟨h.1, h.2⟩, fun h => ⟨h.c, h.s⟩⟩
/-- the regions where there are any -/
def layL (b k l s r : Int) : List Rg := if Ok2 b k l s r then lay s r (k + b * r) else []
theorem layL_yes {b k l s r : Int} (h : Ok2 b k l s r) : layL b k l s r = lay s r (k + b * r) := if_pos h
theorem layL_no {b k l s r : Int} (h : ¬ Ok2 b k l s r) : layL b k l s r = [] := if_neg h
theorem layout_any (b k l s r : Int) (w : World) : Calls Tryd.prog 4 #[cfV b k l, csV s r] w (RetSl w 3 (rgs (layL b k l s r)) (layL b k l s r).length (err2 b k l s r)) := by
  by_cases h : Ok2 b k l s r
  · rw [layL_yes h, err2_yes h]; exact layout_yes b k l s r h w
  · rw [layL_no h, err2_no h]; exact layout_no b k l s r h w
end Go.Proofs.YtmpdgckccgbdnaaDoor
