/- words: the reference's Same. No condition. -/
import Derived.Test.YtngbgchnbcfliaaGreatDoorN3
import Derived.Test.YtngbgchnbcfliaaGreatDoorCmp
import Derived.BigQuiet
namespace Go.Proofs.YtngbgchnbcfliaaGreatDoor
open Go.RowKit
@[go_sem] theorem eqgFd : Tryz.prog.eqGuardType Tryz.prog.depth 47 = false := by kernel_rfl
@[go_sem] theorem eqFd (a c : ByteArray) (b d : Bool) (w : World) : (Op.equalIn 10000 47 (.agg #[.string a, .bool b]) (.agg #[.string c, .bool d])).run Tryz.prog w = .ok (decide ((a, b) = (c, d))) w := by
  have u3 := Tryz.underlying4
  have hS : Tryz.prog.underlying 47 = some (.struct (Tryz.prog.fieldsOf 47)) := by kernel_rfl
  rw [show (10000 : Nat) = 9999 + 1 from rfl, run_equalIn_agg w 9999 47 _ _ hS (by kernel_rfl)]
  simp only [Program.fieldsOf, Tryz.underlying47]
  go_simp
  have e := bytes_eq a c
  by_cases h1 : a = c <;> by_cases h2 : b = d <;> simp [h1, h2, e]
@[go_sem high] theorem neqFd (a c : ByteArray) (b d : Bool) (w : World) : (binOp .neq 47 (.agg #[.string a, .bool b]) (.agg #[.string c, .bool d])).run Tryz.prog w = .ok (.bool (!(decide ((a, b) = (c, d))))) w := by
  rw [run_neq_struct, eqFd]; rfl
theorem fdAt {w : World} {B k : Nat} {A : Option Addr} {l : List Fd} (h : Reads w B 2 A l.length (fds l)) (hk : k < l.length) :
    ∃ b off F q, A = some ⟨b, off, none⟩ ∧ b < B ∧ w.cell? ⟨b, off + k * 2, none⟩ = some (.string F) ∧ w.cell? ⟨b, off + k * 2 + 1, none⟩ = some (.bool q) ∧ Hid (l.drop k = (F.data.toList, q) :: l.drop (k + 1)) := by
  obtain ⟨b, off, e, hb, c1, c2⟩ := h.at2 rfl hk
  refine ⟨b, off, _, _, e, hb, c1, c2, Lib.hid ?_⟩
  rw [List.drop_eq_getElem_cons hk]
theorem fd_same {F G : ByteArray} {q p : Bool} (h : (F, q) = (G, p)) : ((F.data.toList, q) : Fd) = (G.data.toList, p) := by injection h with h1 h2; rw [h1, h2]
theorem fd_diff {F G : ByteArray} {q p : Bool} (h : (F, q) ≠ (G, p)) : ((F.data.toList, q) : Fd) ≠ (G.data.toList, p) := by
  intro e
  injection e with e1 e2
  refine h ?_
  rw [ByteArray.ext (Array.toList_inj.1 e1), e2]
set_option maxRecDepth 100000 in
set_option maxHeartbeats 1000000 in
theorem same_any (w : World) (B B' : Nat) (A A' : Option Addr) (c c' : Nat) (l m : List Fd) (h : Reads w B 2 A l.length (fds l)) (h' : Reads w B' 2 A' m.length (fds m)) (hl : l.length ≤ 9223372036854775807) :
    Calls Tryz.prog 18 #[.slice A l.length c, .slice A' m.length c'] w fun e w' => e = .returned (.bool (decide (l = m))) ∧ Below w.heap.size w w' := by
  by_cases hlen : l.length = m.length
  · have e0 : ((l.length : Int) != (m.length : Int)) = false := by simp [hlen]
    have hm : m.length ≤ l.length := by omega
    have Hlen := Lib.hid hlen
    clear hlen
    go_enter Tryz.func18, Tryz.ntmps18
    go_wp2
    go_loopw [5] (fun i wr => ∃ k : Nat, k ≤ l.length ∧ i = .int .i64 k ∧ Below w.heap.size w wr ∧ (∀ p, wr.cell? p = w.cell? p) ∧ CmpRel l m k) (fun i _ => l.length - (intOf i).toNat)
    case atStart => exact ⟨0, Nat.zero_le _, rfl, Below.refl _ _, fun _ => rfl, rfl⟩
    case round =>
      obtain ⟨k, hk, rfl, hbl, hsame, hr⟩ := hrel
      by_cases hlt : k < l.length
      · obtain ⟨b, off, F, q, rfl, hb, d1, d2, hd⟩ := fdAt h hlt
        obtain ⟨b', off', G, p, rfl, hb', d1', d2', hd'⟩ := fdAt h' (by rw [← Hlen.out]; exact hlt)
        have c1 := (hsame ⟨b, off + k * 2, none⟩).trans d1
        have c1' := (hsame ⟨b', off' + k * 2, none⟩).trans d1'
        have c2 := (hsame ⟨b, off + k * 2 + 1, none⟩).trans d2
        have c2' := (hsame ⟨b', off' + k * 2 + 1, none⟩).trans d2'
        have Hs := Lib.hid hsame
        clear d1 d1' d2 d2' hsame
        have hi1 : (k : Int) < (l.length : Int) := by omega
        have hi1' : (k : Int) < (m.length : Int) := by rw [← Hlen.out]; omega
        have hi0 : (0 : Int) ≤ (k : Int) := by omega
        go_wp2
        go_quiet (fail)
        go_wp2
        all_goals first
          | (go_roundw
             case rel =>
               go_light
               exact ⟨k + 1, by omega, by go_num, Go.RowKit.Below.trans hbl (drewN_below _ _), fun p => Hs.out p, hr.step hd hd' (fd_same (by first | (simp_all; done) | (simp_all [bytes_eq]; done)))⟩
             case measure => simp [intOf]; omega)
          | (go_ret
             go_light
             exact ⟨ret_ne rfl (CmpRel.stop hd hd' (fd_diff (by intro he; first | (simp_all; done) | (simp_all [bytes_eq]; done)))), Go.RowKit.Below.trans hbl (drewN_below _ _)⟩)
      · go_wp2
        go_ret
        exact ⟨ret_eq rfl (hr.done (by omega) (by rw [← Hlen.out]; omega)), hbl⟩
  · have e0 : ((l.length : Int) != (m.length : Int)) = true := by rw [bne_iff_ne]; omega
    have Hn := Lib.hid (show l ≠ m from fun e => hlen (by rw [e]))
    clear hlen
    go_enter Tryz.func18, Tryz.ntmps18
    go_wp2
    go_ret
    exact ⟨ret_ne rfl Hn.out, Below.refl _ _⟩
end Go.Proofs.YtngbgchnbcfliaaGreatDoor
