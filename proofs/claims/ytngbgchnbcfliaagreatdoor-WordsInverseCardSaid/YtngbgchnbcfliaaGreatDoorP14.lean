/- words: lists of the law. No condition. -/
import Derived.Test.YtngbgchnbcfliaaGreatDoorN10
import Derived.BigQuiet
namespace Go.Proofs.YtngbgchnbcfliaaGreatDoor
open Go.RowKit
theorem take_next {l m : List Int} {k : Nat} {x y : Int} (h : l.take k = m.take k) (hx : l[k]? = some x) (hy : m[k]? = some y) (he : x = y) : l.take (k + 1) = m.take (k + 1) := by
  rw [List.take_add_one, List.take_add_one, h, hx, hy, he]
set_option maxRecDepth 100000 in
set_option maxHeartbeats 1000000 in
theorem lists_ (w : World) (B B' : Nat) (A A' : Option Addr) (c c' : Nat) (l m : List Int) (h : Reads w B 1 A l.length (ivs l)) (h' : Reads w B' 1 A' m.length (ivs m)) (hl9 : l.length ≤ 9223372036854775807) :
    Calls Tryz.prog 11 #[.slice A l.length c, .slice A' m.length c'] w fun e w' => e = .returned (.bool (decide (l = m))) ∧ Below w.heap.size w w' := by
  by_cases hlen : l.length = m.length
  case neg =>
    have m1 : ((l.length : Int) != (m.length : Int)) = true := by rw [bne_iff_ne]; omega
    have hR := Lib.hid (show decide (l = m) = false from decide_eq_false (fun e => hlen (by rw [e])))
    clear hlen h h'
    go_enter Tryz.func11, Tryz.ntmps11
    go_wp2
    go_ret
    exact ⟨ret_bool hR.out.symm, Below.refl _ _⟩
  case pos =>
    have m1 : ((l.length : Int) != (m.length : Int)) = false := by rw [hlen]; simp
    have H := Lib.hid h
    have H' := Lib.hid h'
    have Hlen := Lib.hid hlen
    clear h h' hlen
    go_enter Tryz.func11, Tryz.ntmps11
    go_wp2
    go_loopw [5] (fun i wr => ∃ k : Nat, k ≤ l.length ∧ i = .int .i64 k ∧ Hid (l.take k = m.take k) ∧ Hid (∀ p, wr.cell? p = w.cell? p) ∧ Below w.heap.size w wr) (fun i _ => l.length - (intOf i).toNat)
    case atStart => exact ⟨0, Nat.zero_le _, rfl, Lib.hid rfl, Lib.hid (fun _ => rfl), Below.refl _ _⟩
    case round =>
      obtain ⟨k, hk, rfl, htk, hcl, hbl⟩ := hrel
      by_cases hlt : k < l.length
      · have i1 : (k : Int) < (l.length : Int) := by omega
        have i2 : (k : Int) < (m.length : Int) := by have := Hlen.out; omega
        obtain ⟨b, off, x, rfl, hb, hc, hx⟩ := ivAt (H.out.keep fun p _ => hcl.out p) hlt
        obtain ⟨b', off', y, rfl, hb', hc', hy⟩ := ivAt (k := k) (H'.out.keep fun p _ => hcl.out p) (by have := Hlen.out; omega)
        by_cases hxy : x = y
        · have hn := Lib.hid (take_next htk.out hx.out hy.out hxy)
          have m2 : (x != y) = false := by rw [hxy]; simp
          clear hxy
          go_wp2
          go_quiet (fail)
          go_wp2
          go_roundw
          case rel => exact ⟨k + 1, by omega, by go_num, hn, Lib.hid (fun p => hcl.out p), bd hbl _⟩
          case measure => (simp [intOf]) <;> omega
        · have hR := Lib.hid (show decide (l = m) = false from decide_eq_false (fun e => hxy (by
            have h1 := hx.out
            rw [e, hy.out] at h1
            exact (Option.some.inj h1).symm)))
          have m2 : (x != y) = true := by rw [bne_iff_ne]; exact hxy
          clear hxy
          go_wp2
          go_quiet (fail)
          go_wp2
          go_ret
          exact ⟨ret_bool hR.out.symm, bd hbl _⟩
      · have i1 : ¬ ((k : Int) < (l.length : Int)) := by omega
        have hR := Lib.hid (show decide (l = m) = true from decide_eq_true (by
          have h1 := htk.out
          have h2 := Hlen.out
          rwa [List.take_of_length_le (by omega), List.take_of_length_le (by omega)] at h1))
        go_wp2
        go_ret
        exact ⟨ret_bool hR.out.symm, hbl⟩
theorem lists_same (w : World) (B B' : Nat) (A A' : Option Addr) (c c' n n' : Nat) (l : List Int) (h : Reads w B 1 A n (ivs l)) (h' : Reads w B' 1 A' n' (ivs l)) (hl9 : l.length ≤ 9223372036854775807) :
    Calls Tryz.prog 11 #[.slice A n c, .slice A' n' c'] w fun e w' => e = .returned (.bool true) ∧ Below w.heap.size w w' := by
  have e1 : n = l.length := by have := h.1; simp at this; omega
  have e2 : n' = l.length := by have := h'.1; simp at this; omega
  subst e1
  subst e2
  have := lists_ w B B' A A' c c' l l h h' hl9
  rw [decide_eq_true rfl] at this
  exact this
end Go.Proofs.YtngbgchnbcfliaaGreatDoor
