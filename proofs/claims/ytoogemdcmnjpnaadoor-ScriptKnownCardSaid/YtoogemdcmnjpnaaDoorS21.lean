/- The lines of a text in the reference: split. -/
import Derived.Test.YtoogemdcmnjpnaaDoorQ2
namespace Go.Proofs.YtoogemdcmnjpnaaDoor
open Go.RowKit
def Strs (l : List ByteArray) : List Value := l.map Value.string
theorem Strs_snoc (l : List ByteArray) (x : ByteArray) : Strs (l ++ [x]) = Strs l ++ [.string x] := by simp [Strs]
/-- a slice of lines alone -/
def RetLs (w : World) (l : List ByteArray) (e : Ending) (w' : World) : Prop :=
  ∃ A c, e = .returned (.slice A l.length c) ∧ Below w.heap.size w w' ∧ Reads w' w'.heap.size 1 A l.length (Strs l) ∧ l.length ≤ c ∧ c ≤ 9223372036854775807
theorem RetLs.of_own {w w' : World} {k : Nat} {out l : List ByteArray} {base : Nat} {e : TypeId} {v : Value} (h : w'.ownsRow base e 1 v k (Strs out)) (hb : Below w.heap.size w w') (hn : out.length = k) (hx : out = l) :
    RetLs w l (.returned v) w' := by
  subst hn hx
  obtain ⟨A, c, rfl, hr, hc, hm⟩ := own_sl h
  exact ⟨A, c, rfl, hb, hr, hc, hm⟩
theorem byte_ten {c : UInt8} : ((c.toNat : Int) == 10) = decide (c = 10) := by
  rw [Bool.eq_iff_iff, beq_iff_eq, decide_eq_true_eq]
  constructor
  · intro h; apply UInt8.toNat_inj.1; show c.toNat = 10; omega
  · intro h; subst h; rfl
set_option maxRecDepth 100000 in
set_option maxHeartbeats 800000 in
theorem rsplit (s : ByteArray) (w : World) (hsz : s.size ≤ 1099511627776) :
    Calls Tryd.prog 56 #[.string s] w (RetLs w (lnsB s)) := by
  go_enter Tryd.func56, Tryd.ntmps56
  go_wp2
  go_loopw [3, 4, 5] (fun v f i wr => ∃ (k a : Nat) (out : List ByteArray), k ≤ s.size ∧ a ≤ k ∧ i = .int .i64 k ∧ f = .int .i64 a ∧ Below w.heap.size w wr ∧ wr.ownsRow w.heap.size 9 1 v out.length (Strs out) ∧ out.length ≤ k ∧ Hid (LnRel s a k out)) (fun _ _ i _ => s.size - (intOf i).toNat)
  case atStart => exact ⟨0, 0, [], Nat.zero_le _, Nat.zero_le _, rfl, rfl, Below.refl _ _, World.ownsRow_nil _ _ _ _, Nat.zero_le _, Lib.hid (LnRel.start s)⟩
  case round =>
    obtain ⟨k, a, out, hk, ha, rfl, rfl, hbl, hown, hol, hr⟩ := hrel
    by_cases hlt : k < s.size
    case neg =>
      have hks : k = s.size := by omega
      have hD := Lib.hid (show out = lnsB s by rw [hks] at hr; exact hr.out.done)
      clear hr hks
      go_wp2
      go_ret
      exact RetLs.of_own hown hbl rfl hD.out
    by_cases hc : s[k] = 10
    · have m1 : ((s[k].toNat : Int) == 10) = true := by rw [byte_ten]; simp [hc]
      have hr2 := Lib.hid (hr.out.hit hlt hc)
      clear hr hc
      go_wp2_with (at_builtin; refine wpList_ap strEl (hown.alloc _) (ba hbl _) [.string (s.extract a k)] (alloc1_new _ _) ?_)
      intro g cap w3 hown3 hb3 hg3
      go_wp2
      go_roundw
      case rel => exact ⟨k + 1, k + 1, out ++ [s.extract a k], by omega, by omega, by go_num, by go_num, hb3, by rw [Strs_snoc]; simpa using hown3, by simp; omega, hr2⟩
      case measure => simp [intOf]; omega
    · have m1 : ((s[k].toNat : Int) == 10) = false := by rw [byte_ten]; simp [hc]
      have hr2 := Lib.hid (hr.out.other hlt ha hc)
      clear hr hc
      go_wp2
      go_roundw
      case rel => exact ⟨k + 1, a, out, by omega, by omega, by go_num, rfl, hbl, hown, by omega, hr2⟩
      case measure => simp [intOf]; omega
end Go.Proofs.YtoogemdcmnjpnaaDoor
