/- words: Lines of both. No condition. -/
import Derived.Test.YtaainkjgnljihaaGreatDoorLn
import Derived.Test.YtaainkjgnljihaaGreatDoorMl
import Derived.Test.YtaainkjgnljihaaGreatDoorN17
namespace Go.Proofs.YtaainkjgnljihaaGreatDoor
open Go.RowKit
abbrev RetLn (w : World) (r : List ByteArray × Int) : Ending → World → Prop := RetSl w 1 (Ss r.1) r.1.length r.2
theorem RetLn.none_ {w w' : World} {r : List ByteArray × Int} {err : Int} (hb : Below w.heap.size w w') (h : r = ([], err)) : RetLn w r (.returned (.tuple #[.slice none 0 0, .int .i64 err])) w' := by
  subst h; exact RetSl.nil hb rfl rfl
theorem splitL_ (s : ByteArray) (w : World) (hM : ML w) (hsz : s.size ≤ 1000000000) (h10 : Hid (s.data.toList.getLast? = some 10)) {L : List ByteArray} (hL : Hid (lnsB s = L)) :
    Calls Tryz.prog 39 #[.string (s.extract 0 (s.size - 1)), .string ⟨#[10]⟩] w fun e w' => e = .returned (.slice (some ⟨w.heap.size, 0, none⟩) L.length L.length) ∧ w' = w.alloc (.cells (Ss L).toArray 9 (0, 0)) := by
  obtain ⟨m, hm⟩ := hM
  obtain ⟨h1, h2⟩ := splitB_lns h10.out
  have := Tryz.strings_Split (s.extract 0 (s.size - 1)) ⟨#[10]⟩ m w (by rw [ByteArray.size_extract]; omega) hm (by decide)
  rw [h1, h2, hL.out] at this
  exact this
set_option maxRecDepth 100000 in
set_option maxHeartbeats 1000000 in
theorem lines_ (s : ByteArray) (w : World) (hM : ML w) (hsz : s.size ≤ 1000000000) :
    Calls Tryz.prog 22 #[.string s] w (RetLn w (linesL s)) := by
  by_cases h8 : 1048576 < s.size
  · have hR := Lib.hid (linesL_long h8)
    have i1 : (1048576 : Int) < (s.size : Int) := by omega
    clear h8
    go_enter Tryz.func22, Tryz.ntmps22
    go_wp2
    go_ret2
    exact RetLn.none_ (Below.refl _ _) hR.out
  have i1 : ¬ ((1048576 : Int) < (s.size : Int)) := by omega
  by_cases hz : s.size = 0
  · have hz2 : s.toList.isEmpty = true := List.isEmpty_iff.2 ((toList_nil s).2 hz)
    have hR := Lib.hid (linesL_nil h8 hz)
    clear h8
    go_enter Tryz.func22, Tryz.ntmps22
    go_wp2
    go_ret2
    exact RetLn.none_ (Below.refl _ _) hR.out
  have hz2 : s.toList.isEmpty = false := by rw [List.isEmpty_eq_false_iff]; exact fun e => hz ((toList_nil s).1 e)
  have hsuf : Calls Tryz.prog 38 #[.string s, .string ⟨#[10]⟩] w fun e w' => e = .returned (.bool (decide (s.data.toList.getLast? = some 10))) ∧ w' = w := by
    have := Tryz.strings_HasSuffix s ⟨#[10]⟩ w (by omega)
    rw [show (⟨#[10]⟩ : ByteArray).data.toList = [10] from rfl, suffix_ten] at this
    exact this
  by_cases hl : s.data.toList.getLast? = some 10
  · rw [decide_eq_true hl] at hsuf
    have Hsuf := Lib.hid hsuf
    have Hl := Lib.hid hl
    have hs0 : (s.size : Int) - 1 = ((s.size - 1 : Nat) : Int) := by omega
    have hs1 : s.size ≠ 0 := hz
    by_cases hn : 5000 < (lnsB s).length
    · have hR := Lib.hid (linesL_many h8 hz hl hn)
      obtain ⟨L, hL⟩ : ∃ L, Hid (lnsB s = L) := ⟨_, Lib.hid rfl⟩
      rw [hL.out] at hn
      have i2 : (5000 : Int) < (L.length : Int) := by omega
      clear hl hsuf h8 hn
      go_enter Tryz.func22, Tryz.ntmps22
      go_wp2_with fail
      (with_reducible refine Hsuf.out.mono ?_); rintro e w ⟨rfl, hw⟩; subst hw
      go_wp2_with fail
      (with_reducible refine (splitL_ s _ hM hsz Hl hL).mono ?_); rintro e w1 ⟨rfl, hw1⟩
      have hb1 := Lib.hid (show Below w.heap.size w w1 by rw [hw1]; exact ba (Below.refl _ _) _)
      clear hw1
      go_wp2
      go_ret2
      exact RetLn.none_ hb1.out hR.out
    · have hR := Lib.hid (linesL_ok h8 hz hl hn)
      obtain ⟨L, hL⟩ : ∃ L, Hid (lnsB s = L) := ⟨_, Lib.hid rfl⟩
      rw [hL.out] at hn hR
      have i2 : ¬ ((5000 : Int) < (L.length : Int)) := by omega
      have hL5 : L.length ≤ 5000 := by omega
      clear hl hsuf h8 hn
      go_enter Tryz.func22, Tryz.ntmps22
      go_wp2_with fail
      (with_reducible refine Hsuf.out.mono ?_); rintro e w ⟨rfl, hw⟩; subst hw
      go_wp2_with fail
      (with_reducible refine (splitL_ s _ hM hsz Hl hL).mono ?_); rintro e w1 ⟨rfl, hw1⟩
      have hb1 := Lib.hid (show Below w.heap.size w w1 by rw [hw1]; exact ba (Below.refl _ _) _)
      have hr1 := Lib.hid (show Reads w1 w1.heap.size 1 (some ⟨w.heap.size, 0, none⟩) L.length (Ss L) by
        have := reads_blkN (size := 1) (n := L.length) (w := w1) (g := w.heap.size) (cs := Ss L) (by rw [hw1]; exact alloc1_new _ _) (by simp)
        exact this)
      clear hw1
      go_wp2
      go_ret2
      rw [hR.out]
      exact ⟨_, _, rfl, hb1.out, hr1.out, Nat.le_refl _, by omega⟩
  · rw [decide_eq_false hl] at hsuf
    have Hsuf := Lib.hid hsuf
    have hR := Lib.hid (linesL_form h8 hz hl)
    clear hl hsuf h8
    go_enter Tryz.func22, Tryz.ntmps22
    go_wp2_with fail
    (with_reducible refine Hsuf.out.mono ?_); rintro e w ⟨rfl, hw⟩; subst hw
    go_wp2
    go_ret2
    exact RetLn.none_ (Below.refl _ _) hR.out
set_option maxRecDepth 100000 in
set_option maxHeartbeats 1000000 in
theorem rlines_ (s : ByteArray) (w : World) (hsz : s.size ≤ 1000000000) :
    Calls Tryz.prog 26 #[.string s] w (RetLn w (linesL s)) := by
  by_cases h8 : 1048576 < s.size
  · have hR := Lib.hid (linesL_long h8)
    have i1 : (1048576 : Int) < (s.size : Int) := by omega
    clear h8
    go_enter Tryz.func26, Tryz.ntmps26
    go_wp2
    go_ret2
    exact RetLn.none_ (Below.refl _ _) hR.out
  have i1 : ¬ ((1048576 : Int) < (s.size : Int)) := by omega
  by_cases hz : s.size = 0
  · have hz2 : s.toList.isEmpty = true := List.isEmpty_iff.2 ((toList_nil s).2 hz)
    have hR := Lib.hid (linesL_nil h8 hz)
    clear h8
    go_enter Tryz.func26, Tryz.ntmps26
    go_wp2
    go_ret2
    exact RetLn.none_ (Below.refl _ _) hR.out
  have hz2 : s.toList.isEmpty = false := by rw [List.isEmpty_eq_false_iff]; exact fun e => hz ((toList_nil s).1 e)
  have h0 : 0 < s.size := by omega
  have hla := last_byte s h0
  have e1 : (s.size : Int) - 1 = ((s.size - 1 : Nat) : Int) := by omega
  have hlt1 : s.size - 1 < s.size := by omega
  have i0 : ((s.size - 1 : Nat) : Int) < (s.size : Int) := by omega
  have i00 : (0 : Int) ≤ ((s.size - 1 : Nat) : Int) := by omega
  by_cases hc : s[s.size - 1] = 10
  · have m1 : ((s[s.size - 1].toNat : Int) != 10) = false := by rw [hc]; rfl
    have hl : s.data.toList.getLast? = some 10 := by rw [hla, hc]
    obtain ⟨L, hL⟩ : ∃ L, Hid (lnsB s = L) := ⟨_, Lib.hid rfl⟩
    have hX : Hid ((5000 < L.length → linesL s = ([], 3)) ∧ (¬ 5000 < L.length → linesL s = (L, 0))) := Lib.hid (by rw [← hL.out]; exact ⟨fun h => linesL_many h8 hz hl h, fun h => linesL_ok h8 hz hl h⟩)
    clear hl hla h8 hc
    go_enter Tryz.func26, Tryz.ntmps26
    go_wp2
    go_loopw [4, 5, 6] (fun v f i wr => ∃ (k a : Nat) (out : List ByteArray), k ≤ s.size ∧ a ≤ k ∧ i = .int .i64 k ∧ f = .int .i64 a ∧ Below w.heap.size w wr ∧ wr.ownsRow w.heap.size 9 1 v out.length (Ss out) ∧ out.length ≤ k ∧ Hid (LnRel s a k out)) (fun _ _ i _ => s.size - (intOf i).toNat)
    case atStart => exact ⟨0, 0, [], Nat.zero_le _, Nat.zero_le _, rfl, rfl, Below.refl _ _, World.ownsRow_nil _ _ _ _, Nat.zero_le _, Lib.hid (LnRel.start s)⟩
    case round =>
      obtain ⟨k, a, out, hk, ha, rfl, rfl, hbl, hown, hol, hr⟩ := hrel
      by_cases hlt : k < s.size
      case neg =>
        have hks : k = s.size := by omega
        have hD : out = L := by rw [← hL.out]; rw [hks] at hr; exact hr.out.done
        subst hD
        clear hr hks
        obtain ⟨A9, c9, rfl, _, _, _⟩ := own_sl hown
        by_cases h5 : 5000 < out.length
        · have hR := Lib.hid (hX.out.1 h5)
          have i5 : (5000 : Int) < (out.length : Int) := by omega
          go_wp2
          go_ret2
          exact RetLn.none_ hbl hR.out
        · have hR := Lib.hid (hX.out.2 h5)
          have i5 : ¬ ((5000 : Int) < (out.length : Int)) := by omega
          go_wp2
          go_ret2
          exact RetSl.of_own hown hbl (by rw [hR.out]) (by rw [hR.out]) (by rw [hR.out])
      by_cases hc : s[k] = 10
      · have m2 : ((s[k].toNat : Int) == 10) = true := by rw [byte_ten]; simp [hc]
        have hr2 := Lib.hid (hr.out.hit hlt hc)
        clear hr hc
        go_wp2_with (at_builtin; refine wpList_ap strE (hown.alloc _) (ba hbl _) [.string (s.extract a k)] (alloc1_new _ _) ?_)
        intro g cap w3 hown3 hb3 hg3
        go_wp2
        go_roundw
        case rel => exact ⟨k + 1, k + 1, out ++ [s.extract a k], by omega, by omega, by go_num, by go_num, hb3, by simpa using hown3, by simp; omega, hr2⟩
        case measure => simp [intOf]; omega
      · have m2 : ((s[k].toNat : Int) == 10) = false := by rw [byte_ten]; simp [hc]
        have hr2 := Lib.hid (hr.out.other hlt ha hc)
        clear hr hc
        go_wp2
        go_roundw
        case rel => exact ⟨k + 1, a, out, by omega, by omega, by go_num, rfl, hbl, hown, by omega, hr2⟩
        case measure => simp [intOf]; omega
  · have m1 : ((s[s.size - 1].toNat : Int) != 10) = true := by unfold bne; rw [byte_ten]; simp [hc]
    have hR := Lib.hid (linesL_form h8 hz (by rw [hla]; simpa using hc))
    clear hla h8 hc
    go_enter Tryz.func26, Tryz.ntmps26
    go_wp2
    go_ret2
    exact RetLn.none_ (Below.refl _ _) hR.out
end Go.Proofs.YtaainkjgnljihaaGreatDoor
