/- WordsNames: for every string and all numbers the law returns true. No condition. -/
import Derived.Test.YtngbgchnbcfliaaDoorN15
import Derived.Test.YtngbgchnbcfliaaDoorN16
namespace Go.Proofs.YtngbgchnbcfliaaDoor
open Go.RowKit
theorem wf_i64' {n : Int} (h : (Lit.int .i64 n).wf = true) : -9223372036854775808 ≤ n ∧ n ≤ 9223372036854775807 := by
  simpa [Lit.wf, IntKind.min, IntKind.max, IntKind.signed, IntKind.bits] using h
theorem rdig_ (n : Int) (x : ByteArray) (hx : Hid (x = Dg n)) (h0 : -9223372036854775808 ≤ n) (h1 : n ≤ 9223372036854775807) (w : World) :
    Calls Tryd.prog 18 #[.int .i64 n] w fun e w' => e = .returned (.string x) ∧ Below w.heap.size w w' := by
  rw [hx.out]
  by_cases hn : 0 ≤ n
  · obtain ⟨N, rfl⟩ : ∃ N : Nat, n = N := ⟨n.toNat, by omega⟩
    exact rdig_pos N (by omega) w
  · obtain ⟨N, rfl⟩ : ∃ N : Nat, n = -(N : Int) := ⟨n.natAbs, by omega⟩
    exact rdig_neg N (by omega) (by omega) w
set_option maxRecDepth 100000 in
set_option maxHeartbeats 2000000 in
theorem wordsNames_walk (w : World) (s : ByteArray) (_hs : s.size ≤ 140737488351232) (low : Int) (hlo : (Lit.int .i64 low).wf = true) (high : Int) (hhi : (Lit.int .i64 high).wf = true) (hP : Pow w) (hR : ER w) (hE : Esc w) (hM : ML w) :
    Calls Tryd.prog 4 #[.string s, .int .i64 low, .int .i64 high] w fun e w' => e = .returned (.bool true) ∧ Below w.heap.size w w' := by
  by_cases h9 : 1000 < s.size
  · have i1 : (1000 : Int) < (s.size : Int) := by omega
    go_enter Tryd.func4, Tryd.ntmps4
    go_wp2_with fail
    (with_reducible refine (shown_ _ hE hM hR hP).mono ?_); rintro e w1 ⟨rfl, hb1⟩
    go_wp2
    go_ret
    exact ⟨rfl, hb1⟩
  have i3 : ¬ ((1000 : Int) < (s.size : Int)) := by omega
  have hs : s.size ≤ 1099511627776 := by omega
  obtain ⟨l0, l1⟩ := wf_i64' hlo
  obtain ⟨u0, u1⟩ := wf_i64' hhi
  obtain ⟨D1, hD1⟩ : ∃ D, D = Dg low := ⟨_, rfl⟩
  obtain ⟨D2, hD2⟩ : ∃ D, D = Dg high := ⟨_, rfl⟩
  obtain ⟨r, hr⟩ : ∃ r, r = intR s.data.toList low high := ⟨_, rfl⟩
  obtain ⟨b, hb⟩ : ∃ b, b = nameL s.data.toList := ⟨_, rfl⟩
  have c1 := int_ s low high
  have c2 := rint_ s low high
  have c3 := name_ s
  have c4 := rname_ s
  rw [← hr] at c1 c2
  rw [← hb] at c3 c4
  obtain ⟨n, er⟩ := r
  have H1 := Lib.hid c1
  have H2 := Lib.hid c2
  have H3 := Lib.hid c3
  have H4 := Lib.hid c4
  have HD1 := Lib.hid hD1
  have HD2 := Lib.hid hD2
  clear c1 c2 c3 c4 hr hb hD1 hD2 h9 hlo hhi
  go_enter Tryd.func4, Tryd.ntmps4
  go_wp2_with fail
  (with_reducible refine (H1.out w hs hR).mono ?_); rintro e w1 ⟨rfl, hb1⟩
  go_wp2_with fail
  (with_reducible refine (H2.out _ hs).mono ?_); rintro e w2 ⟨rfl, hb2⟩
  have hB2 := bt hb1 hb2
  go_wp2_with fail
  (with_reducible refine (H3.out _ hs).mono ?_); rintro e w3 ⟨rfl, hb3⟩
  have hB3 := bt hB2 hb3
  go_wp2_with fail
  (with_reducible refine (H4.out _).mono ?_); rintro e w4 ⟨rfl, hb4⟩
  have hB4 := bt hB3 hb4
  go_wp2_with fail
  (with_reducible refine (digits_ low D1 HD1 l0 l1 _ (hP.below hB4)).mono ?_); rintro e w5 ⟨rfl, hb5⟩
  have hB5 := bt hB4 hb5
  go_wp2_with fail
  (with_reducible refine (rdig_ low D1 HD1 l0 l1 _).mono ?_); rintro e w6 ⟨rfl, hb6⟩
  have hB6 := bt hB5 hb6
  go_wp2_with fail
  (with_reducible refine (digits_ high D2 HD2 u0 u1 _ (hP.below hB6)).mono ?_); rintro e w7 ⟨rfl, hb7⟩
  have hB7 := bt hB6 hb7
  go_wp2_with fail
  (with_reducible refine (rdig_ high D2 HD2 u0 u1 _).mono ?_); rintro e w8 ⟨rfl, hb8⟩
  have hB8 := bt hB7 hb8
  go_wp2_with fail
  (with_reducible refine (shown_ _ (hE.below hB8) (hM.below hB8) (hR.below hB8) (hP.below hB8)).mono ?_); rintro e w9 ⟨rfl, hb9⟩
  go_wp2
  go_ret
  exact ⟨rfl, bt hB8 hb9⟩
end Go.Proofs.YtngbgchnbcfliaaDoor
