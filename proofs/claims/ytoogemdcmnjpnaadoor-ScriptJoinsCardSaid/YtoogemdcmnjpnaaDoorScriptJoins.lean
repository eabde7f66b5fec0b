/- ScriptJoins: for every script and every number the law returns true. No condition. -/
import Derived.Test.YtoogemdcmnjpnaaDoorS17
namespace Go.Proofs.YtoogemdcmnjpnaaDoor
open Go.RowKit
set_option maxRecDepth 100000 in
set_option maxHeartbeats 1000000 in
theorem scriptJoins_walk (w : World) (A : Option Addr) (c : Nat) (l : List Sc) (h : IsSc w A l) (hc : l.length ≤ c ∧ c ≤ 9223372036854775807) (k : Int) (hk : (Lit.int .i64 k).wf = true) (hE : Esc w) :
    Calls Tryd.prog 8 #[.slice A l.length c, .int .i64 k] w fun e w' => e = .returned (.bool true) ∧ Below w.heap.size w w' := by
  obtain ⟨hk1, hk2⟩ := wf64 hk
  clear hk
  by_cases hf : farB l = true
  · go_enter Tryd.func8, Tryd.ntmps8
    go_wp2_with fail
    (with_reducible refine (far w A c l h).mono ?_); rintro e w1 ⟨rfl, rfl⟩
    go_wp2_with fail
    (with_reducible refine (awake _ hE).mono ?_); rintro e w1 ⟨rfl, hb1⟩
    go_wp2
    go_ret
    exact ⟨rfl, hb1⟩
  have hf2 : farB l = false := by simpa using hf
  have hl := farB_len hf2
  clear hf
  by_cases hj : joinErr l k = 0
  case neg =>
    have e1 : (joinErr l k != 0) = true := by simp [hj]
    have hm := Lib.hid (join_neg hj)
    obtain ⟨e0, he⟩ : ∃ e0, Hid (joinErr l k = e0) := ⟨_, Lib.hid rfl⟩
    have hn : Hid (([] : List Sc).length = 0) := Lib.hid rfl
    rw [he.out] at e1
    clear hj
    go_enter Tryd.func8, Tryd.ntmps8
    go_wp2_with fail
    (with_reducible refine (far w A c l h).mono ?_); rintro e w1 ⟨rfl, rfl⟩
    go_wp2_with fail
    (with_reducible refine (sjoin' w A c l h hc k hk1 hk2 hm hn he).mono ?_); rintro e w1 ⟨A1, c1, rfl, hb1, hr1, _, _⟩
    go_wp2_with fail
    (with_reducible refine (awake _ (hE.below hb1)).mono ?_); rintro e w2 ⟨rfl, hb2⟩
    have hB2 := bt hb1 hb2
    go_wp2
    go_ret
    exact ⟨rfl, hB2⟩
  obtain ⟨n, rfl, ht⟩ := two_of_join hj
  have hlen := ht.length
  have hjl := chk_len ht.okl
  obtain ⟨hce, hcc⟩ := ht.cutted (by have := chk_len ht.okc; omega)
  have Hj := Lib.hid hj
  have HT := Lib.hid ht
  have H0 := Lib.hid ht.okc
  have HJ0 := Lib.hid ht.okl
  have Hce := Lib.hid hce
  have Hcc := Lib.hid hcc
  have hnl : n < l.length := by have := ht.len; omega
  have hst := Lib.hid ht.streams
  have htt := Lib.hid ht.total
  have hlen2 : l.length ≤ (join l n).length + 1 := by omega
  clear hj ht hce hcc hlen
  obtain ⟨b, off, K, s, rfl, hb, d1, d2, hd, hK1, hK4, hs1, _⟩ := scAtOk h.rd hnl H0
  have hat := atK_drop hd
  rw [hat] at Hce Hcc
  simp only at Hce Hcc
  generalize hjm : join l (n : Int) = j at *
  have Hjm := Lib.hid hjm
  clear hjm hat
  have hst2 : Hid (streams l = streams j) := hst
  have hsl := streams_len j
  have hi1 : (n : Int) < (l.length : Int) := by omega
  have hi0 : (0 : Int) ≤ (n : Int) := by omega
  have eqq : ((Go.Proofs.YtoogemdcmnjpnaaDoor.total j : Int) == (Go.Proofs.YtoogemdcmnjpnaaDoor.total j : Int)) = true := by simp
  go_enter Tryd.func8, Tryd.ntmps8
  go_wp2_with fail
  (with_reducible refine (far w _ c l h).mono ?_); rintro e w1 ⟨rfl, rfl⟩
  go_wp2_with fail
  (with_reducible refine (sjoin' w _ c l h hc n hk1 hk2 Hjm (Lib.hid rfl) Hj).mono ?_); rintro e w1 ⟨A1, c1, rfl, hb1, hr1, hc1a, hc1b⟩
  have h1 := h.below hb1
  have hj1 := isSc_of hr1 HJ0
  go_wp2_with fail
  (with_reducible refine (sstreams' w1 _ c l h1 H0 hst2).mono ?_); rintro e w2 ⟨A2, c2, rfl, hb2, hr2, _, _⟩
  have h2 := h1.below hb2
  have hB2 := bt hb1 hb2
  have hj2 := hj1.below hb2
  go_wp2_with fail
  (with_reducible refine (sstreams' w2 _ c1 j hj2 HJ0 (Lib.hid rfl)).mono ?_); rintro e w3 ⟨A3, c3, rfl, hb3, hr3, _, _⟩
  have h3 := h2.below hb3
  have hB3 := bt hB2 hb3
  have hj3 := hj2.below hb3
  have hr2 := hr2.go hb3
  go_wp2_with fail
  (with_reducible refine (stotal' w3 _ c l h3 H0 htt).mono ?_); rintro e w4 ⟨rfl, hb4⟩
  have h4 := h3.below hb4
  have hB4 := bt hB3 hb4
  have hj4 := hj3.below hb4
  have hr2 := hr2.go hb4
  have hr3 := hr3.go hb4
  go_wp2_with fail
  (with_reducible refine (stotal' w4 _ c1 j hj4 HJ0 (Lib.hid rfl)).mono ?_); rintro e w5 ⟨rfl, hb5⟩
  have h5 := h4.below hb5
  have hB5 := bt hB4 hb5
  have hj5 := hj4.below hb5
  have hr2 := hr2.go hb5
  have hr3 := hr3.go hb5
  have e2 := (hB5.cell (p := ⟨b, off + n * 2 + 1, none⟩) (by simp; omega)).trans d2
  go_wp2_with fail
  (with_reducible refine (scut' w5 _ c1 j hj5 ⟨hc1a, hc1b⟩ n s.size hk1 hk2 (by omega) (by omega) Hcc (Lib.hid rfl) Hce).mono ?_); rintro e w6 ⟨A6, c6, rfl, hb6, hr6, _, _⟩
  have h6 := h5.below hb6
  have hB6 := bt hB5 hb6
  have hr2 := hr2.go hb6
  have hr3 := hr3.go hb6
  go_wp2_with fail
  (with_reducible refine (strings_same w6 A2 A3 c2 c3 _ hr2 hr3 (by omega)).mono ?_); rintro e w7 ⟨rfl, hb7⟩
  have h7 := h6.below hb7
  have hB7 := bt hB6 hb7
  have hr6 := hr6.go hb7
  go_wp2_with fail
  (with_reducible refine (equal_same w7 A6 _ c6 c _ hr6 h7.rd (by omega)).mono ?_); rintro e w8 ⟨rfl, hb8⟩
  have hB8 := bt hB7 hb8
  go_wp2_with fail
  (with_reducible refine (awake _ (hE.below hB8)).mono ?_); rintro e w9 ⟨rfl, hb9⟩
  have hB9 := bt hB8 hb9
  go_wp2
  go_ret
  exact ⟨rfl, hB9⟩
end Go.Proofs.YtoogemdcmnjpnaaDoor
