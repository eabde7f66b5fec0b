/- Lexer: Print of sets and the text of tokens by the reference. No condition. -/
import Derived.Test.YtfleamgncodkpaaDoorL5
import Derived.Test.YtfleamgncodkpaaDoorJ8
namespace Go.Proofs.YtfleamgncodkpaaDoor
open Go.RowKit
theorem sz_of (l : List UInt8) : (⟨l.toArray⟩ : ByteArray).size = l.length := by show l.toArray.size = _; rw [List.size_toArray]
theorem ba3 (a b c : List UInt8) : (⟨a.toArray⟩ : ByteArray) ++ ⟨b.toArray⟩ ++ ⟨c.toArray⟩ = ⟨(a ++ b ++ c).toArray⟩ := by
  rw [ba2, ba2]
set_option maxRecDepth 100000 in
set_option maxHeartbeats 2000000 in
theorem rprints_ (f : Nat → Bool) (w : World) : Calls Tryd.prog 32 #[stV f] w fun e w' => e = .returned (.string ⟨(prK f).toArray⟩) ∧ Below w.heap.size w w' := by
  have HF0 := Lib.hid ((Fr.start w).newN (g := w.heap.size) rfl (stO f))
  have key : ∀ g : Nat → Bool, ((rnK (mbK g)).flatMap itK).length ≤ 2304 := fun g => by
    have h1 := its_len (rnK (mbK g))
    have h2 := rnK_len (mbK g)
    have h3 := mbT_len g 256
    rw [mbT_all] at h3
    omega
  by_cases hc : 128 < (mbK f).length
  · have i1 : (128 : Int) < ((mbK f).length : Int) := by omega
    have HC := Lib.hid (fun w => rcount_ f (mbK f).length (Lib.hid rfl) w)
    have HN := Lib.hid (rnot_ f)
    have HI := ritems_ (fun i => !f i)
    obtain ⟨fn, hfn⟩ : ∃ g : Nat → Bool, g = fun i => !f i := ⟨_, rfl⟩
    rw [← hfn] at HN HI
    have hz : prK f = [91, 94] ++ (rnK (mbK fn)).flatMap itK ++ [93] := by unfold prK; rw [if_pos hc, hfn]; simp
    obtain ⟨U, hU⟩ : ∃ U : ByteArray, U = ⟨((rnK (mbK fn)).flatMap itK).toArray⟩ := ⟨_, rfl⟩
    have hUs : U.size ≤ 2304 := by rw [hU, sz_of]; exact key fn
    have HZ := Lib.hid (show (⟨#[91, 94]⟩ : ByteArray) ++ U ++ ⟨#[93]⟩ = ⟨(prK f).toArray⟩ by rw [hU, hz]; exact ba3 [91, 94] _ [93])
    rw [← hU] at HI
    have HIt := Lib.hid HI
    have y1 : ¬ (9223372036854775807 < 2 + U.size) := by omega
    have y2 : ¬ (9223372036854775807 < 2 + U.size + 1) := by omega
    generalize (mbK f).length = n at *
    clear hU hz hfn HI key hc
    go_enter Tryd.func32, Tryd.ntmps32
    go_upto_region 1 with fail
    generalize (w.alloc (stO f)) = W0 at *
    obtain ⟨⟨c0, c1, c2, c3⟩, _, _⟩ := bx4 (HF0.out.at (g := w.heap.size) (o := stO f) (by simp))
    go_wp2_with fail
    (with_reducible refine (HC.out _).mono ?_); rintro e w1 ⟨rfl, hb1⟩
    have HF1 := Lib.hid (HF0.out.go hb1)
    clear hb1 HF0 HC c0 c1 c2 c3
    obtain ⟨⟨c0, c1, c2, c3⟩, _, _⟩ := bx4 (HF1.out.at (g := w.heap.size) (o := stO f) (by simp))
    go_wp2_with fail
    (with_reducible refine (HN.out _).mono ?_); rintro e w2 ⟨rfl, hb2⟩
    have HB2 := Lib.hid (HF1.out.go hb2).bel
    clear hb2 HF1 HN c0 c1 c2 c3
    go_wp2_with fail
    (with_reducible refine (HIt.out _).mono ?_); rintro e w3 ⟨rfl, hb3⟩
    have HB3 := Lib.hid (bt HB2.out hb3)
    clear hb3
    go_wp2
    go_ret
    exact ⟨ret_str HZ.out, HB3.out⟩
  · have i1 : ¬ ((128 : Int) < ((mbK f).length : Int)) := by omega
    have HC := Lib.hid (fun w => rcount_ f (mbK f).length (Lib.hid rfl) w)
    have HI := ritems_ f
    have hz : prK f = [91] ++ (rnK (mbK f)).flatMap itK ++ [93] := by unfold prK; rw [if_neg hc]; simp
    obtain ⟨U, hU⟩ : ∃ U : ByteArray, U = ⟨((rnK (mbK f)).flatMap itK).toArray⟩ := ⟨_, rfl⟩
    have hUs : U.size ≤ 2304 := by rw [hU, sz_of]; exact key f
    have HZ := Lib.hid (show (⟨#[91]⟩ : ByteArray) ++ U ++ ⟨#[93]⟩ = ⟨(prK f).toArray⟩ by rw [hU, hz]; exact ba3 [91] _ [93])
    rw [← hU] at HI
    have HIt := Lib.hid HI
    have y1 : ¬ (9223372036854775807 < 1 + U.size) := by omega
    have y2 : ¬ (9223372036854775807 < 1 + U.size + 1) := by omega
    generalize (mbK f).length = n at *
    clear hU hz HI key hc
    go_enter Tryd.func32, Tryd.ntmps32
    go_upto_region 1 with fail
    generalize (w.alloc (stO f)) = W0 at *
    obtain ⟨⟨c0, c1, c2, c3⟩, _, _⟩ := bx4 (HF0.out.at (g := w.heap.size) (o := stO f) (by simp))
    go_wp2_with fail
    (with_reducible refine (HC.out _).mono ?_); rintro e w1 ⟨rfl, hb1⟩
    have HF1 := Lib.hid (HF0.out.go hb1)
    clear hb1 HF0 HC c0 c1 c2 c3
    obtain ⟨⟨c0, c1, c2, c3⟩, _, _⟩ := bx4 (HF1.out.at (g := w.heap.size) (o := stO f) (by simp))
    go_wp2_with fail
    (with_reducible refine (HIt.out _).mono ?_); rintro e w3 ⟨rfl, hb3⟩
    have HB3 := Lib.hid (HF1.out.go hb3).bel
    clear hb3
    go_wp2
    go_ret
    exact ⟨ret_str HZ.out, HB3.out⟩
set_option maxRecDepth 100000 in
set_option maxHeartbeats 8000000 in
theorem rtx_ (K F T N : Int) (S : ByteArray) (f : Nat → Bool) (hK : 1 ≤ K ∧ K ≤ 6) (hN : 0 ≤ N ∧ N ≤ 9223372036854775807) (hS : S.size ≤ 100000) (u : ByteArray) (hu : Hid (tx9 K N S f = u)) (w : World) :
    Calls Tryd.prog 19 #[tkV K F T N S f] w fun e w' => e = .returned (.string u) ∧ Below w.heap.size w w' := by
  obtain ⟨hN0, hN1⟩ := hN
  have HF := Lib.hid ((Fr.start w).newN (g := w.heap.size) rfl (tkO K F T N S f))
  have hu0 := hu.out
  unfold tx9 at hu0
  have HN := Lib.hid (And.intro hN0 hN1)
  clear hu hN0 hN1
  by_cases h1 : K = 1
  · subst h1
    have HU := Lib.hid (show (⟨#[114, 117, 108, 101]⟩ : ByteArray) = u by rw [← hu0]; rfl)
    clear hu0
    go_enter Tryd.func19, Tryd.ntmps19
    go_wp2
    go_ret
    exact ⟨by rw [← HU.out]; rfl, HF.out.bel⟩
  rw [if_neg h1] at hu0
  by_cases h2 : K = 2
  · subst h2
    have HU := Lib.hid (show (⟨#[103, 97, 112]⟩ : ByteArray) = u by rw [← hu0]; rfl)
    clear hu0
    go_enter Tryd.func19, Tryd.ntmps19
    go_wp2
    go_ret
    exact ⟨by rw [← HU.out]; rfl, HF.out.bel⟩
  rw [if_neg h2] at hu0
  by_cases h3 : K = 3
  · subst h3
    have HU := Lib.hid (show Dg N = u by rw [← hu0]; rfl)
    have hnd := rdig_pos N.toNat (by have := HN.out; omega)
    rw [show ((N.toNat : Nat) : Int) = N by have := HN.out; omega] at hnd
    have HNd := Lib.hid hnd
    clear hnd
    clear hu0
    go_enter Tryd.func19, Tryd.ntmps19
    go_wp2_with fail
    (with_reducible refine (HNd.out _).mono ?_); rintro e w1 ⟨rfl, hb1⟩
    have HB := Lib.hid (bt HF.out.bel hb1)
    clear hb1
    go_wp2
    go_ret
    exact ⟨by rw [← HU.out]; rfl, HB.out⟩
  rw [if_neg h3] at hu0
  by_cases h4 : K = 4
  · subst h4
    have HU := Lib.hid (show (⟨(quoteB S.data.toList).toArray⟩ : ByteArray) = u by rw [← hu0]; rfl)
    clear hu0
    go_enter Tryd.func19, Tryd.ntmps19
    go_wp2_with fail
    (with_reducible refine (rquote S _ (by omega)).mono ?_); rintro e w1 ⟨rfl, hb1⟩
    have HB := Lib.hid (bt HF.out.bel hb1)
    clear hb1
    rw [HU.out]
    go_wp2
    go_ret
    exact ⟨rfl, HB.out⟩
  rw [if_neg h4] at hu0
  by_cases h5 : K = 5
  · subst h5
    have hql : (quoteB S.data.toList).length ≤ 500000 := by
      have := qB_len S.data.toList
      unfold qB at this
      unfold quoteB
      simp only [List.length_cons, List.length_append, List.length_nil] at *
      have h9 : S.data.toList.length = S.size := by simp
      omega
    have hqs : (⟨(quoteB S.data.toList).toArray⟩ : ByteArray).size ≤ 500000 := by show (quoteB S.data.toList).toArray.size ≤ _; simpa using hql
    have HU := Lib.hid (show (⟨#[105]⟩ : ByteArray) ++ ⟨(quoteB S.data.toList).toArray⟩ = u by rw [← hu0]; rfl)
    have HQ := Lib.hid (fun W => rquote S W (by omega))
    generalize (⟨(quoteB S.data.toList).toArray⟩ : ByteArray) = qs at *
    have j1 : ¬ (9223372036854775807 < 1 + qs.size) := by omega
    clear hu0 hql
    go_enter Tryd.func19, Tryd.ntmps19
    go_wp2_with fail
    (with_reducible refine (HQ.out _).mono ?_); rintro e w1 ⟨rfl, hb1⟩
    have HB := Lib.hid (bt HF.out.bel hb1)
    clear hb1
    go_wp2
    go_ret
    exact ⟨by rw [← HU.out]; rfl, HB.out⟩
  rw [if_neg h5] at hu0
  obtain rfl : K = 6 := by omega
  have hst := stQ_sets f (fun _ => true)
  have hT : T8 w f (w.alloc (tkO 6 F T N S f)) := T8.of (ba (Below.refl _ _) _) (alloc1_new _ _)
  have Hal := Lib.hid (fun W => rall_ W)
  have HP := Lib.hid (fun W => rprints_ f W)
  generalize (fun _ => true : Nat → Bool) = fa at *
  rcases hq : sQ f fa with _ | _
  · rw [hq] at hst hu0
    have HU := Lib.hid (show (⟨(prK f).toArray⟩ : ByteArray) = u by rw [← hu0]; rfl)
    generalize (⟨(prK f).toArray⟩ : ByteArray) = ps at *
    clear hq hu0
    go_enter Tryd.func19, Tryd.ntmps19
    go_wp2
    generalize w.alloc (tkO 6 F T N S f) = W1 at *
    go_region_held3 (fun w' => T8 w f w')
      (with_reducible (first | exact T8.drew hT | exact T8.go (by assumption) hb2 | assumption))
      ((go_at_call 22; refine (Hal.out _).mono ?_; rintro e w2 ⟨rfl, hb2⟩))
    obtain ⟨hB, hl, c5, c6, c7, c8⟩ : T8 w f w2 := by assumption
    have HB := Lib.hid hB
    clear hB hT HF
    go_wp2_with fail
    (with_reducible refine (HP.out _).mono ?_); rintro e w3 ⟨rfl, hb3⟩
    have HB3 := Lib.hid (bt HB.out hb3)
    clear hb3
    go_wp2
    go_ret
    exact ⟨by rw [← HU.out]; rfl, HB3.out⟩
  · rw [hq] at hst hu0
    have HU := Lib.hid (show (⟨#[46]⟩ : ByteArray) = u by rw [← hu0]; rfl)
    clear hq hu0
    go_enter Tryd.func19, Tryd.ntmps19
    go_wp2
    generalize w.alloc (tkO 6 F T N S f) = W1 at *
    go_region_held3 (fun w' => T8 w f w')
      (with_reducible (first | exact T8.drew hT | exact T8.go (by assumption) hb2 | assumption))
      ((go_at_call 22; refine (Hal.out _).mono ?_; rintro e w2 ⟨rfl, hb2⟩))
    obtain ⟨hB, hl, c5, c6, c7, c8⟩ : T8 w f w2 := by assumption
    have HB := Lib.hid hB
    clear hB hT HF
    go_wp2
    go_ret
    exact ⟨by rw [← HU.out]; rfl, HB.out⟩
end Go.Proofs.YtfleamgncodkpaaDoor
