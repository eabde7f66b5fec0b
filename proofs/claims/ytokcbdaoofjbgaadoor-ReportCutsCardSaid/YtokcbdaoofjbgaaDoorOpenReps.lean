/- Lists of reports that come in as arguments. -/
import Derived.Test.YtokcbdaoofjbgaaDoorOpenHit
import Derived.Test.YtokcbdaoofjbgaaDoorR13
namespace Go.Proofs.YtokcbdaoofjbgaaDoor
open Go.ChangeShapes Go.WideShapes Go.ChangeAt Go.RowKit Go.Deep Go.Joins
set_option maxRecDepth 100000 in
theorem op_reps {H : Type} {enc : TypeId × Value → H} {w : World} {base : Nat} {sp : Nat → Bool} {held : Bool} {r : Reach} {b0 : Nat} {v : Value} {d : DataW H} {ps : List MemPlace}
    (hval : Value.okWide Tryd.prog w r b0 31 v) (h : DataW.Trod enc Tryd.prog w base sp held 31 v d ps) :
    ∃ (A : Option Addr) (L : List Rp) (c : Nat), v = .slice A L.length c ∧ IsReps w A L ∧ L.length ≤ c ∧ c ≤ 9223372036854775807 := by
  obtain ⟨a0, n0, c0, rfl⟩ := okWide_slice Tryd.underlying31 hval
  obtain ⟨fuel, hf⟩ := h
  rcases open_slice_fields Tryd.underlying31 Tryd.underlying24 (by kernel_rfl) (by kernel_rfl) hf with ⟨hcs, _⟩ | ⟨a, len, cap, m, D, Pl, hcs, hb, hlc, hcm, hm, hx, hi⟩
  · simp [Value.cells] at hcs
    obtain ⟨rfl, rfl, rfl⟩ := hcs
    exact ⟨none, [], 0, rfl, ⟨Reads.none_, fun x hx => by cases hx⟩, by simp, by omega⟩
  · simp [Value.cells] at hcs
    obtain ⟨rfl, rfl, rfl⟩ := hcs
    have hmn : n0 ≤ m := by rw [hm]; split <;> omega
    have key : ∀ i, i < n0 → ∃ x : Rp, w.cell? (a.add (i * 3)) = some (rpS x) ∧ w.cell? (a.add (i * 3 + 1)) = some (rpO x) ∧ w.cell? (a.add (i * 3 + 2)) = some (rpD x) ∧
        (Reads w w.heap.size 2 x.A x.l.length (hits x.l) ∧ x.l.length ≤ 9223372036854775807 ∧ (-9223372036854775808 ≤ x.d ∧ x.d ≤ 9223372036854775807)) := by
      intro i hin
      obtain ⟨ys, n, hD, _, hyl, hfl⟩ := hi i (by omega)
      obtain ⟨v0, y0, hc0, hy0, ht0⟩ := hfl 0 _ rfl
      obtain ⟨v1, y1, hc1, hy1, ht1⟩ := hfl 1 _ rfl
      obtain ⟨v2, y2, hc2, hy2, ht2⟩ := hfl 2 _ rfl
      obtain ⟨A, l, c, hcs, g1, g2, g3⟩ := hits_of_trod ht0
      obtain ⟨o, e1, _, _⟩ := DataW.trod_bool Tryd.underlying4 ht1
      obtain ⟨q, e2, _, w2⟩ := DataW.trod_int Tryd.underlying3 ht2
      simp at hcs e1 e2
      subst hcs e1 e2
      exact ⟨⟨A, c, l, o, q⟩, hc0, hc1, hc2, g1, Nat.le_trans g2 g3, wf64 w2⟩
    obtain ⟨L, hl, hq⟩ := list_of key
    subst hl
    refine ⟨some a, L, c0, rfl, ⟨⟨flat3_length L, fun hn => ?_⟩, fun x hx => ?_⟩, hlc, by unfold maxLen at hcm; omega⟩
    · have hsp : a.spot = none := by
        obtain ⟨x, h1, _⟩ := key 0 hn
        rw [Nat.zero_mul, show a.add 0 = a from by unfold Addr.add; simp] at h1
        exact spot_of_cell h1
      obtain ⟨b, off, sp⟩ := a
      simp only at hsp
      subst hsp
      have hlt : b < w.heap.size := by
        obtain ⟨x, h1, _⟩ := key 0 hn
        rw [add_lit] at h1
        unfold World.cell? at h1
        rcases Nat.lt_or_ge b w.heap.size with hh | hh
        · exact hh
        · simp [Array.getElem?_eq_none hh] at h1
      refine ⟨b, off, rfl, hlt, fun j u hu => ?_⟩
      have hj : j < L.length * 3 := by
        rw [← flat3_length (f := rpS) (g := rpO) (h := rpD) L]
        rcases Nat.lt_or_ge j (flat3 rpS rpO rpD L).length with hh | hh
        · exact hh
        · rw [List.getElem?_eq_none hh] at hu; cases hu
      obtain ⟨q, hq2, hj2⟩ : ∃ q, q < L.length ∧ (j = q * 3 ∨ j = q * 3 + 1 ∨ j = q * 3 + 2) := ⟨j / 3, by omega, by omega⟩
      obtain ⟨k1, k2, k3, _⟩ := hq q (L[q]'hq2) (List.getElem?_eq_getElem _)
      obtain ⟨f1, f2, f3⟩ := flat3_at (f := rpS) (g := rpO) (h := rpD) L q hq2
      rw [add_lit] at k1 k2 k3
      rcases hj2 with rfl | rfl | rfl
      · rw [k1, ← f1, hu]
      · rw [k2, ← f2, hu]
      · rw [k3, ← f3, hu]
    · obtain ⟨i, hi2, rfl⟩ := List.getElem_of_mem hx
      exact (hq i _ (List.getElem?_eq_getElem hi2)).2.2.2
end Go.Proofs.YtokcbdaoofjbgaaDoor
