/- Slices of integers that come in as arguments. -/
import Derived.Test.YtaogplmcabbikaaGreatDoorLaw
import Derived.Test.YtaogplmcabbikaaGreatDoorFr
import Derived.Lib.SmallJoins
namespace Go.Proofs.YtaogplmcabbikaaGreatDoor
open Go.ChangeShapes Go.WideShapes Go.ChangeAt Go.RowKit Go.Deep Go.Joins
theorem spot_of_cell_ {w : World} {a : Addr} {v : Value} (h : w.cell? a = some v) : a.spot = none := by
  unfold World.cell? at h
  split at h
  · rename_i hh
    rcases hs : a.spot with _ | s
    · rfl
    · simp [hs] at h
  · cases h
theorem list_of_ {α : Type} {n : Nat} {Q : Nat → α → Prop} (h : ∀ i, i < n → ∃ x, Q i x) : ∃ l : List α, l.length = n ∧ ∀ i x, l[i]? = some x → Q i x := by
  induction n with
  | zero => exact ⟨[], rfl, fun i x hx => by simp at hx⟩
  | succ n ih =>
    obtain ⟨l, hl, hq⟩ := ih fun i hi => h i (by omega)
    obtain ⟨x, hx⟩ := h n (by omega)
    refine ⟨l ++ [x], by simp [hl], fun i y hy => ?_⟩
    rcases Nat.lt_or_ge i n with hi | hi
    · rw [List.getElem?_append_left (by omega)] at hy
      exact hq i y hy
    · rw [List.getElem?_append_right (by omega)] at hy
      have : i = n := by
        rcases Nat.lt_or_ge (i - l.length) 1 with h1 | h1
        · omega
        · rw [List.getElem?_eq_none (by simpa using h1)] at hy; cases hy
      subst this
      simp [hl] at hy
      subst hy
      exact hx
section
variable {H : Type} {enc : TypeId × Value → H} {w : World} {base : Nat} {sp : Nat → Bool} {held : Bool}
theorem ints_of_trod {P : Program} {t e : TypeId} {kd : IntKind} (ht : P.underlying t = some (.slice e)) (he : P.underlying e = some (.int kd)) (hC : P.cellsOf e = 1) {fuel : Nat} {cs : List Value} {x : DataW H × List MemPlace} (hf : DataW.trod enc P w base sp held fuel t cs = some x) :
    ∃ (A : Option Addr) (l : List Int) (c : Nat), cs = [.slice A l.length c] ∧ Reads w w.heap.size 1 A l.length (l.map (Value.int kd)) ∧ (∀ x ∈ l, (Lit.int kd x).wf = true) ∧ l.length ≤ c ∧ c ≤ 9223372036854775807 := by
  rcases open_slice ht hf with ⟨hcs, _⟩ | ⟨a, len, cap, m, n, D, Pl, hcs, hb, hlc, hcm, hm, hx, hi⟩
  · exact ⟨none, [], 0, hcs, Reads.none_, (fun x hx => by cases hx), by simp, by omega⟩
  · have hmn : len ≤ m := by rw [hm]; split <;> omega
    have key : ∀ i, i < len → ∃ x : Int, w.cell? (a.add i) = some (.int kd x) ∧ (Lit.int kd x).wf = true := by
      intro i hin
      obtain ⟨cs', hc, ht'⟩ := hi i (by omega)
      rw [hC] at hc
      obtain ⟨_, hcl, hat⟩ := World.cells?_some hc
      obtain ⟨K, e0, _, hw⟩ := DataW.trod_int he ht'
      subst e0
      have := hat 0 (by omega)
      rw [Nat.mul_one] at this
      refine ⟨K, ?_, hw⟩
      have h0 : (a.add i).add 0 = a.add i := by unfold Addr.add; simp
      rw [h0] at this
      simpa using this
    obtain ⟨l, hl, hq⟩ := list_of_ key
    subst hl
    refine ⟨some a, l, cap, hcs, ⟨by simp, fun hn => ?_⟩, fun x hx => ?_, hlc, by unfold maxLen at hcm; omega⟩
    · have hsp : a.spot = none := by
        obtain ⟨x, h1, _⟩ := key 0 hn
        rw [show a.add 0 = a from by unfold Addr.add; simp] at h1
        exact spot_of_cell_ h1
      obtain ⟨b, off, sp⟩ := a
      simp only at hsp
      subst hsp
      have hlt : b < w.heap.size := by
        obtain ⟨x, h1, _⟩ := key 0 hn
        rw [add_lit] at h1
        unfold World.cell? at h1
        rcases Nat.lt_or_ge b w.heap.size with hh | hh
        · exact hh
        · simp [Array.getElem?_eq_none hh] at h1
      refine ⟨b, off, rfl, hlt, fun j u hu => ?_⟩
      have hj : j < l.length := by
        rcases Nat.lt_or_ge j l.length with hh | hh
        · exact hh
        · rw [List.getElem?_eq_none (by simpa using hh)] at hu; cases hu
      obtain ⟨k1, _⟩ := hq j l[j] (List.getElem?_eq_getElem hj)
      rw [add_lit] at k1
      rw [k1, ← hu]
      simp [hj]
    · obtain ⟨i, hi2, rfl⟩ := List.getElem_of_mem hx
      exact (hq i _ (List.getElem?_eq_getElem hi2)).2
theorem op_ints {P : Program} {t e : TypeId} {kd : IntKind} (ht : P.underlying t = some (.slice e)) (he : P.underlying e = some (.int kd)) (hC : P.cellsOf e = 1) {r : Reach} {b0 : Nat} {v : Value} {d : DataW H} {ps : List MemPlace}
    (hval : Value.okWide P w r b0 t v) (h : DataW.Trod enc P w base sp held t v d ps) :
    ∃ (A : Option Addr) (l : List Int) (c : Nat), v = .slice A l.length c ∧ Reads w w.heap.size 1 A l.length (l.map (Value.int kd)) ∧ (∀ x ∈ l, (Lit.int kd x).wf = true) ∧ l.length ≤ c ∧ c ≤ 9223372036854775807 := by
  obtain ⟨a0, n0, c0, rfl⟩ := okWide_slice ht hval
  obtain ⟨fuel, hf⟩ := h
  obtain ⟨A, l, c, hcs, h1, h2, h3⟩ := ints_of_trod ht he hC hf
  simp [Value.cells] at hcs
  obtain ⟨rfl, rfl, rfl⟩ := hcs
  exact ⟨_, l, _, rfl, h1, h2, h3⟩
end
theorem wf_u8 {x : Int} (h : (Lit.int .u8 x).wf = true) : 0 ≤ x ∧ x ≤ 255 := by
  simpa [Lit.wf, IntKind.min, IntKind.max, IntKind.signed, IntKind.bits] using h
theorem wf_u16 {x : Int} (h : (Lit.int .u16 x).wf = true) : 0 ≤ x ∧ x ≤ 65535 := by
  simpa [Lit.wf, IntKind.min, IntKind.max, IntKind.signed, IntKind.bits] using h
theorem wf_u64 {x : Int} (h : (Lit.int .u64 x).wf = true) : 0 ≤ x ∧ x ≤ 18446744073709551615 := by
  simpa [Lit.wf, IntKind.min, IntKind.max, IntKind.signed, IntKind.bits] using h
theorem wf_i64 {x : Int} (h : (Lit.int .i64 x).wf = true) : -9223372036854775808 ≤ x ∧ x ≤ 9223372036854775807 := by
  simpa [Lit.wf, IntKind.min, IntKind.max, IntKind.signed, IntKind.bits] using h
end Go.Proofs.YtaogplmcabbikaaGreatDoor
