/- Rows of bits, plain: Ones and Of are inverse; Ones ascends; one bit turned changes the count by one. No condition. -/
import Derived.Test.YtibnegheabhbdaaDoorB26
namespace Go.Proofs.YtibnegheabhbdaaDoor
open Go.RowKit
theorem mem_ones {l : List Nat} {N : Nat} {x : Int} : x ∈ onesTo l N ↔ ∃ k : Nat, k < N ∧ rbit l k = true ∧ x = k := by
  unfold onesTo
  rw [List.mem_map]
  constructor
  · rintro ⟨k, hk, rfl⟩
    rw [List.mem_filter, List.mem_range] at hk
    exact ⟨k, hk.1, hk.2, rfl⟩
  · rintro ⟨k, h1, h2, rfl⟩
    exact ⟨k, by rw [List.mem_filter, List.mem_range]; exact ⟨h1, h2⟩, rfl⟩
theorem any_ones {l : List Nat} {N k : Nat} (hk : k < N) : (onesTo l N).any (fun x => x == (k : Int)) = rbit l k := by
  rw [Bool.eq_iff_iff, List.any_eq_true]
  constructor
  · rintro ⟨x, hx, he⟩
    obtain ⟨j, _, h2, rfl⟩ := mem_ones.1 hx
    have he2 : (j : Int) = (k : Int) := eq_of_beq he
    obtain rfl : j = k := by omega
    exact h2
  · intro h
    exact ⟨k, mem_ones.2 ⟨k, hk, h, rfl⟩, by simp⟩
theorem ones_ofE {l : List Nat} (hc : chkB l.length = 0) : ofE l.length (onesTo l (64 * l.length)) = 0 := by
  have hn := chkB_ok.1 hc
  unfold ofE
  rw [if_neg (by omega), if_neg (by omega), if_neg]
  rw [List.any_eq_true]
  rintro ⟨x, hx, hb⟩
  obtain ⟨j, h1, _, rfl⟩ := mem_ones.1 hx
  unfold badOf at hb
  rw [Bool.or_eq_true, decide_eq_true_iff, decide_eq_true_iff] at hb
  omega
theorem ones_ofL {l : List Nat} (hw : W64 l) (hc : chkB l.length = 0) : ofL l.length (onesTo l (64 * l.length)) = l := by
  unfold ofL
  rw [if_pos (ones_ofE hc)]
  show rowOf ((l.length : Int)).toNat _ = l
  rw [Int.toNat_natCast]
  exact (row_eq hw rfl fun i hi => (any_ones hi).symm).symm
theorem ones_sorted (l : List Nat) (N : Nat) : (onesTo l N).Pairwise (· < ·) := by
  unfold onesTo
  rw [List.pairwise_map]
  refine (List.Pairwise.filter _ List.pairwise_lt_range).imp ?_
  intro a b h
  show (a : Int) < (b : Int)
  omega
theorem sorted_at {L : List Int} (h : L.Pairwise (· < ·)) {k : Nat} (hk : k + 1 < L.length) : L.getD k 0 < L.getD (k + 1) 0 := by
  have := List.pairwise_iff_getElem.1 h k (k + 1) (by omega) hk (by omega)
  simpa [show k < L.length by omega, hk] using this
theorem bsum_turn {n k : Nat} {f g : Nat → Bool} (hk : k < n) (h : ∀ j, g j = if j = k then !f k else f j) : (f k = true → bsum n g + 1 = bsum n f) ∧ (f k = false → bsum n g = bsum n f + 1) := by
  induction n with
  | zero => omega
  | succ n ih =>
    rw [bsum_succ, bsum_succ]
    by_cases e : k = n
    · subst e
      rw [bsum_congr (f := g) (g := f) (fun i hi => by rw [h i, if_neg (by omega)]), h k, if_pos rfl]
      constructor
      · intro hf; rw [hf]; rfl
      · intro hf; rw [hf]; rfl
    · obtain ⟨a, b⟩ := ih (by omega)
      rw [h n, if_neg (fun hh => e hh.symm)]
      exact ⟨fun hf => by have := a hf; omega, fun hf => by have := b hf; omega⟩
theorem cnt_turn {l : List Nat} (hw : W64 l) (hc : chkB l.length = 0) {k : Nat} (hk : k < 64 * l.length) : (cntV (setB l k (!rbit l k)) : Int) = (cntV l : Int) + (if rbit l k then -1 else 1) := by
  have h2 : chkB (setB l k (!rbit l k)).length = 0 := by rw [setB_len]; exact hc
  unfold cntV
  rw [if_pos h2, if_pos hc, cntL_bits hw, cntL_bits (setB_w hw k _ hk), setB_len]
  obtain ⟨a, b⟩ := bsum_turn (f := rbit l) (g := rbit (setB l k (!rbit l k))) hk (fun j => setB_bit hk j)
  cases hb : rbit l k
  · have := b hb
    rw [hb] at this
    simp only [Bool.not_false] at this ⊢
    rw [this]; simp
  · have := a hb
    rw [hb] at this
    simp only [Bool.not_true] at this ⊢
    simp; omega
theorem set_back {l : List Nat} (hw : W64 l) {k : Nat} (hk : k < 64 * l.length) (v : Bool) : setB (setB l k v) k (rbit l k) = l := by
  have hk2 : k < 64 * (setB l k v).length := by rw [setB_len]; exact hk
  refine row_ext (setB_w (setB_w hw k _ hk) k _ hk2) hw (by rw [setB_len, setB_len]) fun i _ => ?_
  rw [setB_bit hk2, setB_bit hk]
  by_cases e : i = k
  · subst e; rw [if_pos rfl]
  · rw [if_neg e, if_neg e]
theorem set_get {l : List Nat} {k : Nat} (hk : k < 64 * l.length) (v : Bool) : rbit (setB l k v) k = v := by
  rw [setB_bit hk, if_pos rfl]
theorem ofL_row {n : Nat} {L : List Int} (h : ofE n L = 0) : ofL n L = rowOf n (ofF L) := by
  unfold ofL
  rw [if_pos h, Int.toNat_natCast]
theorem of_ones {n : Nat} {L : List Int} {k : Nat} (hk : k < 64 * n) : (onesTo (rowOf n (ofF L)) (64 * n)).any (fun x => x == (k : Int)) = L.any (fun x => x == (k : Int)) := by
  rw [any_ones hk, rowOf_bit hk]
  rfl
end Go.Proofs.YtibnegheabhbdaaDoor
