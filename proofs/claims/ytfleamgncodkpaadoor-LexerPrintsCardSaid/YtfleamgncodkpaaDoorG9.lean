/- Sets of bytes: the text of a set is read (Prefix of the program). No condition. -/
import Derived.Test.YtfleamgncodkpaaDoorG8
import Derived.Test.YtfleamgncodkpaaDoorK3
namespace Go.Proofs.YtfleamgncodkpaaDoor
open Go.RowKit
theorem read_no (s : ByteArray) (a q k : Nat) (ha : a ≤ s.size) (hs : s.size ≤ 1000000) (h : Hid (onK (s.data.toList.drop a) = (none, k))) (hq : Hid (q = a + k)) (w : World) :
    Calls Tryd.prog 56 #[.string s, .int .i64 (a : Int)] w fun e w' => e = .returned (.tuple #[.int .u8 0, .int .i64 (q : Int), .bool false]) ∧ w = w' := by
  rw [hq.out]
  exact read_ s a ha hs _ h w
theorem read_yes (s : ByteArray) (a q k : Nat) (b : UInt8) (ha : a ≤ s.size) (hs : s.size ≤ 1000000) (h : Hid (onK (s.data.toList.drop a) = (some b, k))) (hq : Hid (q = a + k)) (w : World) :
    Calls Tryd.prog 56 #[.string s, .int .i64 (a : Int)] w fun e w' => e = .returned (.tuple #[.int .u8 (b.toNat : Int), .int .i64 (q : Int), .bool true]) ∧ w = w' := by
  rw [hq.out]
  exact read_ s a ha hs _ h w
/-- what reading a set gives -/
def RetPf (w : World) (r : (Nat → Bool) × Nat × Int) (e : Ending) (w' : World) : Prop := e = .returned (.tuple #[stV r.1, .int .i64 (r.2.1 : Int), .int .i64 r.2.2]) ∧ Below w.heap.size w w'
theorem stV_no : stV (fun _ => false) = .agg #[.int .u64 0, .int .u64 0, .int .u64 0, .int .u64 0] := by unfold stV; rw [wK_no, wK_no, wK_no, wK_no]; rfl
theorem RetPf.no {w w' : World} {r : (Nat → Bool) × Nat × Int} {n : Nat} {x : Int} (h : r = (fun _ => false, n, 6)) (hx : x = (n : Int)) (hb : Below w.heap.size w w') : RetPf w r (.returned (.tuple #[.agg #[.int .u64 0, .int .u64 0, .int .u64 0, .int .u64 0], .int .i64 x, .int .i64 6])) w' := by
  subst h hx
  exact ⟨by rw [stV_no], hb⟩
theorem RetPf.yes {w w' : World} {r : (Nat → Bool) × Nat × Int} {g : Nat → Bool} {n : Nat} {x : Int} (h : r = (g, n, 0)) (hx : x = (n : Int)) (hb : Below w.heap.size w w') : RetPf w r (.returned (.tuple #[stV g, .int .i64 x, .int .i64 0])) w' := by
  subst h hx
  exact ⟨rfl, hb⟩
theorem hasP1 (c : UInt8) : ∀ l : List UInt8, Lib.hasPrefix l [c] = decide (l.head? = some c)
  | [] => by simp [Lib.hasPrefix]
  | d :: t => by
    simp [Lib.hasPrefix]
    first | done | (rw [Bool.eq_iff_iff]; simp; exact eq_comm) | (exact eq_comm)
theorem trimP1 (c : UInt8) (l : List UInt8) : Lib.trimPrefix (c :: l) [c] = l := by
  simp [Lib.trimPrefix, hasP1]
/-- one item of a set -/
theorem pxK_end (n : Nat) (at_ : Nat) (acc : Nat → Bool) : pxK n [] at_ acc = (fun _ => false, at_, 6) := by cases n <;> rfl
theorem pxK_close (n : Nat) (t : List UInt8) (at_ : Nat) (acc : Nat → Bool) : pxK (n + 1) (93 :: t) at_ acc = (acc, at_ + 1, 0) := by rw [pxK, if_pos rfl]
theorem pxK_none {c : UInt8} {t : List UInt8} {n k at_ : Nat} {acc : Nat → Bool} (h : c ≠ 93) (ho : onK (c :: t) = (none, k)) : pxK (n + 1) (c :: t) at_ acc = (fun _ => false, at_ + k, 6) := by
  rw [pxK, if_neg h, ho]
theorem pxK_single {c : UInt8} {t : List UInt8} {n k at_ : Nat} {acc : Nat → Bool} {lo : UInt8} (h : c ≠ 93) (ho : onK (c :: t) = (some lo, k)) (hd : ((c :: t).drop k).head? ≠ some 45) :
    pxK (n + 1) (c :: t) at_ acc = pxK n ((c :: t).drop k) (at_ + k) fun i => acc i || decide (lo.toNat ≤ i ∧ i ≤ lo.toNat) := by
  rw [pxK, if_neg h, ho]
  simp only
  rw [if_neg hd]
theorem pxK_none2 {c : UInt8} {t : List UInt8} {n k k2 at_ : Nat} {acc : Nat → Bool} {lo : UInt8} (h : c ≠ 93) (ho : onK (c :: t) = (some lo, k)) (hd : ((c :: t).drop k).head? = some 45) (h2 : onK ((c :: t).drop (k + 1)) = (none, k2)) :
    pxK (n + 1) (c :: t) at_ acc = (fun _ => false, at_ + k + 1 + k2, 6) := by
  rw [pxK, if_neg h, ho]
  simp only
  rw [if_pos hd, h2]
theorem pxK_pair {c : UInt8} {t : List UInt8} {n k k2 at_ : Nat} {acc : Nat → Bool} {lo hi : UInt8} (h : c ≠ 93) (ho : onK (c :: t) = (some lo, k)) (hd : ((c :: t).drop k).head? = some 45) (h2 : onK ((c :: t).drop (k + 1)) = (some hi, k2)) :
    pxK (n + 1) (c :: t) at_ acc = if hi.toNat < lo.toNat then (fun _ => false, at_ + k + 1, 6) else pxK n ((c :: t).drop (k + 1 + k2)) (at_ + k + 1 + k2) fun i => acc i || decide (lo.toNat ≤ i ∧ i ≤ hi.toNat) := by
  rw [pxK, if_neg h, ho]
  simp only
  rw [if_pos hd, h2]
/-- where the reading of a set stands -/
def PxR (L : List UInt8) (R : (Nat → Bool) × Nat × Int) (p : Nat) (acc : Nat → Bool) : Prop := ∃ n, (L.drop p).length < n ∧ pxK n (L.drop p) p acc = R
theorem rg_union (acc : Nat → Bool) (lo hi : Nat) : (fun i => acc i || rgK lo (hi + 1) i) = fun i => acc i || decide (lo ≤ i ∧ i ≤ hi) := by
  funext i
  unfold rgK
  congr 1
  rw [Bool.eq_iff_iff]
  simp only [decide_eq_true_eq]
  omega
section
variable {L : List UInt8} {R : (Nat → Bool) × Nat × Int} {p k k2 : Nat} {acc : Nat → Bool} {c lo hi : UInt8} {t : List UInt8}
theorem PxR.over (h : PxR L R p acc) (hp : L.length ≤ p) : R = (fun _ => false, p, 6) := by
  obtain ⟨n, _, e⟩ := h
  rw [List.drop_of_length_le hp, pxK_end] at e
  exact e.symm
theorem PxR.close (h : PxR L R p acc) (hd : L.drop p = 93 :: t) : R = (acc, p + 1, 0) := by
  obtain ⟨n, hn, e⟩ := h
  obtain ⟨n, rfl⟩ : ∃ n', n = n' + 1 := ⟨n - 1, by omega⟩
  rw [hd, pxK_close] at e
  exact e.symm
theorem PxR.none (h : PxR L R p acc) (hd : L.drop p = c :: t) (hc : c ≠ 93) (ho : onK (L.drop p) = (.none, k)) : R = (fun _ => false, p + k, 6) := by
  obtain ⟨n, hn, e⟩ := h
  obtain ⟨n, rfl⟩ : ∃ n', n = n' + 1 := ⟨n - 1, by omega⟩
  rw [hd] at e ho
  rw [pxK_none hc ho] at e
  exact e.symm
theorem PxR.single (h : PxR L R p acc) (hd : L.drop p = c :: t) (hc : c ≠ 93) (ho : onK (L.drop p) = (some lo, k)) (hm : (L.drop (p + k)).head? ≠ some 45) (hk : 0 < k) : PxR L R (p + k) fun i => acc i || rgK lo.toNat (lo.toNat + 1) i := by
  obtain ⟨n, hn, e⟩ := h
  obtain ⟨n, rfl⟩ : ∃ n', n = n' + 1 := ⟨n - 1, by omega⟩
  rw [← List.drop_drop, hd] at hm
  rw [hd] at e ho
  rw [pxK_single hc ho hm] at e
  refine ⟨n, ?_, ?_⟩
  · rw [← List.drop_drop, hd, List.length_drop]; rw [hd] at hn; simp only [List.length_cons] at hn ⊢; omega
  · rw [rg_union, ← List.drop_drop, hd]; exact e
theorem PxR.none2 (h : PxR L R p acc) (hd : L.drop p = c :: t) (hc : c ≠ 93) (ho : onK (L.drop p) = (some lo, k)) (hm : (L.drop (p + k)).head? = some 45) (h2 : onK (L.drop (p + k + 1)) = (.none, k2)) : R = (fun _ => false, p + k + 1 + k2, 6) := by
  obtain ⟨n, hn, e⟩ := h
  obtain ⟨n, rfl⟩ : ∃ n', n = n' + 1 := ⟨n - 1, by omega⟩
  rw [← List.drop_drop, hd] at hm
  rw [show p + k + 1 = p + (k + 1) by omega, ← List.drop_drop, hd] at h2
  rw [hd] at e ho
  rw [pxK_none2 hc ho hm h2] at e
  exact e.symm
theorem PxR.bad (h : PxR L R p acc) (hd : L.drop p = c :: t) (hc : c ≠ 93) (ho : onK (L.drop p) = (some lo, k)) (hm : (L.drop (p + k)).head? = some 45) (h2 : onK (L.drop (p + k + 1)) = (some hi, k2)) (hl : hi.toNat < lo.toNat) : R = (fun _ => false, p + k + 1, 6) := by
  obtain ⟨n, hn, e⟩ := h
  obtain ⟨n, rfl⟩ : ∃ n', n = n' + 1 := ⟨n - 1, by omega⟩
  rw [← List.drop_drop, hd] at hm
  rw [show p + k + 1 = p + (k + 1) by omega, ← List.drop_drop, hd] at h2
  rw [hd] at e ho
  rw [pxK_pair hc ho hm h2, if_pos hl] at e
  exact e.symm
theorem PxR.pair (h : PxR L R p acc) (hd : L.drop p = c :: t) (hc : c ≠ 93) (ho : onK (L.drop p) = (some lo, k)) (hm : (L.drop (p + k)).head? = some 45) (h2 : onK (L.drop (p + k + 1)) = (some hi, k2)) (hl : ¬ hi.toNat < lo.toNat) : PxR L R (p + k + 1 + k2) fun i => acc i || rgK lo.toNat (hi.toNat + 1) i := by
  obtain ⟨n, hn, e⟩ := h
  obtain ⟨n, rfl⟩ : ∃ n', n = n' + 1 := ⟨n - 1, by omega⟩
  rw [← List.drop_drop, hd] at hm
  rw [show p + k + 1 = p + (k + 1) by omega, ← List.drop_drop, hd] at h2
  rw [hd] at e ho
  rw [pxK_pair hc ho hm h2, if_neg hl] at e
  refine ⟨n, ?_, ?_⟩
  · rw [show p + k + 1 + k2 = p + (k + 1 + k2) by omega, ← List.drop_drop, hd, List.length_drop]; rw [hd] at hn; simp only [List.length_cons] at hn ⊢; omega
  · rw [rg_union, show p + k + 1 + k2 = p + (k + 1 + k2) by omega, ← List.drop_drop, hd]
    rw [show p + (k + 1 + k2) = p + k + 1 + k2 by omega]
    exact e
end
end Go.Proofs.YtfleamgncodkpaaDoor
