/- strings.Split at a byte; slices of strings. No condition. -/
import Derived.Test.YtljmidaapgppfaaDoorPt
import Derived.Test.YtljmidaapgppfaaDoorMl2
import Derived.Test.YtljmidaapgppfaaDoorOwn
namespace Go.Proofs.YtljmidaapgppfaaDoor
open Go.RowKit
abbrev Ssb (l : List ByteArray) : List Value := l.map Value.string
abbrev dat (s : ByteArray) : List UInt8 := s.data.toList
theorem sbAt {w : World} {B n k : Nat} {A : Option Addr} {l : List ByteArray} (h : Reads w B 1 A n (Ssb l)) (hn : n = l.length) (hk : k < l.length) :
    ∃ b off, A = some ⟨b, off, none⟩ ∧ b < B ∧ w.cell? ⟨b, off + k, none⟩ = some (.string l[k]) := by
  obtain ⟨b, off, e, hb, hc⟩ := h.2 (by omega)
  exact ⟨b, off, e, hb, hc k _ (by simp [hk])⟩
theorem splitP (d : UInt8) (D : ByteArray) (hD : Hid (D = ⟨#[d]⟩)) (s : ByteArray) (w : World) (hM : ML w) (hs : s.size ≤ 1000000) {L : List ByteArray} (hL : Hid (ptsB d s = L)) :
    Calls Tryd.prog 21 #[.string s, .string D] w fun e w' => (∃ A, e = .returned (.slice A L.length L.length) ∧ Reads w' w'.heap.size 1 A L.length (Ssb L)) ∧ Below w.heap.size w w' := by
  obtain ⟨m, hm⟩ := hM
  rw [hD.out]
  obtain ⟨h1, h2⟩ := splitB_pts d s
  refine (Tryd.strings_Split s ⟨#[d]⟩ m w (by omega) hm (by show 0 < 1; decide)).mono ?_
  rintro e w' ⟨rfl, rfl⟩
  rw [h1, h2, hL.out]
  refine ⟨⟨_, rfl, ?_⟩, ba (Below.refl _ _) _⟩
  exact reads_blkN (alloc1_new _ _) (by simp)
theorem ptsB_dat (d : UInt8) (s : ByteArray) : (ptsB d s).map dat = pts d [] s.data.toList := by
  unfold ptsB
  rw [List.map_map]
  conv => rhs; rw [← List.map_id (pts d [] s.data.toList)]
  apply List.map_congr_left
  intro a _
  exact mkB_dat a
theorem pts_sz (d : UInt8) : ∀ (l cur x : List UInt8), x ∈ pts d cur l → x.length ≤ cur.length + l.length
  | [], cur, x, h => by
    unfold pts at h
    rw [List.mem_singleton.1 h]; simp
  | c :: t, cur, x, h => by
    by_cases hc : c = d
    · subst hc
      rw [pts_hit] at h
      rcases List.mem_cons.1 h with rfl | h
      · simp
      · have := pts_sz c t [] x h
        simp at this ⊢; omega
    · rw [pts_other hc] at h
      have := pts_sz d t _ x h
      simp at this ⊢; omega
theorem ptsB_sz {d : UInt8} {s x : ByteArray} (h : x ∈ ptsB d s) : x.size ≤ s.size := by
  unfold ptsB at h
  obtain ⟨y, hy, rfl⟩ := List.mem_map.1 h
  have := pts_sz d _ _ _ hy
  have h1 : s.data.toList.length = s.size := rfl
  have e1 : (mkB y).size = y.length := by show y.toArray.size = _; simp
  rw [e1]; simp at this; omega
theorem ptsB_len (d : UInt8) (s : ByteArray) : (ptsB d s).length = (pts d [] s.data.toList).length := by unfold ptsB; rw [List.length_map]
end Go.Proofs.YtljmidaapgppfaaDoor
