/- strings.Builder: Reset; what else stands. -/
import Derived.Test.YtoogemdcmnjpnaaDoorBld
namespace Go.Proofs.YtoogemdcmnjpnaaDoor
open Go.RowKit
set_option maxHeartbeats 1000000 in
set_option maxRecDepth 100000 in
theorem reset_k (B b : Nat) (bs : List Value) (w : World) (h : Lib.IsBuilderF bT bE B b bs w) :
    Calls Tryd.prog 41 #[.pointer (some ⟨b, 0, none⟩)] w fun e w' => e = .returned (.tuple #[]) ∧ (Lib.IsBuilderF bT bE B b [] w' ∧ Below B w w' ∧ Lib.OthersKept bE (some b) w w') := by
  obtain ⟨p, hB, v, hbk, hown, hne⟩ : ∃ p, Lib.BuilderAtF bT bE B b p bs w := by
    rcases h with h | h
    · exact ⟨_, h⟩
    · exact ⟨_, h⟩
  have c0 : w.cell? ⟨b, 0, none⟩ = some p := by rw [Lib.cell_of_heap hbk]; rfl
  have c1 : w.cell? ⟨b, 1, none⟩ = some v := by rw [Lib.cell_of_heap hbk]; rfl
  have f0 : w.frozen? ⟨b, 0, none⟩ = false := Lib.frozen_of_heap hbk 0
  have f1 : w.frozen? ⟨b, 1, none⟩ = false := Lib.frozen_of_heap hbk 1
  have hw2 : ((w.setCell ⟨b, 0, none⟩ (.pointer none)).setCell ⟨b, 1, none⟩ (.slice none 0 0)).heap[b]? = some (.cells #[.pointer none, .slice none 0 0] bT (0, 0)) := by
    simp [World.setCell, Array.getElem?_modify, hbk]
  go_enter Tryd.func41, Tryd.ntmps41
  go_wp2
  go_end0
  refine ⟨rfl, .inl ⟨hB, .slice none 0 0, hw2, ?_, by simp [Value.ownBlock]⟩, ((Below.refl B w).setCell (p := ⟨b, 0, none⟩) hB _).setCell (p := ⟨b, 1, none⟩) hB _, ((Lib.OthersKept.refl _ _ w).setCell ⟨b, 0, none⟩ rfl _).setCell ⟨b, 1, none⟩ rfl _⟩
  exact ⟨rfl, .inl ⟨rfl, rfl⟩⟩
end Go.Proofs.YtoogemdcmnjpnaaDoor
