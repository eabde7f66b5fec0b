/- The table of trailing zeros that lies laid when the call begins; rows of words that come in. -/
import Derived.Test.YtaogplmcabbikaaGreatDoorB22
import Derived.Test.YtaogplmcabbikaaGreatDoorOpenInts
import Derived.Lib.TrailingZeros
namespace Go.Proofs.YtaogplmcabbikaaGreatDoor
open Go.ChangeShapes Go.WideShapes Go.ChangeAt Go.RowKit Go.Deep Go.Joins
/-- the table of trailing zeros is as laid -/
def Tzt (w : World) : Prop := ∀ j, j < 64 → w.cell? ⟨0, j, none⟩ = some (.int .u8 ((Lib.deBruijn64tab.getD j 0 : Nat) : Int))
theorem Tzt.of16 {w : World} (h : Tzt w) : Tz16 w := by
  have := h 15 (by decide)
  rw [show Lib.deBruijn64tab.getD 15 0 = 4 by decide +kernel] at this
  exact this
theorem Tzt.below {w w' : World} (h : Tzt w) (hb : Below w.heap.size w w') : Tzt w' := fun j hj => (hb.cell (p := ⟨0, j, none⟩) (World.block_lt_of_cell? _ _ (h j hj))).trans (h j hj)
theorem tztType : (Tryz.prog.globals[0]?).map (·.type) = some 101 := by kernel_rfl
theorem tzt_global : Tryz.prog.globalNamed "math/bits.deBruijn64tab" = some 0 := by kernel_rfl
set_option maxRecDepth 100000 in
theorem tzt_of {l : List (String × DataW Unit)} {W : World} (h : laidMet Tryz.prog l W) (hm : ("math/bits.deBruijn64tab", Rows.laid_math_bits_deBruijn64tab) ∈ l) : Tzt W := by
  obtain ⟨ps, hv, _, _⟩ := h
  obtain ⟨g, t, cs, fuel, p, hg, ht, hvar, htr⟩ := laidVars_mem hv hm
  obtain rfl := Option.some.inj (tzt_global.symm.trans hg)
  obtain rfl := Option.some.inj (tztType.symm.trans ht)
  have hc := Lib.cells_of_tab (zs := Lib.deBruijn64tab.map Int.ofNat) (k := .u8) Tryz.underlying101 Tryz.underlying5 (by kernel_rfl) (by kernel_rfl) htr
  intro j hj
  have hcs : cs = (Lib.deBruijn64tab.map (fun n : Nat => Value.int .u8 (n : Int))).toArray := by
    apply Array.toList_inj.1
    rw [hc, List.map_map]
    rfl
  unfold World.var? at hvar
  simp only [tzt_global, Option.bind_some] at hvar
  unfold World.cell?
  have hlen : j < Lib.deBruijn64tab.length := by rw [show Lib.deBruijn64tab.length = 64 by decide +kernel]; exact hj
  rcases hh : W.heap[0]? with _ | o
  · rw [hh] at hvar; cases hvar
  · rw [hh] at hvar
    cases o with
    | cells a b c =>
      simp only [Option.some.injEq] at hvar
      subst hvar
      rw [hcs]
      simp [hlen]
    | _ => cases hvar
/-- words that come in -/
theorem nats_of {L : List Int} (hx : ∀ x ∈ L, 0 ≤ x ∧ x ≤ 18446744073709551615) : ∃ l : List Nat, L.map (Value.int .u64) = u64s l ∧ W64 l ∧ l.length = L.length := by
  refine ⟨L.map Int.toNat, ?_, ?_, by simp⟩
  · rw [u64s, List.map_map]
    refine List.map_congr_left fun x hxm => ?_
    have := hx x hxm
    show Value.int .u64 x = .int .u64 ((x.toNat : Nat) : Int)
    rw [Int.toNat_of_nonneg this.1]
  · intro y hy
    obtain ⟨x, hxm, rfl⟩ := List.mem_map.1 hy
    have := hx x hxm
    omega
end Go.Proofs.YtaogplmcabbikaaGreatDoor
