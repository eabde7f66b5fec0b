/- What Parse wants of the world, kept; the length of what it returns. -/
import Derived.Test.YtoogemdcmnjpnaaDoorS23
namespace Go.Proofs.YtoogemdcmnjpnaaDoor
open Go.RowKit
/-- the variable that strings.Index reads holds a number -/
def ML (w : World) : Prop := ∃ m, w.cell? ⟨1, 0, none⟩ = some (.int .i64 m)
theorem ML.below {w w' : World} (h : ML w) (hb : Below w.heap.size w w') : ML w' := by
  obtain ⟨m, hm⟩ := h
  refine ⟨m, (hb.cell ?_).trans hm⟩
  rcases Nat.lt_or_ge 1 w.heap.size with hlt | hge
  · exact hlt
  · unfold World.cell? at hm
    simp [Array.getElem?_eq_none hge] at hm
theorem ml_of {w : World} (h : w.ShapedOpen Tryd.prog) : ML w := Tryd.laysM146.s1_3 w h
theorem sparseM (s : ByteArray) (w : World) (hsz : s.size ≤ 1000000) (hE : Esc w) (hm : ML w) :
    Calls Tryd.prog 35 #[.string s] w (RetS3 w (parse s)) := by
  obtain ⟨m, hm⟩ := hm
  exact sparse s w hsz hE hm
theorem pgo_len : ∀ (L : List ByteArray) (i : Nat) (acc : List Sc), (pgo i acc L).1.length ≤ acc.length + L.length
  | [], _, _ => by simp [pgo]
  | t :: r, i, acc => by
    rw [pgo]
    split
    · have := pgo_len r (i + 1) (acc ++ [(lineR t).1])
      simp at this ⊢
      omega
    · simp
theorem parse_len (s : ByteArray) : (parse s).1.length ≤ 200 := by
  unfold parse
  split
  · simp
  · split
    · simp
    · have := pgo_len (lnsB s) 0 []
      simp at this
      omega
end Go.Proofs.YtoogemdcmnjpnaaDoor
