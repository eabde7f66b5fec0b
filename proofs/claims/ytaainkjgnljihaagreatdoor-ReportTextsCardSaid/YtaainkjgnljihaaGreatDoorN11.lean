/- words: the reference's Same. No condition. -/
import Derived.Test.YtaainkjgnljihaaGreatDoorN3
import Derived.Test.YtaainkjgnljihaaGreatDoorMem
import Derived.BigQuiet
namespace Go.Proofs.YtaainkjgnljihaaGreatDoor
open Go.RowKit
@[go_sem] theorem eqgFd : Tryz.prog.eqGuardType Tryz.prog.depth 80 = false := by kernel_rfl
@[go_sem] theorem eqFd (a c : ByteArray) (b d : Bool) (w : World) : (Op.equalIn 10000 80 (.agg #[.string a, .bool b]) (.agg #[.string c, .bool d])).run Tryz.prog w = .ok (decide ((a, b) = (c, d))) w := by
  have u3 := Tryz.underlying4
  have hS : Tryz.prog.underlying 80 = some (.struct (Tryz.prog.fieldsOf 80)) := by kernel_rfl
  rw [show (10000 : Nat) = 9999 + 1 from rfl, run_equalIn_agg w 9999 80 _ _ hS (by kernel_rfl)]
  simp only [Program.fieldsOf, Tryz.underlying80]
  go_simp
  have e := bytes_eq a c
  by_cases h1 : a = c <;> by_cases h2 : b = d <;> simp [h1, h2, e]
@[go_sem high] theorem neqFd (a c : ByteArray) (b d : Bool) (w : World) : (binOp .neq 80 (.agg #[.string a, .bool b]) (.agg #[.string c, .bool d])).run Tryz.prog w = .ok (.bool (!(decide ((a, b) = (c, d))))) w := by
  rw [run_neq_struct, eqFd]; rfl
theorem fdAt {w : World} {B k : Nat} {A : Option Addr} {l : List Fd} (h : Reads w B 2 A l.length (fds l)) (hk : k < l.length) :
    ∃ b off F q, A = some ⟨b, off, none⟩ ∧ b < B ∧ w.cell? ⟨b, off + k * 2, none⟩ = some (.string F) ∧ w.cell? ⟨b, off + k * 2 + 1, none⟩ = some (.bool q) ∧ Hid (l.drop k = (F.data.toList, q) :: l.drop (k + 1)) := by
  obtain ⟨b, off, e, hb, c1, c2⟩ := h.at2 rfl hk
  refine ⟨b, off, _, _, e, hb, c1, c2, Lib.hid ?_⟩
  rw [List.drop_eq_getElem_cons hk]
theorem fd_same {F G : ByteArray} {q p : Bool} (h : (F, q) = (G, p)) : ((F.data.toList, q) : Fd) = (G.data.toList, p) := by injection h with h1 h2; rw [h1, h2]
theorem fd_diff {F G : ByteArray} {q p : Bool} (h : (F, q) ≠ (G, p)) : ((F.data.toList, q) : Fd) ≠ (G.data.toList, p) := by
  intro e
  injection e with e1 e2
  refine h ?_
  rw [ByteArray.ext (Array.toList_inj.1 e1), e2]
end Go.Proofs.YtaainkjgnljihaaGreatDoor
