/- Regions compared; the cells that both layouts need; the search of the reference. -/
import Derived.Test.YtljmidaapgppfaaDoorC5
import Derived.Test.YtljmidaapgppfaaDoorCmp
namespace Go.Proofs.YtljmidaapgppfaaDoor
open Go.RowKit
@[go_sem] theorem eqgRg : Tryd.prog.eqGuardType Tryd.prog.depth 40 = false := by kernel_rfl
@[go_sem] theorem eqRg (a c : ByteArray) (b d z f : Int) (w : World) : (Op.equalIn 10000 40 (.agg #[.string a, .int .i64 b, .int .i64 z]) (.agg #[.string c, .int .i64 d, .int .i64 f])).run Tryd.prog w = .ok (decide (((a, b, z) : Rg) = (c, d, f))) w := by
  have u3 := Tryd.underlying3
  have hS : Tryd.prog.underlying 40 = some (.struct (Tryd.prog.fieldsOf 40)) := by kernel_rfl
  rw [show (10000 : Nat) = 9999 + 1 from rfl, run_equalIn_agg w 9999 40 _ _ hS (by kernel_rfl)]
  simp only [Program.fieldsOf, Tryd.underlying40]
  go_simp
  have e := bytes_eq a c
  by_cases h1 : a = c <;> by_cases h2 : b = d <;> by_cases h3 : z = f <;> simp [h1, h2, h3, e]
@[go_sem high] theorem neqRg (a c : ByteArray) (b d e f : Int) (w : World) : (binOp .neq 40 (.agg #[.string a, .int .i64 b, .int .i64 e]) (.agg #[.string c, .int .i64 d, .int .i64 f])).run Tryd.prog w = .ok (.bool (!(decide (((a, b, e) : Rg) = (c, d, f))))) w := by
  rw [run_neq_struct, eqRg]; rfl
@[go_sem high] theorem eqlRg (a c : ByteArray) (b d e f : Int) (w : World) : (binOp .eql 40 (.agg #[.string a, .int .i64 b, .int .i64 e]) (.agg #[.string c, .int .i64 d, .int .i64 f])).run Tryd.prog w = .ok (.bool (decide (((a, b, e) : Rg) = (c, d, f)))) w := by
  rw [run_eql_struct, eqRg]; rfl
theorem rgAt {w : World} {B k : Nat} {A : Option Addr} {l : List Rg} (h : Reads w B 3 A l.length (rgs l)) (hk : k < l.length) :
    ∃ b off s B' S, A = some ⟨b, off, none⟩ ∧ b < B ∧ w.cell? ⟨b, off + k * 3, none⟩ = some (.string s) ∧ w.cell? ⟨b, off + k * 3 + 1, none⟩ = some (.int .i64 B') ∧ w.cell? ⟨b, off + k * 3 + 2, none⟩ = some (.int .i64 S) ∧
      Hid (l.drop k = (s, B', S) :: l.drop (k + 1)) := by
  obtain ⟨b, off, e, hb, c1, c2, c3⟩ := h.at3 rfl hk
  exact ⟨b, off, _, _, _, e, hb, c1, c2, c3, List.drop_eq_getElem_cons hk⟩
instance (b k l s r : Int) : Decidable (Ok2 b k l s r) := decidable_of_iff (OkC b k l ∧ OkS s r) ⟨fun h => ⟨h.1, h.2⟩, fun h => ⟨h.c, h.s⟩⟩
/-- the regions where there are any -/
def layL (b k l s r : Int) : List Rg := if Ok2 b k l s r then lay s r (k + b * r) else []
theorem layL_yes {b k l s r : Int} (h : Ok2 b k l s r) : layL b k l s r = lay s r (k + b * r) := if_pos h
theorem layL_no {b k l s r : Int} (h : ¬ Ok2 b k l s r) : layL b k l s r = [] := if_neg h
theorem layout_any (b k l s r : Int) (w : World) : Calls Tryd.prog 10 #[cfV b k l, csV s r] w (RetSl w 3 (rgs (layL b k l s r)) (layL b k l s r).length (err2 b k l s r)) := by
  by_cases h : Ok2 b k l s r
  · rw [layL_yes h, err2_yes h]; exact layout_yes b k l s r h w
  · rw [layL_no h, err2_no h]; exact layout_no b k l s r h w
end Go.Proofs.YtljmidaapgppfaaDoor
