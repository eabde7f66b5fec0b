/- Configurations: the checks, the plan, the layout, of the program and of its reference. -/
import Derived.Test.YtmpdgckccgbdnaaDoorFr
namespace Go.Proofs.YtmpdgckccgbdnaaDoor
open Go.RowKit
def OkC (b k l : Int) : Prop := (b = 1 ∨ b = 2 ∨ b = 4 ∨ b = 8 ∨ b = 16) ∧ 1 ≤ k ∧ k ≤ 32 ∧ 0 ≤ l ∧ l ≤ 1000000
def OkS (s r : Int) : Prop := 1 ≤ s ∧ s ≤ 4 ∧ 1 ≤ r ∧ r ≤ 16
instance (b k l : Int) : Decidable (OkC b k l) := by unfold OkC; infer_instance
instance (s r : Int) : Decidable (OkS s r) := by unfold OkS; infer_instance
def errC (b k l : Int) : Int := if OkC b k l then 0 else 7
def errS (s r : Int) : Int := if OkS s r then 0 else 7
def err2 (b k l s r : Int) : Int := if errC b k l = 0 then errS s r else errC b k l
abbrev cfV (b k l : Int) : Value := .agg #[.int .i64 b, .int .i64 k, .int .i64 l]
abbrev csV (s r : Int) : Value := .agg #[.int .i64 s, .int .i64 r]
theorem errC_no {b k l : Int} (h : ¬ OkC b k l) : errC b k l = 7 := if_neg h
theorem errC_yes {b k l : Int} (h : OkC b k l) : errC b k l = 0 := if_pos h
theorem errS_no {s r : Int} (h : ¬ OkS s r) : errS s r = 7 := if_neg h
theorem errS_yes {s r : Int} (h : OkS s r) : errS s r = 0 := if_pos h
set_option maxRecDepth 100000 in
set_option maxHeartbeats 1000000 in
theorem ccheck (b k l : Int) (w : World) :
    Calls Tryd.prog 23 #[cfV b k l] w fun e w' => e = .returned (.int .i64 (errC b k l)) ∧ Below w.heap.size w w' := by
  go_enter Tryd.func23, Tryd.ntmps23
  go_wp2
  all_goals
    go_ret
    go_light
    simp only [beq_iff_eq, beq_eq_false_iff_ne, ne_eq] at *
    exact ⟨ret_int (by first | rw [errC_yes (by unfold OkC; omega)] | rw [errC_no (by unfold OkC; omega)]), ba (Below.refl _ _) _⟩
set_option maxRecDepth 100000 in
set_option maxHeartbeats 1000000 in
theorem cshape (s r : Int) (w : World) :
    Calls Tryd.prog 24 #[csV s r] w fun e w' => e = .returned (.int .i64 (errS s r)) ∧ Below w.heap.size w w' := by
  go_enter Tryd.func24, Tryd.ntmps24
  go_wp2
  all_goals
    go_ret
    go_light
    exact ⟨ret_int (by first | rw [errS_yes (by unfold OkS; omega)] | rw [errS_no (by unfold OkS; omega)]), ba (Below.refl _ _) _⟩
/-- both stand -/
structure Ok2 (b k l s r : Int) : Prop where
  c : OkC b k l
  s : OkS s r
theorem err2_yes {b k l s r : Int} (h : Ok2 b k l s r) : err2 b k l s r = 0 := by unfold err2; rw [errC_yes h.c, if_pos rfl, errS_yes h.s]
theorem err2_no {b k l s r : Int} (h : ¬ Ok2 b k l s r) : err2 b k l s r = 7 := by
  unfold err2
  by_cases hc : OkC b k l
  · rw [errC_yes hc, if_pos rfl, errS_no fun hs => h ⟨hc, hs⟩]
  · rw [errC_no hc, if_neg (by decide)]
end Go.Proofs.YtmpdgckccgbdnaaDoor
