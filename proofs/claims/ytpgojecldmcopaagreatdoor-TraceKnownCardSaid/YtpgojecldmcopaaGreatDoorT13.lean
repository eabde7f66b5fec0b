/- Traces: steps that ascend: plain words, the step behind a run. No condition. -/
import Derived.Test.YtpgojecldmcopaaGreatDoorT1
import Derived.Test.YtpgojecldmcopaaGreatDoorRnd
namespace Go.Proofs.YtpgojecldmcopaaGreatDoor
open Go.RowKit
/-- how many steps go on behind (K, a) -/
def runL (K : Int) (a : Int) : List Ev → Nat
  | [] => 0
  | y :: t => if y = (K, a + 1) then runL K (a + 1) t + 1 else 0
theorem runL_cons (K a : Int) (y : Ev) (t : List Ev) : runL K a (y :: t) = if y = (K, a + 1) then runL K (a + 1) t + 1 else 0 := rfl
theorem runL_le (K a : Int) (l : List Ev) : runL K a l ≤ l.length := by
  induction l generalizing a with
  | nil => exact Nat.le_refl _
  | cons y t ih =>
    unfold runL
    split
    · have := ih (a + 1); simp; omega
    · omega
/-- the runs of a trace -/
def runsF : Nat → List Ev → List (Ev × Nat)
  | 0, _ => []
  | _ + 1, [] => []
  | n + 1, x :: t => (x, runL x.1 x.2 t + 1) :: runsF n (t.drop (runL x.1 x.2 t))
def runsT (l : List Ev) : List (Ev × Nat) := runsF l.length l
theorem runsF_more (l : List Ev) : ∀ n, l.length ≤ n → runsF n l = runsT l := by
  have key : ∀ (m n k : Nat) (l : List Ev), l.length ≤ m → m ≤ n → m ≤ k → runsF n l = runsF k l := by
    intro m
    induction m with
    | zero =>
      intro n k l h _ _
      obtain rfl := List.eq_nil_of_length_eq_zero (by omega : l.length = 0)
      cases n <;> cases k <;> rfl
    | succ m ih =>
      intro n k l h hn hk
      obtain ⟨n, rfl⟩ : ∃ n', n = n' + 1 := ⟨n - 1, by omega⟩
      obtain ⟨k, rfl⟩ : ∃ k', k = k' + 1 := ⟨k - 1, by omega⟩
      cases l with
      | nil => rfl
      | cons x t =>
        unfold runsF
        rw [ih n k _ (by rw [List.length_drop]; simp at h; omega) (by omega) (by omega)]
  intro n hn
  exact key l.length n l.length l (Nat.le_refl _) hn (Nat.le_refl _)
theorem runsT_cons (x : Ev) (t : List Ev) : runsT (x :: t) = (x, runL x.1 x.2 t + 1) :: runsT (t.drop (runL x.1 x.2 t)) := by
  show runsF (t.length + 1) (x :: t) = _
  unfold runsF
  rw [runsF_more _ _ (by rw [List.length_drop]; omega)]
theorem runsT_nil : runsT [] = [] := rfl
theorem runsT_len (l : List Ev) : (runsT l).length ≤ l.length := by
  have : ∀ n (l : List Ev), l.length ≤ n → (runsT l).length ≤ l.length := by
    intro n
    induction n with
    | zero => intro l h; obtain rfl := List.eq_nil_of_length_eq_zero (by omega : l.length = 0); exact Nat.le_refl _
    | succ n ih =>
      intro l h
      cases l with
      | nil => exact Nat.le_refl _
      | cons x t =>
        rw [runsT_cons]
        have := ih (t.drop (runL x.1 x.2 t)) (by rw [List.length_drop]; simp at h; omega)
        rw [List.length_drop] at this
        simp; omega
  exact this _ l (Nat.le_refl _)
/-- a run of m steps from the n-th one on: so far each is the next of the one before it -/
def RunTo (l : List Ev) (n m : Nat) (K a : Int) : Prop := 1 ≤ m ∧ n + m ≤ l.length ∧ ∃ t, l.drop n = (K, a) :: t ∧ runL K a t = m - 1 + runL K (a + ((m - 1 : Nat) : Int)) (t.drop (m - 1))
theorem RunTo.start {l : List Ev} {n : Nat} {K a : Int} (hd : Hid (l.drop n = (K, a) :: l.drop (n + 1))) : RunTo l n 1 K a := by
  have := congrArg List.length hd.out
  simp at this
  exact ⟨Nat.le_refl _, by omega, _, hd.out, by simp⟩
theorem RunTo.step {l : List Ev} {n m : Nat} {K a : Int} {y : Ev} (h : RunTo l n m K a) (hd : Hid (l.drop (n + m) = y :: l.drop (n + m + 1))) (e : y = (K, a + m)) : RunTo l n (m + 1) K a := by
  obtain ⟨h1, h2, t, ht, hr⟩ := h
  have hlen := congrArg List.length hd.out
  simp at hlen
  have hdt : t.drop (m - 1) = y :: t.drop m := by
    have e1 : (l.drop n).drop m = y :: (l.drop n).drop (m + 1) := by rw [List.drop_drop, List.drop_drop]; exact hd.out
    rw [ht] at e1
    obtain ⟨q, rfl⟩ : ∃ q, m = q + 1 := ⟨m - 1, by omega⟩
    simpa using e1
  refine ⟨by omega, by omega, t, ht, ?_⟩
  rw [hr, hdt, runL_cons]
  have ea : a + ((m - 1 : Nat) : Int) + 1 = a + (m : Int) := by omega
  rw [ea, if_pos e]
  simp only [Nat.add_sub_cancel]
  omega
theorem RunTo.stop {l : List Ev} {n m : Nat} {K a : Int} (h : RunTo l n m K a) (hs : n + m = l.length ∨ ∃ y, Hid (l.drop (n + m) = y :: l.drop (n + m + 1)) ∧ y ≠ (K, a + m)) :
    runsT (l.drop n) = ((K, a), m) :: runsT (l.drop (n + m)) := by
  obtain ⟨h1, h2, t, ht, hr⟩ := h
  have hz : runL K (a + ((m - 1 : Nat) : Int)) (t.drop (m - 1)) = 0 := by
    have hdt : t.drop (m - 1) = l.drop (n + m) := by
      have e1 : (l.drop n).drop m = l.drop (n + m) := by rw [List.drop_drop]
      rw [ht] at e1
      obtain ⟨q, rfl⟩ : ∃ q, m = q + 1 := ⟨m - 1, by omega⟩
      simpa using e1
    rw [hdt]
    rcases hs with hs | ⟨y, hd, hy⟩
    · rw [List.drop_eq_nil_of_le (by omega)]; rfl
    · rw [hd.out, runL_cons]
      have ea : a + ((m - 1 : Nat) : Int) + 1 = a + (m : Int) := by omega
      rw [ea, if_neg hy]
  rw [ht, runsT_cons]
  simp only
  rw [hr, hz]
  have e2 : m - 1 + 0 + 1 = m := by omega
  have e3 : t.drop (m - 1 + 0) = l.drop (n + m) := by
    have e1 : (l.drop n).drop m = l.drop (n + m) := by rw [List.drop_drop]
    rw [ht] at e1
    obtain ⟨q, rfl⟩ : ∃ q, m = q + 1 := ⟨m - 1, by omega⟩
    simpa using e1
  rw [e2, e3]
abbrev runV (K a : Int) (m : Nat) : Value := .agg #[.int .i32 K, .int .i32 a, .int .i64 (m : Int)]
abbrev runO (K a : Int) (m : Nat) : Obj := .cells #[.int .i32 K, .int .i32 a, .int .i64 (m : Int)] 56 (0, 0)
set_option maxRecDepth 100000 in
theorem next_ (K a : Int) (m : Nat) (h0 : 0 ≤ a) (h1 : a + m ≤ 2147483647) (w : World) :
    Calls Tryz.prog 33 #[runV K a m] w fun e w' => e = .returned (.agg #[.int .i32 K, .int .i32 (a + m)]) ∧ Below w.heap.size w w' := by
  have hm : IntKind.i32.wrap (m : Int) = m := by simp [IntKind.wrap, IntKind.bits, IntKind.signed]; omega
  have ha : IntKind.i32.wrap (a + m) = a + m := by simp [IntKind.wrap, IntKind.bits, IntKind.signed]; omega
  go_enter Tryz.func33, Tryz.ntmps33
  go_wp2
  have o0 : ((w.alloc (runO K a m)).alloc (.cells #[.int .i32 K, .int .i32 (a + m)] 39 (0, 0))).cell? ⟨w.heap.size + 1, 0, none⟩ = some (.int .i32 K) := Lib.cell_of_heap (alloc2_new _ _ _) 0
  have o1 : ((w.alloc (runO K a m)).alloc (.cells #[.int .i32 K, .int .i32 (a + m)] 39 (0, 0))).cell? ⟨w.heap.size + 1, 1, none⟩ = some (.int .i32 (a + m)) := Lib.cell_of_heap (alloc2_new _ _ _) 1
  refine bodyPost_ret (v := .agg #[.int .i32 K, .int .i32 (a + m)]) (by simp [results, go_sem, o0, o1]) rfl ⟨rfl, ba (ba (Below.refl _ _) _) _⟩
abbrev kindV : Value := .agg #[.string ⟨#[]⟩, .string ⟨#[108, 111, 97, 100]⟩, .string ⟨#[115, 116, 111, 114, 101]⟩]
set_option maxRecDepth 100000 in
theorem kinds_ (w : World) : Calls Tryz.prog 22 #[] w fun e w' => e = .returned kindV ∧ Below w.heap.size w w' := by
  go_enter Tryz.func22, Tryz.ntmps22
  go_wp2
  have hc : ∀ i, (w.alloc (.cells #[.string ⟨#[]⟩, .string ⟨#[108, 111, 97, 100]⟩, .string ⟨#[115, 116, 111, 114, 101]⟩] 61 (0, 0))).cell? ⟨w.heap.size, i, none⟩ = _ := fun i => Lib.cell_of_heap (alloc1_new _ _) i
  refine bodyPost_ret (v := kindV) (by simp [results, go_sem, hc 0, hc 1, hc 2]) rfl ⟨rfl, ba (Below.refl _ _) _⟩
end Go.Proofs.YtpgojecldmcopaaGreatDoor
