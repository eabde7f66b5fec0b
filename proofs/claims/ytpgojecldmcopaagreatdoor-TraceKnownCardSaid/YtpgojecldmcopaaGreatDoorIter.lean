/- A range over an iterator that writes blocks of its own between two rounds. No condition. -/
import Derived.Test.YtpgojecldmcopaaGreatDoorMem
import Derived.RangeFuncWrites
namespace Go.Proofs.YtpgojecldmcopaaGreatDoor
open Go.RowKit
/-- an iterator's promise, called in W: between two rounds it makes steps Rl; a round keeps Kp -/
def SeqRel {α : Type} (F : Fence) (n : Nat) (P : Program) (g : Nat) (lb : Array Value) (encs : α → Array Value) (Kp Rl : World → World → Prop) (S Sp : List α → Prop) (N : Nat) (W : World) : Prop :=
  ∀ (l : Nat) (J Jx : List α → World → Prop), (∀ s A B, J s A → Rl A B → J s B) → (∀ s A B, Jx s A → Rl A B → Jx s B) →
    (∀ pre x W1, J pre W1 → pre.length < N → YieldAt F (n - 1) P l (encs x) W1 fun e W' => (e = .returned (.bool true) ∧ J (pre ++ [x]) W' ∧ Kp W1 W') ∨ (e = .returned (.bool false) ∧ Jx (pre ++ [x]) W')) →
    J [] W → CallsIn F n P g (#[.func (.yield l) #[] #[]] ++ lb) W fun e W' => (∃ v, e = .returned v) ∧ ((∃ xs, S xs ∧ J xs W') ∨ (∃ pre, Sp pre ∧ Jx pre W'))
section
variable {F : Fence} {n : Nat} {P : Program}
theorem wpIn_range_rel {α : Type} {g : Operand} {ps : Array Tmp} {assign body : Code} {Q : Exit → Act → World → Prop} {a : Act} {w : World}
    (hro : F.round = none) (h1 : 1 ≤ n) {gf : Nat} {lb : Array Value} (hg : a.eval g = .func (.func gf) #[] lb) (hFg : F.fn gf) (eg : ∀ args w, (callFunc gf args).run P w = .ok (.enter gf args) w)
    {encs : α → Array Value} {Kp Rl : World → World → Prop} {S Sp : List α → Prop} {N : Nat}
    (hseq : ∀ W1, W1.heap.size = w.heap.size + 2 → Below w.heap.size w W1 → SeqRel F (n - 1) P gf lb encs Kp Rl S Sp N W1)
    (hRk : ∀ A B, Rl A B → KeepsFrom w.heap.size A B)
    (hKt : ∀ {A B C : World}, Kp A B → Kp B C → Kp A C) (hKb : ∀ (W : World) (l : Nat) (o o' : Obj), w.heap.size ≤ l → W.heap[l]? = some o → o.isCells = false → o.isWalk = false → Kp W (W.putObj l o')) (hps : ∀ x, (encs x).size = ps.size)
    (I : List α → World → Prop) (Ix : Code → List α → World → Prop) (hI : OwnFrom w.heap.size I) (hIx : ∀ c, OwnFrom w.heap.size (Ix c))
    (hIr : ∀ s A B, I s A → Rl A B → I s B) (hIxr : ∀ c s A B, Ix c s A → Rl A B → Ix c s B) (h0 : I [] w) (a₁ : α → World → Act) (w₁ : α → World → World) (I1 : List α → α → Act → World → Prop)
    (hw₁ : ∀ pre x W, I pre W → KeepsFrom w.heap.size W (w₁ x W) ∧ Kp W (w₁ x W)) (hI1 : ∀ pre x W, I pre W → I1 pre x (a₁ x W) (w₁ x W)) (hI1o : ∀ x a, OwnFrom w.heap.size (fun pre W => I1 pre x a W))
    (hassign : ∀ (l : Nat) (x : α) (W : World) (K : Act → World → Prop), K (a₁ x W) (w₁ x W) →
      assign.wpIn (F.inRound l) (n - 1 - 1) P (Exit.then K (fun _ _ _ => False)) { tmps := (ps.zip (encs x)).foldl (fun t (p, v) => t.setIfInBounds p v) a.tmps, defers := [] } W)
    (hbody : ∀ (l : Nat) (pre : List α) (x : α) (a : Act) (W : World), I1 pre x a W → pre.length < N → body.wpIn (F.inRound l) (n - 1 - 1) P (ownPostG w.heap.size Kp I Ix (pre ++ [x]) W) a W)
    (hdone : ∀ (D : Nat) (xs : List α) (W : World), w.heap.size ≤ D → S xs → I xs W → W.heap[D]? = some (.deferred (some [])) → Q .normal { a with defers := { target := .collected D, args := #[] } :: a.defers } W)
    (hstop : ∀ (D : Nat) (c : Code) (pre : List α) (W : World), w.heap.size ≤ D → Sp pre → Ix c pre W → W.heap[D]? = some (.deferred (some [])) → c.wpIn F n P Q { a with defers := { target := .collected D, args := #[] } :: a.defers } W) :
    (Code.rangeFunc g ps assign body).wpIn F n P Q a w := by
  refine wpIn_rangeFunc fun fn hfn => ?_
  rw [hro]
  -- the record of the loop and the block of the rounds' deferred calls
  let R : LoopState → Option Code → Obj := fun st pe => .loop { state := st, pending := pe, fn, tmps := a.tmps, params := ps, assign, body, defers := w.heap.size }
  have hR : ∀ st pe, R st pe = .loop { state := st, pending := pe, fn, tmps := a.tmps, params := ps, assign, body, defers := w.heap.size } := fun _ _ => rfl
  let Bk : LoopState → Option Code → World → Prop := fun st pe W => W.heap[w.heap.size + 1]? = some (R st pe) ∧ W.heap[w.heap.size]? = some (.deferred (some []))
  have hBk : ∀ st pe A B, Bk st pe A → KeepsFrom w.heap.size A B → Bk st pe B := fun st pe A B h k => ⟨k.same _ _ (by omega) h.1 rfl, k.same _ _ (Nat.le_refl _) h.2 rfl⟩
  have hput : ∀ st pe st' pe' A, Bk st pe A → Bk st' pe' (A.putObj (w.heap.size + 1) (R st' pe')) := fun st pe st' pe' A h =>
    ⟨World.putObj_heap_same (heap_lt h.1), (World.putObj_heap_other (by omega)).trans h.2⟩
  have hIput : ∀ st pe st' pe' s A, Bk st pe A → I s A → I s (A.putObj (w.heap.size + 1) (R st' pe')) := fun st pe st' pe' s A h hi => hI.putObj _ hi (by omega) h.1 rfl
  have hIxput : ∀ st pe st' pe' c s A, Bk st pe A → Ix c s A → Ix c s (A.putObj (w.heap.size + 1) (R st' pe')) := fun st pe st' pe' c s A h hi => (hIx c).putObj _ hi (by omega) h.1 rfl
  have hKput : ∀ st pe st' pe' A, Bk st pe A → Kp A (A.putObj (w.heap.size + 1) (R st' pe')) := fun st pe st' pe' A h => hKb _ _ _ _ (by omega) h.1 rfl rfl
  obtain ⟨W1, hW1⟩ : ∃ W1, W1 = (w.alloc (.deferred (some []))).alloc (R .ready none) := ⟨_, rfl⟩
  have hbk1 : Bk .ready none W1 := by
    rw [hW1]
    refine ⟨?_, (Go.RowKit.Below.heap_alloc _ _ _ (by simp)).trans (alloc1_new w _)⟩
    have := alloc1_new (w.alloc (.deferred (some []))) (R .ready none)
    rwa [World.size_alloc] at this
  have hi1 : I [] W1 := by rw [hW1]; exact hI.alloc _ (hI.alloc _ h0)
  have hb1 : Go.RowKit.Below w.heap.size w W1 := by rw [hW1]; exact ba (ba (Go.RowKit.Below.refl _ _) _) _
  have hs1 : W1.heap.size = w.heap.size + 2 := by rw [hW1]; simp
  refine ⟨w.heap.size + 1, [{ target := .collected w.heap.size, args := #[] }], W1, { target := .fn (.func gf) lb, args := #[.func (.yield (w.heap.size + 1)) #[] #[]] }, W1, gf, #[.func (.yield (w.heap.size + 1)) #[] #[]] ++ lb, W1, ?_, ?_, ?_, ?_, fun _ => h1, ?_⟩
  · rw [hW1]; exact run_enterLoop_outer _ _ _ _ _
  · simp only [resolve, hg]; simp [go_sem]
  · intro f' hf'; simp [Target.leads] at hf'; subst hf'; exact hFg
  · simp [invoke, go_sem, eg]
  refine (hseq W1 hs1 hb1 (w.heap.size + 1) (fun pre W => I pre W ∧ Bk .ready none W) (fun pre W => ∃ c, Ix c pre W ∧ Bk .done (some c) W)
    (fun s A B h hr => ⟨hIr s A B h.1 hr, hBk _ _ A B h.2 (hRk A B hr)⟩) (fun s A B h hr => by obtain ⟨c, h1, h2⟩ := h; exact ⟨c, hIxr c s A B h1 hr, hBk _ _ A B h2 (hRk A B hr)⟩) ?round ⟨hi1, hbk1⟩).mono ?rest
  case rest =>
    rintro e W2 ⟨⟨v, rfl⟩, ⟨xs, hS, hi, hk⟩ | ⟨pre, hSp, c, hi, hk⟩⟩
    · refine ⟨none, _, run_endLoop hk.1 (by simp), hdone _ xs _ (Nat.le_refl _) hS (hIput _ _ .exhausted none xs W2 hk hi) (hput _ _ .exhausted none W2 hk).2⟩
    · refine ⟨some c, _, run_endLoop hk.1 (by simp), hstop _ c pre _ (Nat.le_refl _) hSp (hIxput _ _ .exhausted (some c) c pre W2 hk hi) (hput _ _ .exhausted (some c) W2 hk).2⟩
  case round =>
    rintro pre x W ⟨hi, hk⟩ hlen
    have hk1 := hBk _ _ _ _ hk (hw₁ pre x W hi).1
    refine ⟨fn, _, assign, body, run_yield hk.1 (hps x), roundIn_of_wpIn hfn (hassign _ x W _ ⟨_, run_beginRound hk1.1 rfl, ?_⟩)⟩
    have hk2 := hput _ _ .busy none (w₁ x W) hk1
    have hkp := hKt (hw₁ pre x W hi).2 (hKput _ _ .busy none (w₁ x W) hk1)
    refine wpIn_mono (hbody _ pre x _ _ ((hI1o x _).putObj _ (hI1 pre x W hi) (by omega) hk1.1 rfl) hlen) ?_
    have fin : ∀ (jump : Option Code) (W3 : World), Bk .busy none W3 → (Instr.endRound (w.heap.size + 1) jump).run P W3 = .ok (.bool jump.isNone) (W3.putObj (w.heap.size + 1) (R (if jump.isNone then .ready else .done) jump)) := fun jump W3 h => run_endRound jump h.1
    intro e a3 W3 hp
    cases e with
    | normal =>
      have h3 := hBk _ _ _ _ hk2 hp.1
      exact ⟨_, _, fin none W3 h3, .inl ⟨rfl, ⟨hIput _ _ .ready none _ W3 h3 hp.2.2, hput _ _ .ready none W3 h3⟩, hKt (hKt hkp hp.2.1) (hKput _ _ .ready none W3 h3)⟩⟩
    | ret =>
      have h3 := hBk _ _ _ _ hk2 hp.1
      exact ⟨_, _, fin (some .ret) W3 h3, .inr ⟨rfl, .ret, hIxput _ _ .done _ _ _ W3 h3 hp.2, hput _ _ .done _ W3 h3⟩⟩
    | exit id =>
      have h3 := hBk _ _ _ _ hk2 hp.1
      exact ⟨_, _, fin (some (.exit id)) W3 h3, .inr ⟨rfl, .exit id, hIxput _ _ .done _ _ _ W3 h3 hp.2, hput _ _ .done _ W3 h3⟩⟩
    | goto t =>
      have h3 := hBk _ _ _ _ hk2 hp.1
      exact ⟨_, _, fin (some (.goto t)) W3 h3, .inr ⟨rfl, .goto t, hIxput _ _ .done _ _ _ W3 h3 hp.2, hput _ _ .done _ W3 h3⟩⟩
    | panic ch => exact hp.elim
    | outgrown => exact hp.elim
end
end Go.Proofs.YtpgojecldmcopaaGreatDoor
