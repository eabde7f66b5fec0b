/- A range over an iterator that writes blocks of its own between two rounds; at each round the heap has at least m blocks. No condition. A scope in which the run jumps to several labels. No condition. -/
import Derived.Test.YtaainkjgnljihaaGreatDoorMem
import Derived.RangeFuncWrites
import Derived.ScopeJumps
import Derived.ControlIn
namespace Go.Proofs.YtaainkjgnljihaaGreatDoor
open Go.RowKit
/-- an iterator's promise, called in W: between two rounds it makes steps Rl; a round keeps Kp -/
def SeqRelM {α : Type} (F : Fence) (n : Nat) (P : Program) (g : Nat) (lb : Array Value) (encs : α → Array Value) (Kp Rl : World → World → Prop) (S Sp : List α → Prop) (N m : Nat) (W : World) : Prop :=
  ∀ (l : Nat) (J Jx : List α → World → Prop), (∀ s A B, J s A → Rl A B → J s B) → (∀ s A B, Jx s A → Rl A B → Jx s B) →
    (∀ pre x W1, J pre W1 → m ≤ W1.heap.size → pre.length < N → YieldAt F (n - 1) P l (encs x) W1 fun e W' => (e = .returned (.bool true) ∧ J (pre ++ [x]) W' ∧ Kp W1 W') ∨ (e = .returned (.bool false) ∧ Jx (pre ++ [x]) W')) →
    J [] W → CallsIn F n P g (#[.func (.yield l) #[] #[]] ++ lb) W fun e W' => (∃ v, e = .returned v) ∧ ((∃ xs, S xs ∧ J xs W') ∨ (∃ pre, Sp pre ∧ Jx pre W'))
section
variable {F : Fence} {n : Nat} {P : Program}
theorem wpIn_range_relM {α : Type} {g : Operand} {ps : Array Tmp} {assign body : Code} {Q : Exit → Act → World → Prop} {a : Act} {w : World}
    (hro : F.round = none) (h1 : 1 ≤ n) {gf : Nat} {lb : Array Value} (hg : a.eval g = .func (.func gf) #[] lb) (hFg : F.fn gf) (eg : ∀ args w, (callFunc gf args).run P w = .ok (.enter gf args) w)
    {encs : α → Array Value} {Kp Rl : World → World → Prop} {S Sp : List α → Prop} {N m : Nat}
    (hseq : ∀ W1, W1.heap.size = w.heap.size + 2 → Below w.heap.size w W1 → SeqRelM F (n - 1) P gf lb encs Kp Rl S Sp N m W1)
    (hRk : ∀ A B, Rl A B → KeepsFrom w.heap.size A B)
    (hKt : ∀ {A B C : World}, Kp A B → Kp B C → Kp A C) (hKb : ∀ (W : World) (l : Nat) (o o' : Obj), w.heap.size ≤ l → W.heap[l]? = some o → o.isCells = false → o.isWalk = false → Kp W (W.putObj l o')) (hps : ∀ x, (encs x).size = ps.size)
    (I : List α → World → Prop) (Ix : Code → List α → World → Prop) (hI : OwnFrom w.heap.size I) (hIx : ∀ c, OwnFrom w.heap.size (Ix c))
    (hIr : ∀ s A B, I s A → Rl A B → I s B) (hIxr : ∀ c s A B, Ix c s A → Rl A B → Ix c s B) (h0 : I [] w) (a₁ : α → World → Act) (w₁ : α → World → World) (I1 : List α → α → Act → World → Prop)
    (hw₁ : ∀ pre x W, I pre W → KeepsFrom w.heap.size W (w₁ x W) ∧ Kp W (w₁ x W)) (hI1 : ∀ pre x W, I pre W → I1 pre x (a₁ x W) (w₁ x W)) (hI1o : ∀ x a, OwnFrom w.heap.size (fun pre W => I1 pre x a W))
    (hassign : ∀ (l : Nat) (x : α) (W : World) (K : Act → World → Prop), K (a₁ x W) (w₁ x W) →
      assign.wpIn (F.inRound l) (n - 1 - 1) P (Exit.then K (fun _ _ _ => False)) { tmps := (ps.zip (encs x)).foldl (fun t (p, v) => t.setIfInBounds p v) a.tmps, defers := [] } W)
    (hbody : ∀ (l : Nat) (pre : List α) (x : α) (a : Act) (W : World), I1 pre x a W → m ≤ W.heap.size → pre.length < N → body.wpIn (F.inRound l) (n - 1 - 1) P (ownPostG w.heap.size Kp I Ix (pre ++ [x]) W) a W)
    (hdone : ∀ (D : Nat) (xs : List α) (W : World), w.heap.size ≤ D → S xs → I xs W → W.heap[D]? = some (.deferred (some [])) → Q .normal { a with defers := { target := .collected D, args := #[] } :: a.defers } W)
    (hstop : ∀ (D : Nat) (c : Code) (pre : List α) (W : World), w.heap.size ≤ D → Sp pre → Ix c pre W → W.heap[D]? = some (.deferred (some [])) → c.wpIn F n P Q { a with defers := { target := .collected D, args := #[] } :: a.defers } W) :
    (Code.rangeFunc g ps assign body).wpIn F n P Q a w := by
  refine wpIn_rangeFunc fun fn hfn => ?_
  rw [hro]
  -- the record of the loop and the block of the rounds' deferred calls
  let R : LoopState → Option Code → Obj := fun st pe => .loop { state := st, pending := pe, fn, tmps := a.tmps, params := ps, assign, body, defers := w.heap.size }
  have hR : ∀ st pe, R st pe = .loop { state := st, pending := pe, fn, tmps := a.tmps, params := ps, assign, body, defers := w.heap.size } := fun _ _ => rfl
  let Bk : LoopState → Option Code → World → Prop := fun st pe W => W.heap[w.heap.size + 1]? = some (R st pe) ∧ W.heap[w.heap.size]? = some (.deferred (some []))
  have hBk : ∀ st pe A B, Bk st pe A → KeepsFrom w.heap.size A B → Bk st pe B := fun st pe A B h k => ⟨k.same _ _ (by omega) h.1 rfl, k.same _ _ (Nat.le_refl _) h.2 rfl⟩
  have hput : ∀ st pe st' pe' A, Bk st pe A → Bk st' pe' (A.putObj (w.heap.size + 1) (R st' pe')) := fun st pe st' pe' A h =>
    ⟨World.putObj_heap_same (heap_lt h.1), (World.putObj_heap_other (by omega)).trans h.2⟩
  have hIput : ∀ st pe st' pe' s A, Bk st pe A → I s A → I s (A.putObj (w.heap.size + 1) (R st' pe')) := fun st pe st' pe' s A h hi => hI.putObj _ hi (by omega) h.1 rfl
  have hIxput : ∀ st pe st' pe' c s A, Bk st pe A → Ix c s A → Ix c s (A.putObj (w.heap.size + 1) (R st' pe')) := fun st pe st' pe' c s A h hi => (hIx c).putObj _ hi (by omega) h.1 rfl
  have hKput : ∀ st pe st' pe' A, Bk st pe A → Kp A (A.putObj (w.heap.size + 1) (R st' pe')) := fun st pe st' pe' A h => hKb _ _ _ _ (by omega) h.1 rfl rfl
  obtain ⟨W1, hW1⟩ : ∃ W1, W1 = (w.alloc (.deferred (some []))).alloc (R .ready none) := ⟨_, rfl⟩
  have hbk1 : Bk .ready none W1 := by
    rw [hW1]
    refine ⟨?_, (Go.RowKit.Below.heap_alloc _ _ _ (by simp)).trans (alloc1_new w _)⟩
    have := alloc1_new (w.alloc (.deferred (some []))) (R .ready none)
    rwa [World.size_alloc] at this
  have hi1 : I [] W1 := by rw [hW1]; exact hI.alloc _ (hI.alloc _ h0)
  have hb1 : Go.RowKit.Below w.heap.size w W1 := by rw [hW1]; exact ba (ba (Go.RowKit.Below.refl _ _) _) _
  have hs1 : W1.heap.size = w.heap.size + 2 := by rw [hW1]; simp
  refine ⟨w.heap.size + 1, [{ target := .collected w.heap.size, args := #[] }], W1, { target := .fn (.func gf) lb, args := #[.func (.yield (w.heap.size + 1)) #[] #[]] }, W1, gf, #[.func (.yield (w.heap.size + 1)) #[] #[]] ++ lb, W1, ?_, ?_, ?_, ?_, fun _ => h1, ?_⟩
  · rw [hW1]; exact run_enterLoop_outer _ _ _ _ _
  · simp only [resolve, hg]; simp [go_sem]
  · intro f' hf'; simp [Target.leads] at hf'; subst hf'; exact hFg
  · simp [invoke, go_sem, eg]
  refine (hseq W1 hs1 hb1 (w.heap.size + 1) (fun pre W => I pre W ∧ Bk .ready none W) (fun pre W => ∃ c, Ix c pre W ∧ Bk .done (some c) W)
    (fun s A B h hr => ⟨hIr s A B h.1 hr, hBk _ _ A B h.2 (hRk A B hr)⟩) (fun s A B h hr => by obtain ⟨c, h1, h2⟩ := h; exact ⟨c, hIxr c s A B h1 hr, hBk _ _ A B h2 (hRk A B hr)⟩) ?round ⟨hi1, hbk1⟩).mono ?rest
  case rest =>
    rintro e W2 ⟨⟨v, rfl⟩, ⟨xs, hS, hi, hk⟩ | ⟨pre, hSp, c, hi, hk⟩⟩
    · refine ⟨none, _, run_endLoop hk.1 (by simp), hdone _ xs _ (Nat.le_refl _) hS (hIput _ _ .exhausted none xs W2 hk hi) (hput _ _ .exhausted none W2 hk).2⟩
    · refine ⟨some c, _, run_endLoop hk.1 (by simp), hstop _ c pre _ (Nat.le_refl _) hSp (hIxput _ _ .exhausted (some c) c pre W2 hk hi) (hput _ _ .exhausted (some c) W2 hk).2⟩
  case round =>
    rintro pre x W ⟨hi, hk⟩ hm hlen
    have hk1 := hBk _ _ _ _ hk (hw₁ pre x W hi).1
    refine ⟨fn, _, assign, body, run_yield hk.1 (hps x), roundIn_of_wpIn hfn (hassign _ x W _ ⟨_, run_beginRound hk1.1 rfl, ?_⟩)⟩
    have hk2 := hput _ _ .busy none (w₁ x W) hk1
    have hkp := hKt (hw₁ pre x W hi).2 (hKput _ _ .busy none (w₁ x W) hk1)
    refine wpIn_mono (hbody _ pre x _ _ ((hI1o x _).putObj _ (hI1 pre x W hi) (by omega) hk1.1 rfl) (by have := (hw₁ pre x W hi).1.size; simpa using Nat.le_trans hm this) hlen) ?_
    have fin : ∀ (jump : Option Code) (W3 : World), Bk .busy none W3 → (Instr.endRound (w.heap.size + 1) jump).run P W3 = .ok (.bool jump.isNone) (W3.putObj (w.heap.size + 1) (R (if jump.isNone then .ready else .done) jump)) := fun jump W3 h => run_endRound jump h.1
    intro e a3 W3 hp
    cases e with
    | normal =>
      have h3 := hBk _ _ _ _ hk2 hp.1
      exact ⟨_, _, fin none W3 h3, .inl ⟨rfl, ⟨hIput _ _ .ready none _ W3 h3 hp.2.2, hput _ _ .ready none W3 h3⟩, hKt (hKt hkp hp.2.1) (hKput _ _ .ready none W3 h3)⟩⟩
    | ret =>
      have h3 := hBk _ _ _ _ hk2 hp.1
      exact ⟨_, _, fin (some .ret) W3 h3, .inr ⟨rfl, .ret, hIxput _ _ .done _ _ _ W3 h3 hp.2, hput _ _ .done _ W3 h3⟩⟩
    | exit id =>
      have h3 := hBk _ _ _ _ hk2 hp.1
      exact ⟨_, _, fin (some (.exit id)) W3 h3, .inr ⟨rfl, .exit id, hIxput _ _ .done _ _ _ W3 h3 hp.2, hput _ _ .done _ W3 h3⟩⟩
    | goto t =>
      have h3 := hBk _ _ _ _ hk2 hp.1
      exact ⟨_, _, fin (some (.goto t)) W3 h3, .inr ⟨rfl, .goto t, hIxput _ _ .done _ _ _ W3 h3 hp.2, hput _ _ .done _ W3 h3⟩⟩
    | panic ch => exact hp.elim
    | outgrown => exact hp.elim
end
end Go.Proofs.YtaainkjgnljihaaGreatDoor
namespace Go.Proofs.YtaainkjgnljihaaGreatDoor
/-- as Q; by a goto to label l: J l -/
def jumpsTo (J : Nat → Act → World → Prop) (Q : Exit → Act → World → Prop) : Exit → Act → World → Prop
  | .goto l, a, w => J l a w
  | e, a, w => Q e a w
section
variable {P : Program} {a : Act} {w : World} {Q : Exit → Act → World → Prop}
theorem wp_scope_many {c : Code} (J : Nat → Act → World → Prop) (μ : Nat → Act → World → Nat)
    (first : c.wp P (jumpsTo J Q) a w)
    (pass : ∀ l a w, J l a w → ∃ rest, findLabel c l = some rest ∧ rest.wp P (jumpsTo (fun l' a' w' => J l' a' w' ∧ μ l' a' w' < μ l a w) Q) a w) : (Code.scope c).wp P Q a w := by
  intro b k cs
  have key : ∀ n l rest a w, findLabel c l = some rest → μ l a w = n → J l a w → ∃ e a' w', Q e a' w' ∧ Arrives P (lone (b.at a (.code rest :: .inScope c :: k)) cs w) b k cs e a' w' := by
    intro n
    induction n using Nat.strongRecOn with
    | _ n ih =>
      intro l rest a w hf hn hJ
      obtain ⟨rest', hf', hp⟩ := pass l a w hJ
      rw [hf] at hf'; cases hf'
      obtain ⟨e, a₁, w₁, hq, harr⟩ := hp b (.inScope c :: k) cs
      cases e with
      | normal => exact ⟨.normal, a₁, w₁, hq, Steps.trans harr (.one step_inScope)⟩
      | exit id => exact ⟨.exit id, a₁, w₁, hq, fun k' hk => harr k' (by simp [exitTo, hk])⟩
      | goto l' =>
        obtain ⟨hJ', hlt⟩ := hq
        obtain ⟨r2, hf2, _⟩ := pass l' a₁ w₁ hJ'
        obtain ⟨e₂, a₂, w₂, hq₂, harr₂⟩ := ih _ (by omega) l' r2 a₁ w₁ hf2 rfl hJ'
        exact ⟨e₂, a₂, w₂, hq₂, .of_steps (harr _ (by simp [gotoIn, hf2])) harr₂⟩
      | ret => exact ⟨_, a₁, w₁, hq, harr⟩
      | panic ch => exact ⟨_, a₁, w₁, hq, harr⟩
      | outgrown => exact ⟨_, a₁, w₁, hq, harr⟩
  obtain ⟨e, a₁, w₁, hq, harr⟩ := first b (.inScope c :: k) cs
  cases e with
  | normal => exact ⟨.normal, a₁, w₁, hq, .head step_scope (Steps.trans harr (.one step_inScope))⟩
  | exit id => exact ⟨.exit id, a₁, w₁, hq, fun k' hk => .head step_scope (harr k' (by simp [exitTo, hk]))⟩
  | goto l' =>
    obtain ⟨r2, hf2, _⟩ := pass l' a₁ w₁ hq
    obtain ⟨e₂, a₂, w₂, hq₂, harr₂⟩ := key _ l' r2 a₁ w₁ hf2 rfl hq
    exact ⟨e₂, a₂, w₂, hq₂, .of_steps (.head step_scope (harr _ (by simp [gotoIn, hf2]))) harr₂⟩
  | ret => exact ⟨_, a₁, w₁, hq, .of_steps (.one step_scope) harr⟩
  | panic ch => exact ⟨_, a₁, w₁, hq, .of_steps (.one step_scope) harr⟩
  | outgrown => exact ⟨_, a₁, w₁, hq, .of_steps (.one step_scope) harr⟩
theorem wpIn_scope_many {n : Nat} {c : Code} (J : Nat → Act → World → Prop) (μ : Nat → Act → World → Nat)
    (first : c.wpIn Fence.wide n P (jumpsTo J Q) a w)
    (pass : ∀ l a w, J l a w → ∃ rest, findLabel c l = some rest ∧ rest.wpIn Fence.wide n P (jumpsTo (fun l' a' w' => J l' a' w' ∧ μ l' a' w' < μ l a w) Q) a w) : (Code.scope c).wpIn Fence.wide n P Q a w :=
  wpIn_wide.2 (wp_scope_many J μ (wpIn_wide.1 first) fun l a w h => let ⟨r, h1, h2⟩ := pass l a w h; ⟨r, h1, wpIn_wide.1 h2⟩)
end
end Go.Proofs.YtaainkjgnljihaaGreatDoor
namespace Go.Proofs.YtaainkjgnljihaaGreatDoor
theorem jumps_ret {J : Nat → Act → World → Prop} {Q : Exit → Act → World → Prop} {a : Act} {w : World} (h : Q .ret a w) : jumpsTo J Q .ret a w := h
theorem jumps_goto {J : Nat → Act → World → Prop} {Q : Exit → Act → World → Prop} {l : Nat} {a : Act} {w : World} (h : J l a w) : jumpsTo J Q (.goto l) a w := h
/-- two labels: 1 is the loop's head, 0 lies further on -/
theorem wpIn_scope_two {P : Program} {a : Act} {w : World} {Q : Exit → Act → World → Prop} {n : Nat} {c r0 r1 : Code} (h0 : findLabel c 0 = some (.seq .skip r0)) (h1 : findLabel c 1 = some (.seq .skip r1)) (J0 J1 : Act → World → Prop) (μ : Act → Nat)
    (F : ∀ a w, J0 a w → r0.wpIn Fence.wide n P (jumpsTo (fun l a' w' => l = 1 ∧ J1 a' w' ∧ μ a' < μ a) Q) a w)
    (H : (∀ a w, J0 a w → r0.wpIn Fence.wide n P (jumpsTo (fun l a' w' => l = 1 ∧ J1 a' w' ∧ μ a' < μ a) Q) a w) → ∀ a w, J1 a w → r1.wpIn Fence.wide n P (jumpsTo (fun l a' w' => (l = 0 ∧ J0 a' w' ∧ μ a' ≤ μ a) ∨ (l = 1 ∧ J1 a' w' ∧ μ a' < μ a)) Q) a w)
    (first : (∀ a w, J1 a w → r1.wpIn Fence.wide n P (jumpsTo (fun l a' w' => (l = 0 ∧ J0 a' w') ∨ (l = 1 ∧ J1 a' w')) Q) a w) → c.wpIn Fence.wide n P (jumpsTo (fun l a' w' => (l = 0 ∧ J0 a' w') ∨ (l = 1 ∧ J1 a' w')) Q) a w) : (Code.scope c).wpIn Fence.wide n P Q a w := by
  refine wpIn_scope_many (fun l a' w' => (l = 0 ∧ J0 a' w') ∨ (l = 1 ∧ J1 a' w')) (fun l a _ => 2 * μ a + l) (first fun a w h => wpIn_mono (H F a w h) ?_) ?_
  · intro e a' w' hq
    cases e with
    | goto l =>
      rcases hq with ⟨rfl, h2, _⟩ | ⟨rfl, h2, _⟩
      · exact .inl ⟨rfl, h2⟩
      · exact .inr ⟨rfl, h2⟩
    | _ => exact hq
  · rintro l a w (⟨rfl, h⟩ | ⟨rfl, h⟩)
    · refine ⟨_, h0, wpIn_seq (wpIn_skip (wpIn_mono (F a w h) ?_))⟩
      intro e a' w' hq
      cases e with
      | goto l =>
        obtain ⟨rfl, h2, h3⟩ := hq
        exact ⟨.inr ⟨rfl, h2⟩, by omega⟩
      | _ => exact hq
    · refine ⟨_, h1, wpIn_seq (wpIn_skip (wpIn_mono (H F a w h) ?_))⟩
      intro e a' w' hq
      cases e with
      | goto l =>
        rcases hq with ⟨rfl, h2, h3⟩ | ⟨rfl, h2, h3⟩
        · exact ⟨.inl ⟨rfl, h2⟩, by omega⟩
        · exact ⟨.inr ⟨rfl, h2⟩, by omega⟩
      | _ => exact hq
end Go.Proofs.YtaainkjgnljihaaGreatDoor
