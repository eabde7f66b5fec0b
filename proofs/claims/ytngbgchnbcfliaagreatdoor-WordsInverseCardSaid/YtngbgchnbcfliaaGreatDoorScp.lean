/- A scope in which the run jumps to several labels. No condition. -/
import Derived.ScopeJumps
import Derived.ControlIn
namespace Go.Proofs.YtngbgchnbcfliaaGreatDoor
/-- as Q; by a goto to label l: J l -/
def jumpsTo (J : Nat → Act → World → Prop) (Q : Exit → Act → World → Prop) : Exit → Act → World → Prop
  | .goto l, a, w => J l a w
  | e, a, w => Q e a w
section
variable {P : Program} {a : Act} {w : World} {Q : Exit → Act → World → Prop}
theorem wp_scope_many {c : Code} (J : Nat → Act → World → Prop) (μ : Nat → Act → World → Nat)
    (first : c.wp P (jumpsTo J Q) a w)
    (pass : ∀ l a w, J l a w → ∃ rest, findLabel c l = some rest ∧ rest.wp P (jumpsTo (fun l' a' w' => J l' a' w' ∧ μ l' a' w' < μ l a w) Q) a w) : (Code.scope c).wp P Q a w := by
  intro b k cs
  have key : ∀ n l rest a w, findLabel c l = some rest → μ l a w = n → J l a w → ∃ e a' w', Q e a' w' ∧ Arrives P (lone (b.at a (.code rest :: .inScope c :: k)) cs w) b k cs e a' w' := by
    intro n
    induction n using Nat.strongRecOn with
    | _ n ih =>
      intro l rest a w hf hn hJ
      obtain ⟨rest', hf', hp⟩ := pass l a w hJ
      rw [hf] at hf'; cases hf'
      obtain ⟨e, a₁, w₁, hq, harr⟩ := hp b (.inScope c :: k) cs
      cases e with
      | normal => exact ⟨.normal, a₁, w₁, hq, Steps.trans harr (.one step_inScope)⟩
      | exit id => exact ⟨.exit id, a₁, w₁, hq, fun k' hk => harr k' (by simp [exitTo, hk])⟩
      | goto l' =>
        obtain ⟨hJ', hlt⟩ := hq
        obtain ⟨r2, hf2, _⟩ := pass l' a₁ w₁ hJ'
        obtain ⟨e₂, a₂, w₂, hq₂, harr₂⟩ := ih _ (by omega) l' r2 a₁ w₁ hf2 rfl hJ'
        exact ⟨e₂, a₂, w₂, hq₂, .of_steps (harr _ (by simp [gotoIn, hf2])) harr₂⟩
      | ret => exact ⟨_, a₁, w₁, hq, harr⟩
      | panic ch => exact ⟨_, a₁, w₁, hq, harr⟩
      | outgrown => exact ⟨_, a₁, w₁, hq, harr⟩
  obtain ⟨e, a₁, w₁, hq, harr⟩ := first b (.inScope c :: k) cs
  cases e with
  | normal => exact ⟨.normal, a₁, w₁, hq, .head step_scope (Steps.trans harr (.one step_inScope))⟩
  | exit id => exact ⟨.exit id, a₁, w₁, hq, fun k' hk => .head step_scope (harr k' (by simp [exitTo, hk]))⟩
  | goto l' =>
    obtain ⟨r2, hf2, _⟩ := pass l' a₁ w₁ hq
    obtain ⟨e₂, a₂, w₂, hq₂, harr₂⟩ := key _ l' r2 a₁ w₁ hf2 rfl hq
    exact ⟨e₂, a₂, w₂, hq₂, .of_steps (.head step_scope (harr _ (by simp [gotoIn, hf2]))) harr₂⟩
  | ret => exact ⟨_, a₁, w₁, hq, .of_steps (.one step_scope) harr⟩
  | panic ch => exact ⟨_, a₁, w₁, hq, .of_steps (.one step_scope) harr⟩
  | outgrown => exact ⟨_, a₁, w₁, hq, .of_steps (.one step_scope) harr⟩
theorem wpIn_scope_many {n : Nat} {c : Code} (J : Nat → Act → World → Prop) (μ : Nat → Act → World → Nat)
    (first : c.wpIn Fence.wide n P (jumpsTo J Q) a w)
    (pass : ∀ l a w, J l a w → ∃ rest, findLabel c l = some rest ∧ rest.wpIn Fence.wide n P (jumpsTo (fun l' a' w' => J l' a' w' ∧ μ l' a' w' < μ l a w) Q) a w) : (Code.scope c).wpIn Fence.wide n P Q a w :=
  wpIn_wide.2 (wp_scope_many J μ (wpIn_wide.1 first) fun l a w h => let ⟨r, h1, h2⟩ := pass l a w h; ⟨r, h1, wpIn_wide.1 h2⟩)
end
end Go.Proofs.YtngbgchnbcfliaaGreatDoor
namespace Go.Proofs.YtngbgchnbcfliaaGreatDoor
theorem jumps_ret {J : Nat → Act → World → Prop} {Q : Exit → Act → World → Prop} {a : Act} {w : World} (h : Q .ret a w) : jumpsTo J Q .ret a w := h
theorem jumps_goto {J : Nat → Act → World → Prop} {Q : Exit → Act → World → Prop} {l : Nat} {a : Act} {w : World} (h : J l a w) : jumpsTo J Q (.goto l) a w := h
/-- two labels: 1 is the loop's head, 0 lies further on -/
theorem wpIn_scope_two {P : Program} {a : Act} {w : World} {Q : Exit → Act → World → Prop} {n : Nat} {c r0 r1 : Code} (h0 : findLabel c 0 = some (.seq .skip r0)) (h1 : findLabel c 1 = some (.seq .skip r1)) (J0 J1 : Act → World → Prop) (μ : Act → Nat)
    (F : ∀ a w, J0 a w → r0.wpIn Fence.wide n P (jumpsTo (fun l a' w' => l = 1 ∧ J1 a' w' ∧ μ a' < μ a) Q) a w)
    (H : (∀ a w, J0 a w → r0.wpIn Fence.wide n P (jumpsTo (fun l a' w' => l = 1 ∧ J1 a' w' ∧ μ a' < μ a) Q) a w) → ∀ a w, J1 a w → r1.wpIn Fence.wide n P (jumpsTo (fun l a' w' => (l = 0 ∧ J0 a' w' ∧ μ a' ≤ μ a) ∨ (l = 1 ∧ J1 a' w' ∧ μ a' < μ a)) Q) a w)
    (first : (∀ a w, J1 a w → r1.wpIn Fence.wide n P (jumpsTo (fun l a' w' => (l = 0 ∧ J0 a' w') ∨ (l = 1 ∧ J1 a' w')) Q) a w) → c.wpIn Fence.wide n P (jumpsTo (fun l a' w' => (l = 0 ∧ J0 a' w') ∨ (l = 1 ∧ J1 a' w')) Q) a w) : (Code.scope c).wpIn Fence.wide n P Q a w := by
  refine wpIn_scope_many (fun l a' w' => (l = 0 ∧ J0 a' w') ∨ (l = 1 ∧ J1 a' w')) (fun l a _ => 2 * μ a + l) (first fun a w h => wpIn_mono (H F a w h) ?_) ?_
  · intro e a' w' hq
    cases e with
    | goto l =>
      rcases hq with ⟨rfl, h2, _⟩ | ⟨rfl, h2, _⟩
      · exact .inl ⟨rfl, h2⟩
      · exact .inr ⟨rfl, h2⟩
    | _ => exact hq
  · rintro l a w (⟨rfl, h⟩ | ⟨rfl, h⟩)
    · refine ⟨_, h0, wpIn_seq (wpIn_skip (wpIn_mono (F a w h) ?_))⟩
      intro e a' w' hq
      cases e with
      | goto l =>
        obtain ⟨rfl, h2, h3⟩ := hq
        exact ⟨.inr ⟨rfl, h2⟩, by omega⟩
      | _ => exact hq
    · refine ⟨_, h1, wpIn_seq (wpIn_skip (wpIn_mono (H F a w h) ?_))⟩
      intro e a' w' hq
      cases e with
      | goto l =>
        rcases hq with ⟨rfl, h2, h3⟩ | ⟨rfl, h2, h3⟩
        · exact ⟨.inl ⟨rfl, h2⟩, by omega⟩
        · exact ⟨.inr ⟨rfl, h2⟩, by omega⟩
      | _ => exact hq
end Go.Proofs.YtngbgchnbcfliaaGreatDoor
