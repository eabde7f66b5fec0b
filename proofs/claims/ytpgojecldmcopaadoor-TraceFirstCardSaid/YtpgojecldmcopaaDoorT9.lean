/- Traces: steps as keys of a map; how often each step stands in a trace. No condition. -/
import Derived.Test.YtpgojecldmcopaaDoorT7
import Derived.Test.YtpgojecldmcopaaDoorLaw
import Derived.Maps.OwnSet
import Derived.Maps.RangeWalk
import Derived.DeepKeys4
import Derived.WideKeyPair
namespace Go.Proofs.YtpgojecldmcopaaDoor
open Go.RowKit Go.WideMaps
def klE (x : Ev) : Lit := .string (keyBytes [.int .i32 x.1, .int .i32 x.2])
theorem evLaw : KeyLaw Tryd.prog 30 := deep_law_laid laidOut (m := 5) (by omega) (of_decide_eq_true (by kernel_rfl)) (by kernel_rfl) (by kernel_rfl)
theorem evKeyed : Maps.Keyed Tryd.prog 30 := Maps.Keyed.of_law evLaw
theorem evKT : Tryd.prog.keyType 30 = true := by kernel_rfl
theorem evCells : Tryd.prog.cellsOf 30 = 2 := by kernel_rfl
theorem evSz : ∃ m, Tryd.prog.types.size = m + 1 := ⟨Tryd.prog.types.size - 1, by kernel_rfl⟩
theorem i32Cells : Tryd.prog.cellsOf 21 = 1 := by kernel_rfl
theorem wf_i32 {n : Int} (h : In32 n) : (Lit.int .i32 n).wf = true := by
  obtain ⟨h1, h2⟩ := h
  simp [Lit.wf, IntKind.min, IntKind.max, IntKind.bits, IntKind.signed]; omega
theorem evKey {x : Ev} (h1 : In32 x.1) (h2 : In32 x.2) : keyOf Tryd.prog 30 (.agg #[.int .i32 x.1, .int .i32 x.2]) = some (klE x) := by
  have hu := Tryd.underlying30
  have hi := Tryd.underlying21
  have w1 := wf_i32 h1
  have w2 := wf_i32 h2
  obtain ⟨m, hm⟩ := evSz
  unfold keyOf
  simp only [hu]
  rw [if_pos (by simp [evKT, Value.formed, hu, evCells]), hm]
  unfold Program.keyLits
  simp only [hu, Value.cells]
  rw [if_pos (by rw [evCells]; simp)]
  simp [Program.keyLits, hi, w1, w2, i32Cells, klE]
theorem klE_inj {x y : Ev} (h1 : In32 x.1) (h2 : In32 x.2) (k1 : In32 y.1) (k2 : In32 y.2) (h : klE x = klE y) : x = y := by
  have a := evKey h1 h2
  have b := evKey k1 k2
  rw [← h] at b
  have := evLaw.inj a b
  simp at this
  exact Prod.ext this.1 this.2
theorem evKey_inv {key : Value} {kl : Lit} (h : keyOf Tryd.prog 30 key = some kl) : ∃ x : { x : Ev // In32 x.1 ∧ In32 x.2 }, key = .agg #[.int .i32 x.1.1, .int .i32 x.1.2] := by
  have hu := Tryd.underlying30
  have hi := Tryd.underlying21
  obtain ⟨m, hm⟩ := evSz
  obtain ⟨xs, L, rfl, hL, rfl⟩ := keyOf_top (by rw [hu]) h
  rw [hm] at hL
  unfold Program.keyLits at hL
  simp only [hu] at hL
  split at hL
  · rename_i hc
    obtain ⟨hlen, _⟩ := hc
    rw [evCells] at hlen
    obtain ⟨l, rfl⟩ : ∃ l : List Value, xs = l.toArray := ⟨xs.toList, by simp⟩
    clear hm h
    obtain ⟨a, b, rfl⟩ : ∃ a b, l = [a, b] := by
      rcases l with _ | ⟨a, _ | ⟨b, _ | ⟨c, t⟩⟩⟩
      · simp at hlen
      · simp at hlen
      · exact ⟨a, b, rfl⟩
      · simp at hlen
    have one : ∀ (v : Value) (d : Nat) (y : List Lit), Tryd.prog.keyLits d 21 [v] = some y → ∃ n, v = .int .i32 n ∧ In32 n := by
      intro v d y hy
      cases d with
      | zero => simp [Program.keyLits] at hy
      | succ d =>
        unfold Program.keyLits at hy
        simp only [hi] at hy
        split at hy <;> simp_all
        have hh := hy.1.2
        have hk : ∀ q : IntKind, IntKind.i32 = q → ∀ n, (Lit.int q n).wf = true → (Lit.int .i32 n).wf = true := by rintro q rfl n h; exact h
        have hh := hk _ (by assumption) _ hh
        simp [Lit.wf, IntKind.min, IntKind.max, IntKind.bits, IntKind.signed] at hh
        exact ⟨by omega, by omega⟩
    simp [i32Cells] at hL
    rcases e1 : Tryd.prog.keyLits (m + 1) 21 [a] with _ | p
    · rw [e1] at hL; cases hL
    rcases e2 : Tryd.prog.keyLits (m + 1) 21 [b] with _ | q
    · rw [e1, e2] at hL; cases hL
    obtain ⟨n1, rfl, w1⟩ := one _ _ _ e1
    obtain ⟨n2, rfl, w2⟩ := one _ _ _ e2
    exact ⟨⟨(n1, n2), w1, w2⟩, rfl⟩
  · cases hL
/-- D reads as the map of how often each step stands in l -/
def MapIs (D : DataW Unit) (l : List Ev) : Prop := Maps.IsMap D ∧ ∀ x : Ev, In32 x.1 → In32 x.2 → (x ∈ l → ∀ z, D.atKey (klE x) z = .lit (.int .i64 (l.count x : Nat))) ∧ (x ∉ l → Maps.has D (klE x) = false)
theorem MapIs.nil : MapIs (.map []) [] := ⟨Maps.isMap_empty, fun _ _ _ => ⟨fun h => (List.not_mem_nil h).elim, fun _ => rfl⟩⟩
theorem isKeyE (x : Ev) : WideAt.IsKeyLit (klE x) := trivial
theorem MapIs.look {D : DataW Unit} {l : List Ev} (h : MapIs D l) {x : Ev} (h1 : In32 x.1) (h2 : In32 x.2) {c : Int} (hat : D.atKey (klE x) (.lit (.int .i64 0)) = .lit (.int .i64 c)) : c = l.count x := by
  obtain ⟨a, b⟩ := h.2 x h1 h2
  by_cases hx : x ∈ l
  · rw [a hx] at hat; injection hat with hat; injection hat with _ hat; exact hat.symm
  · rw [Maps.atKey_of_not_has (b hx)] at hat; injection hat with hat; injection hat with _ hat
    rw [← hat, List.count_eq_zero.2 hx]; rfl
theorem MapIs.step {D : DataW Unit} {l : List Ev} (h : MapIs D l) {x : Ev} (h1 : In32 x.1) (h2 : In32 x.2) {c : Int} (hc : c = l.count x) : MapIs (D.put (klE x) (.lit (.int .i64 (c + 1)))) (l ++ [x]) := by
  refine ⟨h.1.put _ _, fun y y1 y2 => ?_⟩
  by_cases e : y = x
  · subst e
    refine ⟨fun _ z => ?_, fun hn => absurd (by simp) hn⟩
    rw [Maps.atKey_put_same h.1 (isKeyE y), hc]
    simp [List.count_append]
  · have hne : klE y ≠ klE x := fun he => e (klE_inj y1 y2 h1 h2 he)
    obtain ⟨a, b⟩ := h.2 y y1 y2
    refine ⟨fun hy z => ?_, fun hn => ?_⟩
    · rw [Maps.atKey_put_other hne, a (by simpa [e] using hy), List.count_append]
      simp [Ne.symm e]
    · rw [Maps.has_put_other hne, b (by simpa [e] using hn)]
theorem MapIs.mem {D : DataW Unit} {l : List Ev} (h : MapIs D l) {x : Ev} (h1 : In32 x.1) (h2 : In32 x.2) {y : DataW Unit} (hat : ∀ z, D.atKey (klE x) z = y) : x ∈ l ∧ y = .lit (.int .i64 (l.count x : Nat)) := by
  obtain ⟨a, b⟩ := h.2 x h1 h2
  by_cases hx : x ∈ l
  · exact ⟨hx, by rw [← hat (.nil), a hx]⟩
  · have := Maps.has_true_of_atKey hat
    rw [b hx] at this; cases this
theorem MapIs.has {D : DataW Unit} {l : List Ev} (h : MapIs D l) {x : Ev} (h1 : In32 x.1) (h2 : In32 x.2) (hx : x ∈ l) : Maps.has D (klE x) = true := Maps.has_true_of_atKey ((h.2 x h1 h2).1 hx)
/-- how many steps are in each region, of those whose key has come -/
def cntsF (l : List Ev) (r : List Rg) (left : Lit → Bool) : List Int := (List.range (r.length + 1)).map fun k => ((l.countP fun x => decide (idxR r x.2 = k) && !left (klE x) : Nat) : Int)
theorem cntsF_len (l : List Ev) (r : List Rg) (left : Lit → Bool) : (cntsF l r left).length = r.length + 1 := by simp [cntsF]
theorem cntsF_start {D : DataW Unit} {l : List Ev} (r : List Rg) (h : MapIs D l) (ho : Ok32 l) : cntsF l r (Maps.has D) = List.replicate (r.length + 1) 0 := by
  apply List.ext_getElem
  · simp [cntsF]
  · intro i h1 h2
    simp only [cntsF, List.getElem_map, List.getElem_range, List.getElem_replicate]
    have : l.countP (fun x => decide (idxR r x.2 = i) && !Maps.has D (klE x)) = 0 := by
      rw [List.countP_eq_zero]
      intro x hx
      rw [h.has (ho x hx).1 (ho x hx).2 hx]; simp
    rw [this]; rfl
theorem cntsF_end {l : List Ev} (r : List Rg) {left : Lit → Bool} (h : ∀ kl, left kl = false) : cntsF l r left = cnts l r := by
  unfold cntsF cnts
  simp [h]
theorem countP_or (l : List Ev) (p q s : Ev → Bool) (h : ∀ x ∈ l, (s x = (p x || q x)) ∧ (p x && q x) = false) : l.countP s = l.countP p + l.countP q := by
  induction l with
  | nil => rfl
  | cons x t ih =>
    have := ih fun y hy => h y (List.mem_cons_of_mem _ hy)
    obtain ⟨e, d⟩ := h x List.mem_cons_self
    rw [List.countP_cons, List.countP_cons, List.countP_cons, this, e]
    cases hp : p x <;> cases hq : q x <;> simp_all <;> omega
theorem cntsF_step {l : List Ev} (r : List Rg) (ho : Ok32 l) {left : Lit → Bool} {x : Ev} (h1 : In32 x.1) (h2 : In32 x.2) (hl : left (klE x) = true) :
    cntsF l r (fun z => left z && !z.sameKey (klE x)) = (cntsF l r left).set (idxR r x.2) ((cntsF l r left).getD (idxR r x.2) 0 + (l.count x : Nat)) := by
  have hle := idxR_le r x.2
  have key : ∀ y ∈ l, (klE y).sameKey (klE x) = decide (y = x) := by
    intro y hy
    rw [Bool.eq_iff_iff, WideAt.sameKey_iff (isKeyE x), decide_eq_true_iff]
    exact ⟨fun e => klE_inj (ho y hy).1 (ho y hy).2 h1 h2 e, fun e => by rw [e]⟩
  apply List.ext_getElem
  · simp [cntsF]
  · intro i a1 a2
    have hi : i < r.length + 1 := by simpa [cntsF] using a1
    rw [List.getElem_set]
    simp only [cntsF, List.getElem_map, List.getElem_range]
    by_cases e : idxR r x.2 = i
    · rw [if_pos e, List.getD_eq_getElem?_getD, List.getElem?_map, List.getElem?_range (by omega)]
      simp only [Option.map_some, Option.getD_some]
      rw [countP_or l (fun y => decide (idxR r y.2 = i) && !left (klE y)) (fun y => decide (y = x)) _ ?_, e]
      · rw [Int.natCast_add]
        congr 2
        unfold List.count
        congr 1
        funext y
        rw [Bool.eq_iff_iff]; simp
      · intro y hy
        rw [key y hy]
        by_cases ey : y = x
        · subst ey
          simp [e, hl]
        · simp [ey]
    · rw [if_neg e]
      congr 1
      apply List.countP_congr
      intro y hy
      rw [key y hy]
      by_cases ey : y = x
      · subst ey; simp [e]
      · simp [ey]
theorem cntsF_bd (l : List Ev) (r : List Rg) (left : Lit → Bool) (i : Nat) : 0 ≤ (cntsF l r left).getD i 0 ∧ (cntsF l r left).getD i 0 ≤ l.length := by
  rcases Nat.lt_or_ge i (cntsF l r left).length with h | h
  · rw [getD_at h]
    simp only [cntsF, List.getElem_map, List.getElem_range]
    have := List.countP_le_length (l := l) (p := fun x => decide (idxR r x.2 = i) && !left (klE x))
    omega
  · rw [List.getD_eq_getElem?_getD, List.getElem?_eq_none h]; simp
end Go.Proofs.YtpgojecldmcopaaDoor
