/- Syntax: elem of the reader in every case. No condition. Syntax: the closure of Read that recovers. No condition. Syntax: Read of the program. No condition. -/
import Derived.Test.YtcopnpllaoahaaaGreatDoorE7
import Derived.Defers
import Derived.Recover
import Derived.Test.YtcopnpllaoahaaaGreatDoorJ10
namespace Go.Proofs.YtcopnpllaoahaaaGreatDoor
open Go.RowKit
/-- what elem does -/
def ElmR (w0 : World) (g : Nat) (A : Option Addr) (n c p : Nat) (id : Int) (es : List El) (s : (Nat × Int) ⊕ Option (Nat × El)) (e : Ending) (w' : World) : Prop :=
  match s with
  | .inl (q, er) => FaultR w0 [] (q : Int) er e w'
  | .inr none => e = .returned (.bool false) ∧ ∃ E', Fr w0 [(g, rdO A n c (p : Int) id E')] w' ∧ w'.ownsRow w0.heap.size 38 8 E' es.length (els es)
  | .inr (some (k, x)) => ElR w0 g A n c ((p + k : Nat) : Int) id (es ++ [x]) e w'
theorem elem_ {w0 w : World} {g p c : Nat} {A : Option Addr} {id : Int} {E : Value} {l : List T9} {es : List El} (hF : Fr w0 [(g, rdO A l.length c (p : Int) id E)] w) (hg : w0.heap.size ≤ g)
    (hR : Reads w0 w0.heap.size 9 A l.length (tks l)) (hm : l.length ≤ 100000) (hH : Hd w0) (hO : w.ownsRow w0.heap.size 38 8 E es.length (els es)) (he : es.length ≤ 64) (hp : p ≤ l.length) (hck : ∀ t ∈ l, ck9 t = 0) :
    Calls Tryz.prog 45 #[ptG g] w (ElmR w0 g A l.length c p id es (elS (l.drop p) p es.length)) := by
  rcases Nat.lt_or_ge p l.length with hlt | hge
  case inr =>
    have e0 : elS (l.drop p) p es.length = .inr none := by rw [List.drop_of_length_le hge]; rfl
    rw [e0]
    obtain rfl : p = l.length := by omega
    exact (elem_end hF hO rfl).mono fun e w' h => ⟨h.1, E, h.2⟩
  have hd := List.drop_eq_getElem_cons hlt
  by_cases h64 : es.length = 64
  · have e0 : elS (l.drop p) p es.length = .inl (p, 3) := by rw [hd]; unfold elS; simp only; rw [if_pos h64]
    rw [e0]
    exact elem_full hF hO rfl hlt h64
  have he2 : es.length < 64 := by omega
  have hc := hck _ (List.getElem_mem hlt)
  by_cases h2 : l[p].1 = 2
  · obtain ⟨_, _, hS, hf, _⟩ := ck_zero hc
    have hw : ∀ j, j < 4 → wK l[p].2.2.2.2.2 j = wK noK j := fun j hj => wK_congr ((sQ_iff _ _).1 (hf (by omega))) hj
    have e0 : elS (l.drop p) p es.length = match l.drop (p + 1) with
      | [] => .inl (p + 1, 6)
      | n :: r1 => if n.1 = 3 then
          match r1 with
          | [] => .inl (p + 2, 6)
          | m :: _ => if m.1 = 3 then .inr (some (3, (4, noB, noK, n.2.2.2.1, m.2.2.2.1))) else .inl (p + 2, 6)
        else .inl (p + 1, 6) := by
      rw [hd]; unfold elS; simp only
      rw [if_neg h64, if_neg (by omega), if_neg (by omega), if_neg (by omega), if_pos h2]
      rcases l.drop (p + 1) with _ | ⟨n, _ | ⟨m, r⟩⟩ <;> rfl
    rw [e0]
    rcases Nat.lt_or_ge (p + 1) l.length with h1 | h1
    case inr =>
      rw [List.drop_of_length_le h1]
      have := elem_gap1 hF hg hR hm hH hO he2 hlt h2 rfl rfl (fun hp => absurd hp (by omega))
      exact this.mono fun e w' h => by
        have h3 : FaultR w0 [] ((p + 1 : Nat) : Int) 6 e w' := by rw [Int.natCast_add]; exact h
        exact h3
    rw [List.drop_eq_getElem_cons h1]
    simp only
    by_cases h3 : l[p + 1].1 = 3
    case neg =>
      rw [if_neg h3]
      have := elem_gap1 hF hg hR hm hH hO he2 hlt h2 rfl rfl (fun _ => h3)
      exact this.mono fun e w' h => by
        have h3 : FaultR w0 [] ((p + 1 : Nat) : Int) 6 e w' := by rw [Int.natCast_add]; exact h
        exact h3
    rw [if_pos h3]
    rcases Nat.lt_or_ge (p + 2) l.length with h4 | h4
    case inr =>
      rw [List.drop_of_length_le h4]
      have := elem_gap2 hF hg hR hm hH hO he2 hlt h2 rfl rfl h1 h3 rfl (fun hp => absurd hp (by omega))
      exact this.mono fun e w' h => by
        have h3 : FaultR w0 [] ((p + 2 : Nat) : Int) 6 e w' := by rw [show ((p + 2 : Nat) : Int) = (p : Int) + 1 + 1 by omega]; exact h
        exact h3
    rw [List.drop_eq_getElem_cons h4]
    simp only
    by_cases h5 : l[p + 2].1 = 3
    case neg =>
      rw [if_neg h5]
      have := elem_gap2 hF hg hR hm hH hO he2 hlt h2 rfl rfl h1 h3 rfl (fun _ => h5)
      exact this.mono fun e w' h => by
        have h3 : FaultR w0 [] ((p + 2 : Nat) : Int) 6 e w' := by rw [show ((p + 2 : Nat) : Int) = (p : Int) + 1 + 1 by omega]; exact h
        exact h3
    rw [if_pos h5]
    have := elem_gap (x := (4, noB, noK, l[p + 1].2.2.2.1, l[p + 2].2.2.2.1)) hF hg hR hm hH hO he2 hlt h2 rfl rfl h1 h3 rfl h4 h5 rfl (Lib.hid (by
      show elC (4, noB, noK, l[p + 1].2.2.2.1, l[p + 2].2.2.2.1) = elC (4, l[p].2.2.2.2.1, l[p].2.2.2.2.2, l[p + 1].2.2.2.1, l[p + 2].2.2.2.1)
      unfold elC
      simp only [hw 0 (by decide), hw 1 (by decide), hw 2 (by decide), hw 3 (by decide), hS (by omega) (by omega)]
      rfl))
    exact this.mono fun e w' h => by
      have h3 : ElR w0 g A l.length c ((p + 3 : Nat) : Int) id (es ++ [(4, noB, noK, l[p + 1].2.2.2.1, l[p + 2].2.2.2.1)]) e w' := by rw [show ((p + 3 : Nat) : Int) = (p : Int) + 1 + 1 + 1 by omega]; exact h
      exact h3
  by_cases h0 : kdI l[p].1 = 0
  · obtain ⟨a, b, d, f⟩ := kd_zero.1 h0
    have e0 : elS (l.drop p) p es.length = .inl (p, 6) := by
      rw [hd]; unfold elS; simp only
      rw [if_neg h64, if_neg a, if_neg b, if_neg d, if_neg f]
    rw [e0]
    exact elem_bad hF hR hm hH hO he2 hlt h0 rfl
  · obtain ⟨x, e0, hx⟩ := elC_of hc h2 h0 h64 (p := p) (l.drop (p + 1))
    rw [← hd] at e0
    rw [e0]
    have := elem_one (x := x) hF hg hR hm hH hO he2 hlt h0 (fun h => h2 (kd_four.1 h)) rfl rfl (Lib.hid hx)
    exact this.mono fun e w' h => by
      have h3 : ElR w0 g A l.length c ((p + 1 : Nat) : Int) id (es ++ [x]) e w' := by rw [Int.natCast_add]; exact h
      exact h3
end Go.Proofs.YtcopnpllaoahaaaGreatDoor
namespace Go.Proofs.YtcopnpllaoahaaaGreatDoor
open Go.RowKit
set_option maxRecDepth 100000 in
theorem catch_idle (p q r : Addr) (w : World) :
    CallsD Tryz.prog 31 #[.pointer (some p), .pointer (some q), .pointer (some r)] .returning w fun e u' w' => e = .returned (.tuple #[]) ∧ u' = .returning ∧ w' = w := by
  refine callsD_of_wpS Tryz.func31 rfl fun c₀ cs hu => ?_
  apply wpS_seq
  apply wpS_region
  simp [wpOpsS, go_sem, recoverD, hu, Tryz.ntmps31, Exit.thenS]
  refine wpS_of_wp ?_
  have etm : ∀ v : Value, (#[.pointer (some p), .pointer (some q), .pointer (some r)] : Array Value) ++ (Array.replicate 14 undef).setIfInBounds 3 v = #[.pointer (some p), .pointer (some q), .pointer (some r), undef, undef, undef, v, undef, undef, undef, undef, undef, undef, undef, undef, undef, undef] := fun _ => rfl
  rw [etm]
  go_wp2
  cases c₀
  simp_all [bodyPostS, results, Tryz.results31]
theorem ta_fault (a b : Value) (w : World) : (Instr.typeAssert (.iface 69 (.agg #[a, b])) 20 69 true).run Tryz.prog w = .ok (.tuple #[.agg #[a, b], .bool true]) w := by kernel_rfl
abbrev b1O (a b : Value) : Obj := .cells #[a, b] 42 (0, 0)
abbrev b2O (a : Value) : Obj := .cells #[a] 3 (0, 0)
abbrev b3O (a : Value) : Obj := .cells #[a] 24 (0, 0)
theorem bx2c {w : World} {g : Nat} {a b : Value} {t : TypeId} (h : w.heap[g]? = some (.cells #[a, b] t (0, 0))) : (w.cell? ⟨g, 0, none⟩ = some a ∧ w.cell? ⟨g, 1, none⟩ = some b) ∧ (w.frozen? ⟨g, 0, none⟩ = false ∧ w.frozen? ⟨g, 1, none⟩ = false) ∧ g < w.heap.size :=
  ⟨⟨Lib.cell_of_heap h 0, Lib.cell_of_heap h 1⟩, ⟨Lib.frozen_of_heap h 0, Lib.frozen_of_heap h 1⟩, heap_lt h⟩
set_option maxRecDepth 100000 in
set_option maxHeartbeats 4000000 in
theorem catch_fault {w0 w : World} {g1 g2 g3 : Nat} (P er : Int) {a b c d : Value} {older : List PanicEntry} (hF : Fr w0 [(g1, b1O a b), (g2, b2O c), (g3, b3O d)] w) (hg : w0.heap.size ≤ g1 ∧ w0.heap.size ≤ g2 ∧ w0.heap.size ≤ g3) (hn : g1 ≠ g2 ∧ g1 ≠ g3 ∧ g2 ≠ g3) :
    CallsD Tryz.prog 31 #[.pointer (some ⟨g1, 0, none⟩), .pointer (some ⟨g2, 0, none⟩), .pointer (some ⟨g3, 0, none⟩)] (.panicking ({ v := .iface 69 (.agg #[.int .i64 P, .int .i64 er]), recovered := false } :: older)) w fun e u' w' =>
      e = .returned (.tuple #[]) ∧ u' = .panicking ({ v := .iface 69 (.agg #[.int .i64 P, .int .i64 er]), recovered := true } :: older) ∧ Fr w0 [(g1, b1O (.int .i64 0) (.slice none 0 0)), (g2, b2O (.int .i64 P)), (g3, b3O (.int .i64 er))] w' := by
  have hta := ta_fault
  obtain ⟨hn1, hn2, hn3⟩ := hn
  obtain ⟨hg1, hg2, hg3⟩ := hg
  have HF := Lib.hid hF
  clear hF
  refine callsD_of_wpS Tryz.func31 rfl fun c₀ cs hu => ?_
  apply wpS_seq
  apply wpS_region
  simp [wpOpsS, go_sem, recoverD, hu, Tryz.ntmps31, Exit.thenS]
  refine wpS_of_wp ?_
  have etm : ∀ v : Value, (#[.pointer (some ⟨g1, 0, none⟩), .pointer (some ⟨g2, 0, none⟩), .pointer (some ⟨g3, 0, none⟩)] : Array Value) ++ (Array.replicate 14 undef).setIfInBounds 3 v = #[.pointer (some ⟨g1, 0, none⟩), .pointer (some ⟨g2, 0, none⟩), .pointer (some ⟨g3, 0, none⟩), undef, undef, undef, v, undef, undef, undef, undef, undef, undef, undef, undef, undef, undef] := fun _ => rfl
  rw [etm]
  clear etm
  have hF1 := (HF.out.new (.cells #[.int .i64 P, .int .i64 er] 69 (0, 0)))
  have hl1 := HF.out.lt (g := g1) (o := b1O a b) (by simp)
  have hl2 := HF.out.lt (g := g2) (o := b2O c) (by simp)
  have hl3 := HF.out.lt (g := g3) (o := b3O d) (by simp)
  have hq1 : w.heap.size ≠ g1 := by omega
  have hq2 : w.heap.size ≠ g2 := by omega
  have hq3 : w.heap.size ≠ g3 := by omega
  have HF1 := Lib.hid hF1
  clear hF1 HF hl1 hl2 hl3
  go_upto_region 7 with fail
  generalize w.alloc (.cells #[.int .i64 P, .int .i64 er] 69 (0, 0)) = W1 at *
  generalize w.heap.size = R at *
  obtain ⟨⟨c0, c1⟩, ⟨f0, f1⟩, l1⟩ := bx2c (HF1.out.at (g := g1) (o := b1O a b) (by simp))
  obtain ⟨d0, e0, l2⟩ := bx1 (HF1.out.at (g := g2) (o := b2O c) (by simp))
  obtain ⟨d1, e1, l3⟩ := bx1 (HF1.out.at (g := g3) (o := b3O d) (by simp))
  obtain ⟨⟨x0, x1⟩, _, l4⟩ := bx2c (HF1.out.at (g := R) (o := .cells #[.int .i64 P, .int .i64 er] 69 (0, 0)) (by simp))
  go_region
  go_wp2
  have hF2 : Fr w0 [(g1, b1O (.int .i64 0) (.slice none 0 0)), (g2, b2O (.int .i64 P)), (g3, b3O (.int .i64 er))] ((((W1.setCell ⟨g1, 0, none⟩ (.int .i64 0)).setCell ⟨g1, 1, none⟩ (.slice none 0 0)).setCell ⟨g2, 0, none⟩ (.int .i64 P)).setCell ⟨g3, 0, none⟩ (.int .i64 er)).drew := by
    have a0 := HF1.out.sub (M := [(g1, b1O a b), (g2, b2O c), (g3, b3O d)]) (by simp)
    have a1 := (a0.set hg1 (by simp; omega) 0 (.int .i64 0)).set hg1 (by simp; omega) 1 (.slice none 0 0)
    have a2 := (a1.sub (M := [(g2, b2O c), (g1, b1O (.int .i64 0) (.slice none 0 0)), (g3, b3O d)]) (by simp)).set hg2 (by simp; omega) 0 (.int .i64 P)
    have a3 := (a2.sub (M := [(g3, b3O d), (g1, b1O (.int .i64 0) (.slice none 0 0)), (g2, b2O (.int .i64 P))]) (by simp)).set hg3 (by simp; omega) 0 (.int .i64 er)
    exact (a3.sub (M := [(g1, b1O (.int .i64 0) (.slice none 0 0)), (g2, b2O (.int .i64 P)), (g3, b3O (.int .i64 er))]) (by simp)).drew
  clear c0 c1 l1 f0 f1 d0 e0 l2 d1 e1 l3 x0 x1 l4 HF1
  generalize ((((W1.setCell ⟨g1, 0, none⟩ (.int .i64 0)).setCell ⟨g1, 1, none⟩ (.slice none 0 0)).setCell ⟨g2, 0, none⟩ (.int .i64 P)).setCell ⟨g3, 0, none⟩ (.int .i64 er)).drew = W2 at *
  cases c₀
  simp [bodyPostS, results, Tryz.results31, hF2]
end Go.Proofs.YtcopnpllaoahaaaGreatDoor
namespace Go.Proofs.YtcopnpllaoahaaaGreatDoor
open Go.RowKit
/-- what comes back: the rule, its elements a row of the call's own -/
def RetRd (w : World) (r : Ru × Nat × Int) (e : Ending) (w' : World) : Prop :=
  ∃ A c, e = .returned (.tuple #[.agg #[.int .i64 r.1.1, .slice A r.1.2.length c], .int .i64 (r.2.1 : Int), .int .i64 r.2.2]) ∧ Below w.heap.size w w' ∧ w'.ownsRow w.heap.size 38 8 (.slice A r.1.2.length c) r.1.2.length (els r.1.2)
theorem RetRd.no {w w' : World} {r : Ru × Nat × Int} {p : Nat} {x er : Int} (h : r = ((0, []), p, er)) (hx : x = (p : Int)) (hb : Below w.heap.size w w') : RetRd w r (.returned (.tuple #[.agg #[.int .i64 0, .slice none 0 0], .int .i64 x, .int .i64 er])) w' := by
  subst h hx
  exact ⟨none, 0, rfl, hb, World.ownsRow_nil _ _ _ _⟩
theorem elS_some {r : List T9} {p m k : Nat} {x : El} (h : elS r p m = .inr (some (k, x))) : m ≠ 64 ∧ 0 < k ∧ k ≤ r.length := by
  unfold elS at h
  repeat' split at h
  all_goals first
    | (cases h; done)
    | (simp only [Sum.inr.injEq, Option.some.injEq, Prod.mk.injEq] at h; obtain ⟨rfl, _⟩ := h; exact ⟨by assumption, by omega, by simp⟩)
theorem elS_fault {r : List T9} {p m q : Nat} {er : Int} (h : elS r p m = .inl (q, er)) : er ≠ 0 := by
  unfold elS at h
  repeat' split at h
  all_goals first
    | (cases h; done)
    | (simp only [Sum.inl.injEq, Prod.mk.injEq] at h; obtain ⟨_, rfl⟩ := h; decide)
def rdP (w : World) (g : Nat) : Nat := match w.cell? ⟨g, 1, none⟩ with
  | some (.int _ k) => k.toNat
  | _ => 0
theorem rdP_of {w : World} {g p : Nat} (h : w.cell? ⟨g, 1, none⟩ = some (.int .i64 (p : Int))) : rdP w g = p := by unfold rdP; rw [h]; simp
abbrev r0L (w : World) : List (Nat × Obj) := [(w.heap.size, b1O (.int .i64 0) (.slice none 0 0)), (w.heap.size + 1, b2O (.int .i64 0)), (w.heap.size + 1 + 1, b3O (.int .i64 0))]
abbrev rL (w : World) (a b c d : Value) : List (Nat × Obj) := [(w.heap.size, b1O a b), (w.heap.size + 1, b2O c), (w.heap.size + 1 + 1, b3O d)]
theorem frBox {w w1 : World} {a b c d : Value} (h : Fr w (rL w a b c d) w1) (a' b' c' d' : Value) : Fr w (rL w a' b' c' d') ((((w1.setCell ⟨w.heap.size, 0, none⟩ a').setCell ⟨w.heap.size, 1, none⟩ b').setCell ⟨w.heap.size + 1, 0, none⟩ c').setCell ⟨w.heap.size + 1 + 1, 0, none⟩ d') := by
  have a1 := (h.set (Nat.le_refl _) (by simp <;> omega) 0 a').set (Nat.le_refl _) (by simp <;> omega) 1 b'
  have a2 := (a1.sub (M := [(w.heap.size + 1, b2O c), (w.heap.size, b1O a' b'), (w.heap.size + 1 + 1, b3O d)]) (by simp <;> omega)).set (by omega) (by simp <;> omega) 0 c'
  have a3 := (a2.sub (M := [(w.heap.size + 1 + 1, b3O d), (w.heap.size, b1O a' b'), (w.heap.size + 1, b2O c')]) (by simp <;> omega)).set (by omega) (by simp <;> omega) 0 d'
  exact a3.sub (by simp <;> omega)
set_option maxRecDepth 100000 in
set_option maxHeartbeats 8000000 in
theorem sread_ (l : List T9) (w : World) (A : Option Addr) (c : Nat) (hR : Reads w w.heap.size 9 A l.length (tks l)) (hm : l.length ≤ 100000) (r : Ru × Nat × Int) (hr : Hid (ruK l = r)) (hH : Hd w) :
    Calls Tryz.prog 20 #[.slice A l.length c] w (RetRd w r) := by
  have hmf : ∀ (fn : Fn) (first cap : Array Value) (w : World), (Instr.makeFunc fn first cap).run Tryz.prog w = .ok (.func fn first cap) w := fun _ _ _ _ => rfl
  have HR := Lib.hid hR
  have HH := Lib.hid hH
  have HF0 := Lib.hid ((((Fr.start w).newN (g := w.heap.size) rfl (b1O (.int .i64 0) (.slice none 0 0))).newN (g := w.heap.size + 1) (by simp) (b2O (.int .i64 0))).newN (g := w.heap.size + 1 + 1) (by simp) (b3O (.int .i64 0)) |>.sub (M := r0L w) (by simp))
  clear hR hH
  go_enter_defers Tryz.func20, Tryz.ntmps20
  go_wp2
  go_loopw [12] (fun i wr => ∃ k : Nat, k ≤ l.length ∧ i = .int .i64 (k : Int) ∧ Fr w (r0L w) wr ∧ Hid (errL l 0 = errL (l.drop k) k)) (fun i _ => l.length - (intOf i).toNat)
  case atStart => exact ⟨0, Nat.zero_le _, rfl, HF0.out, Lib.hid (by rw [List.drop_zero])⟩
  case round =>
    obtain ⟨k, hk, rfl, hFr, he⟩ := hrel
    have hbl := hFr.bel
    by_cases hlt : k < l.length
    · have i1 : (k : Int) < (l.length : Int) := by omega
      have i0 : (0 : Int) ≤ (k : Int) := by omega
      have hst := errR hlt he.out
      have hrd := HR.out.below hbl
      obtain ⟨bk, off, rfl, hbk, c0, c1, c2, c3, c4, c5, c6, c7, c8⟩ := hrd.at9 hlt
      obtain ⟨K, F, T, N, S, f, ht⟩ : ∃ K F T N S f, l[k] = (K, F, T, N, S, f) := ⟨_, _, _, _, _, _, rfl⟩
      rw [ht] at c0 c1 c2 c3 c4 c5 c6 c7 c8 hst
      simp only at c0 c1 c2 c3 c4 c5 c6 c7 c8
      obtain ⟨x, hx⟩ : ∃ x, ck9 (K, F, T, N, S, f) = x := ⟨_, rfl⟩
      rw [hx] at hst
      have Hx := Lib.hid hx
      have hbkw : bk < wr.heap.size := Nat.lt_of_lt_of_le hbk hbl.size
      have HFr := Lib.hid hFr
      by_cases hx0 : x = 0
      · subst hx0
        have HS := Lib.hid (show errL l 0 = errL (l.drop (k + 1)) (k + 1) by rw [hst, if_neg (by simp)])
        clear hst he ht hx hrd hFr hbl
        go_wp2_with fail
        (with_reducible refine (chk9 _ K F T N S f rfl 0 Hx _).mono ?_); rintro e w3 ⟨rfl, hb3⟩
        have hF3 := (HFr.out.al _).go hb3
        clear hb3 c0 c1 c2 c3 c4 c5 c6 c7 c8
        go_wp2
        go_roundw
        case rel => exact ⟨k + 1, by omega, by go_num, hF3, HS⟩
        case measure => (simp [intOf]) <;> omega
      · have HN := Lib.hid (show r = ((0, []), k, x) by rw [← hr.out]; unfold ruK; rw [hst, if_pos hx0])
        have e1 : (x != 0) = true := by simpa using hx0
        clear hst he ht hx hrd hx0 hFr hbl
        go_wp2_with fail
        (with_reducible refine (chk9 _ K F T N S f rfl x Hx _).mono ?_); rintro e w3 ⟨rfl, hb3⟩
        have hF3 := (HFr.out.al _).go hb3
        obtain ⟨⟨d0, d1⟩, ⟨g0, g1⟩, l1⟩ := bx2c (hF3.at (g := w.heap.size) (o := b1O (.int .i64 0) (.slice none 0 0)) (by simp))
        obtain ⟨d2, g2, l2⟩ := bx1 (hF3.at (g := w.heap.size + 1) (o := b2O (.int .i64 0)) (by simp))
        obtain ⟨d3, g3, l3⟩ := bx1 (hF3.at (g := w.heap.size + 1 + 1) (o := b3O (.int .i64 0)) (by simp))
        have HF3 := Lib.hid hF3
        clear hb3 c0 c1 c2 c3 c4 c5 c6 c7 c8 hF3
        go_wp2
        have hF5 := frBox HF3.out (.int .i64 0) (.slice none 0 0) (.int .i64 (k : Int)) (.int .i64 x)
        clear d0 d1 l1 g0 g1 d2 g2 l2 d3 g3 l3
        generalize (((w3.setCell ⟨w.heap.size, 0, none⟩ (.int .i64 0)).setCell ⟨w.heap.size, 1, none⟩ (.slice none 0 0)).setCell ⟨w.heap.size + 1, 0, none⟩ (.int .i64 (k : Int))).setCell ⟨w.heap.size + 1 + 1, 0, none⟩ (.int .i64 x) = w5 at *
        obtain ⟨⟨d0, d1⟩, _⟩ := bx2c (hF5.at (g := w.heap.size) (o := b1O (.int .i64 0) (.slice none 0 0)) (by simp))
        obtain ⟨d2, _⟩ := bx1 (hF5.at (g := w.heap.size + 1) (o := b2O (.int .i64 (k : Int))) (by simp))
        obtain ⟨d3, _⟩ := bx1 (hF5.at (g := w.heap.size + 1 + 1) (o := b3O (.int .i64 x)) (by simp))
        exact ⟨.tuple #[.agg #[.int .i64 0, .slice none 0 0], .int .i64 (k : Int), .int .i64 x], by simp [results, Tryz.results20, go_sem, d0, d1, d2, d3], RetRd.no HN.out rfl hF5.bel⟩
    · obtain rfl : k = l.length := by omega
      have hn : errL l 0 = none := by rw [he.out, List.drop_of_length_le (Nat.le_refl _)]; rfl
      have hok := errL_none hn
      have hr1 := hr.out
      rw [ruK_hd l hn] at hr1
      have HFr := Lib.hid hFr
      have HR1 := Lib.hid hr1
      clear he hlt hn hFr hbl hr1 hr HF0
      obtain ⟨V, hV⟩ : ∃ V, V = wr := ⟨_, rfl⟩
      subst hV
      have hRV := HR.out.below HFr.out.bel
      have hRV2 : Reads V V.heap.size 9 A l.length (tks l) := hRV.more HFr.out.bel.size
      have hHV := HH.out.below HFr.out.bel
      have hF1 : Fr V [(V.heap.size, rdO A l.length c 0 0 (.slice none 0 0))] (V.alloc (rdO A l.length c 0 0 (.slice none 0 0))) := (Fr.start V).new _
      rcases hq : rhK l with _ | q
      case some =>
        have HN := Lib.hid (show r = ((0, []), q, 6) by rw [← HR1.out, hq])
        have HY := Lib.hid (head_no hF1 (Nat.le_refl _) hRV2 hm (Lib.hid hq))
        clear hRV hRV2 hHV hF1 hq HR1 hok
        go_wp2_with fail
        (with_reducible refine (HY.out).mono ?_); rintro e w1 ⟨rfl, hF2⟩
        have hF3 := HFr.out.go hF2.bel
        refine leaves_cons (f := 31) (args := #[.pointer (some ⟨w.heap.size, 0, none⟩), .pointer (some ⟨w.heap.size + 1, 0, none⟩), .pointer (some ⟨w.heap.size + 1 + 1, 0, none⟩)]) (by simp) (by simp [go_sem]) ?_
        refine (catch_fault (q : Int) 6 hF3 ⟨by omega, by omega, by omega⟩ ⟨by omega, by omega, by omega⟩).mono ?_
        rintro e u' w5 ⟨rfl, rfl, hF5⟩
        obtain ⟨⟨d0, d1⟩, _⟩ := bx2c (hF5.at (g := w.heap.size) (o := b1O (.int .i64 0) (.slice none 0 0)) (by simp))
        obtain ⟨d2, _⟩ := bx1 (hF5.at (g := w.heap.size + 1) (o := b2O (.int .i64 (q : Int))) (by simp))
        obtain ⟨d3, _⟩ := bx1 (hF5.at (g := w.heap.size + 1 + 1) (o := b3O (.int .i64 6)) (by simp))
        exact ⟨.tuple #[.agg #[.int .i64 0, .slice none 0 0], .int .i64 (q : Int), .int .i64 6], by simp [results, Tryz.results20, go_sem, d0, d1, d2, d3], RetRd.no HN.out rfl hF5.bel⟩
      case none =>
        obtain ⟨id, hid⟩ : ∃ i, (l.getD 1 tk0T).2.2.2.1 = i := ⟨_, rfl⟩
        have HY := Lib.hid (head_ok hF1 (Nat.le_refl _) hRV2 hm (Lib.hid hq) (Lib.hid hid))
        have hr2 := HR1.out
        rw [hq] at hr2
        simp only at hr2
        rw [show (l.getD 1 (0, 0, 0, 0, noB, noK)).2.2.2.1 = id from hid] at hr2
        have HR2 := Lib.hid hr2
        have h2 := (rh_none hq).1
        have HRV := Lib.hid hRV2
        have HHV := Lib.hid hHV
        have HOk := Lib.hid hok
        clear hRV hRV2 hHV hF1 hq HR1 hok hid hr2
        go_wp2_with fail
        (with_reducible refine (HY.out).mono ?_); rintro e w1 ⟨rfl, hF2⟩
        have HF2 := Lib.hid hF2
        clear hF2 HY
        go_wp2
        go_loopw [32] (fun _ W => ∃ (p : Nat) (es : List El) (E : Value), p ≤ l.length ∧ es.length ≤ 64 ∧ Fr V [(V.heap.size, rdO A l.length c (p : Int) id E)] W ∧ W.ownsRow V.heap.size 38 8 E es.length (els es) ∧ Hid (elsK (l.drop 2) 2 [] = elsK (l.drop p) p es)) (fun _ W => l.length - rdP W V.heap.size)
        case atStart => exact ⟨2, [], _, by omega, by simp, HF2.out, World.ownsRow_nil _ _ _ _, Lib.hid rfl⟩
        case round =>
          obtain ⟨p, es, E, hp, he, hF, hO, hX⟩ := hrel
          have HE := Lib.hid (elem_ hF (Nat.le_refl _) HRV.out hm HHV.out hO he hp HOk.out)
          have hst := elsK_step (l.drop p) p es
          have hc1 := (bx4 (hF.at (g := V.heap.size) (o := rdO A l.length c (p : Int) id E) List.mem_cons_self)).1.2.1
          rcases hs : elS (l.drop p) p es.length with ⟨q, er⟩ | _ | ⟨k, x⟩
          · rw [hs] at HE hst
            simp only at hst
            have hne := elS_fault hs
            have HN : Hid (r = ((0, []), q, er)) := Lib.hid (by
              rw [← HR2.out, hX.out, hst]; simp only; rw [if_neg hne])
            clear hs hst hne hX hF hO HR2 HF2 hc1
            go_wp2_with fail
            (with_reducible refine (HE.out).mono ?_); rintro e w3 ⟨rfl, hF2⟩
            have hF3 := HFr.out.go hF2.bel
            refine leaves_cons (f := 31) (args := #[.pointer (some ⟨w.heap.size, 0, none⟩), .pointer (some ⟨w.heap.size + 1, 0, none⟩), .pointer (some ⟨w.heap.size + 1 + 1, 0, none⟩)]) (by simp) (by simp [go_sem]) ?_
            refine (catch_fault (q : Int) er hF3 ⟨by omega, by omega, by omega⟩ ⟨by omega, by omega, by omega⟩).mono ?_
            rintro e u' w5 ⟨rfl, rfl, hF5⟩
            obtain ⟨⟨d0, d1⟩, _⟩ := bx2c (hF5.at (g := w.heap.size) (o := b1O (.int .i64 0) (.slice none 0 0)) (by simp))
            obtain ⟨d2, _⟩ := bx1 (hF5.at (g := w.heap.size + 1) (o := b2O (.int .i64 (q : Int))) (by simp))
            obtain ⟨d3, _⟩ := bx1 (hF5.at (g := w.heap.size + 1 + 1) (o := b3O (.int .i64 er)) (by simp))
            exact ⟨.tuple #[.agg #[.int .i64 0, .slice none 0 0], .int .i64 (q : Int), .int .i64 er], by simp [results, Tryz.results20, go_sem, d0, d1, d2, d3], RetRd.no HN.out rfl hF5.bel⟩
          · rw [hs] at HE hst
            simp only at hst
            have HN : Hid (r = ((id, es), 0, 0)) := Lib.hid (by
              rw [← HR2.out, hX.out, hst]; simp)
            clear hs hst hX hF hO HR2 HF2 hc1
            go_wp2_with fail
            (with_reducible refine (HE.out).mono ?_); rintro e w3 ⟨rfl, E', hF2, hO2⟩
            obtain ⟨⟨c0, c1, c2, c3⟩, _, l1⟩ := bx4 (hF2.at (g := V.heap.size) (o := rdO A l.length c (p : Int) id E') List.mem_cons_self)
            have hF3 := HFr.out.go hF2.bel
            obtain ⟨⟨d0, d1⟩, ⟨g0, g1⟩, m1⟩ := bx2c (hF3.at (g := w.heap.size) (o := b1O (.int .i64 0) (.slice none 0 0)) (by simp))
            obtain ⟨d2, g2, m2⟩ := bx1 (hF3.at (g := w.heap.size + 1) (o := b2O (.int .i64 0)) (by simp))
            obtain ⟨d3, g3, m3⟩ := bx1 (hF3.at (g := w.heap.size + 1 + 1) (o := b3O (.int .i64 0)) (by simp))
            obtain ⟨AE, cE, rfl, _, _, _⟩ := own_sl hO2
            have hb0 : ∀ g, g < V.heap.size → (Value.slice AE es.length cE).ownBlock ≠ some g := fun g hg e => by
              have := (hO2.lt _ e).1
              omega
            have hv1 := HFr.out.lt (g := w.heap.size) (o := b1O (.int .i64 0) (.slice none 0 0)) (by simp)
            have hv2 := HFr.out.lt (g := w.heap.size + 1) (o := b2O (.int .i64 0)) (by simp)
            have hv3 := HFr.out.lt (g := w.heap.size + 1 + 1) (o := b3O (.int .i64 0)) (by simp)
            have hO5 := own_set (own_set (own_set (own_set hO2 ⟨w.heap.size, 0, none⟩ (.int .i64 id) (hb0 _ hv1)) ⟨w.heap.size, 1, none⟩ (.slice AE es.length cE) (hb0 _ hv1)) ⟨w.heap.size + 1, 0, none⟩ (.int .i64 0) (hb0 _ hv2)) ⟨w.heap.size + 1 + 1, 0, none⟩ (.int .i64 0) (hb0 _ hv3)
            have hO6 := own_base hO5 HFr.out.bel.size
            have hF5 := frBox hF3 (.int .i64 id) (.slice AE es.length cE) (.int .i64 0) (.int .i64 0)
            have HF5 := Lib.hid hF5
            have HO6 := Lib.hid hO6
            clear hF2 hO2 hF3 hb0 hv1 hv2 hv3 hO5 hO6 hF5
            go_wp2
            clear c0 c1 c2 c3 l1 d0 d1 m1 g0 g1 d2 g2 m2 d3 g3 m3
            generalize (((w3.setCell ⟨w.heap.size, 0, none⟩ (.int .i64 id)).setCell ⟨w.heap.size, 1, none⟩ (.slice AE es.length cE)).setCell ⟨w.heap.size + 1, 0, none⟩ (.int .i64 0)).setCell ⟨w.heap.size + 1 + 1, 0, none⟩ (.int .i64 0) = w5 at *
            refine leaves_cons (f := 31) (args := #[.pointer (some ⟨w.heap.size, 0, none⟩), .pointer (some ⟨w.heap.size + 1, 0, none⟩), .pointer (some ⟨w.heap.size + 1 + 1, 0, none⟩)]) (by simp) (by simp [go_sem]) ?_
            refine (catch_idle _ _ _ _).mono ?_
            rintro e u' w6 ⟨rfl, rfl, rfl⟩
            obtain ⟨⟨d0, d1⟩, _⟩ := bx2c (HF5.out.at (g := w.heap.size) (o := b1O (.int .i64 id) (.slice AE es.length cE)) (by simp))
            obtain ⟨d2, _⟩ := bx1 (HF5.out.at (g := w.heap.size + 1) (o := b2O (.int .i64 0)) (by simp))
            obtain ⟨d3, _⟩ := bx1 (HF5.out.at (g := w.heap.size + 1 + 1) (o := b3O (.int .i64 0)) (by simp))
            refine ⟨.tuple #[.agg #[.int .i64 id, .slice AE es.length cE], .int .i64 0, .int .i64 0], by simp [results, Tryz.results20, go_sem, d0, d1, d2, d3], ?_⟩
            rw [HN.out]
            exact ⟨AE, cE, rfl, HF5.out.bel, HO6.out⟩
          · rw [hs] at HE hst
            simp only at hst
            obtain ⟨e64, hk0, hkl⟩ := elS_some hs
            rw [List.length_drop] at hkl
            rw [List.drop_drop] at hst
            have HX := Lib.hid (hX.out.trans hst)
            clear hs hst hX hF hO HR2 HF2
            go_wp2_with fail
            (with_reducible refine (HE.out).mono ?_); rintro e w3 ⟨rfl, E', hF2, hO2⟩
            have hc2 := (bx4 (hF2.at (g := V.heap.size) (o := rdO A l.length c ((p + k : Nat) : Int) id E') List.mem_cons_self)).1.2.1
            have hq1 := rdP_of hc1
            have hq2 := rdP_of hc2
            have HF2 := Lib.hid hF2
            have HO2 := Lib.hid hO2
            have HQ1 := Lib.hid hq1
            have HQ2 := Lib.hid hq2
            clear hF2 hO2 hc1 hc2 hq1 hq2
            go_wp2
            go_roundw
            case rel => exact ⟨p + k, es ++ [x], E', by omega, by simp; omega, HF2.out, HO2.out, HX⟩
            case measure => rw [HQ1.out, HQ2.out]; omega
end Go.Proofs.YtcopnpllaoahaaaGreatDoor
