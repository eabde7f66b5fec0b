/- Rows of bits: many rows of one length at once; what the program's functions do with them. -/
import Derived.Test.YtaogplmcabbikaaGreatDoorB23
import Derived.Test.YtaogplmcabbikaaGreatDoorOpenBits
namespace Go.Proofs.YtaogplmcabbikaaGreatDoor
open Go.RowKit
/-- since w only what is new has turned, these blocks hold just this, and these rows of n words stand -/
structure RS (w : World) (n : Nat) (K : List (Nat × Obj)) (L : List (Option Addr × List Nat)) (W : World) : Prop where
  bel : Below w.heap.size w W
  blk : ∀ p ∈ K, W.heap[p.1]? = some p.2
  rd : ∀ p ∈ L, Reads W W.heap.size 1 p.1 n (u64s p.2)
  len : ∀ p ∈ L, p.2.length = n
  w64 : ∀ p ∈ L, W64 p.2
section
variable {w W W' : World} {n : Nat} {K : List (Nat × Obj)} {L : List (Option Addr × List Nat)} {A A' : Option Addr} {c c' : Nat} {l m : List Nat}
theorem RS.start (w : World) (n : Nat) : RS w n [] [] w := ⟨Below.refl _ _, (fun p hp => by cases hp), (fun p hp => by cases hp), (fun p hp => by cases hp), (fun p hp => by cases hp)⟩
theorem RS.go (h : RS w n K L W) (hb : Below W.heap.size W W') : RS w n K L W' := ⟨bt h.bel hb, fun p hp => (hb.block p.1 (heap_lt (h.blk p hp))).trans (h.blk p hp), fun p hp => (h.rd p hp).go hb, h.len, h.w64⟩
theorem RS.add (h : RS w n K L W) (hr : Reads W W.heap.size 1 A n (u64s l)) (hl : l.length = n) (hw : W64 l) : RS w n K ((A, l) :: L) W := by
  refine ⟨h.bel, h.blk, fun p hp => ?_, fun p hp => ?_, fun p hp => ?_⟩ <;> rcases List.mem_cons.1 hp with rfl | hp
  · exact hr
  · exact h.rd p hp
  · exact hl
  · exact h.len p hp
  · exact hw
  · exact h.w64 p hp
theorem RS.cons (h : RS w n K L W) (hb : Below W.heap.size W W') (hr : Reads W' W'.heap.size 1 A n (u64s l)) (hl : l.length = n) (hw : W64 l) : RS w n K ((A, l) :: L) W' := (h.go hb).add hr hl hw
theorem RS.at (h : RS w n K L W) (hm : (A, l) ∈ L) : Reads W W.heap.size 1 A l.length (u64s l) := by rw [h.len _ hm]; exact h.rd _ hm
theorem RS.al (h : RS w n K L W) (o : Obj) : RS w n K L (W.alloc o) := h.go ((Below.refl _ _).alloc (Nat.le_refl _) o)
theorem RS.drew (h : RS w n K L W) : RS w n K L W.drew := ⟨h.bel.drew, h.blk, h.rd, h.len, h.w64⟩
theorem RS.drewN (h : RS w n K L W) (k : Nat) : RS w n K L (W.drewN k) := ⟨bd h.bel k, h.blk, h.rd, h.len, h.w64⟩
theorem RS.put (h : RS w n K L W) {g : Nat} {o : Obj} (hg : W.heap[g]? = some o) : RS w n ((g, o) :: K) L W := ⟨h.bel, fun p hp => by
  rcases List.mem_cons.1 hp with rfl | hp
  · exact hg
  · exact h.blk p hp, h.rd, h.len, h.w64⟩
theorem RS.new (h : RS w n K L W) (o : Obj) : RS w n ((W.heap.size, o) :: K) L (W.alloc o) := (h.al o).put (alloc1_new _ _)
theorem RS.newN (h : RS w n K L W) {g : Nat} (hg : W.heap.size = g) (o : Obj) : RS w n ((g, o) :: K) L (W.alloc o) := by subst hg; exact h.new o
theorem RS.sub {M : List (Option Addr × List Nat)} (h : RS w n K L W) (hs : ∀ p ∈ M, p ∈ L) : RS w n K M W := ⟨h.bel, h.blk, fun p hp => h.rd p (hs p hp), fun p hp => h.len p (hs p hp), fun p hp => h.w64 p (hs p hp)⟩
theorem RS.sub' {M : List (Nat × Obj)} (h : RS w n K L W) (hs : ∀ p ∈ M, p ∈ K) : RS w n M L W := ⟨h.bel, fun p hp => h.blk p (hs p hp), h.rd, h.len, h.w64⟩
def RetRS (w : World) (n : Nat) (K : List (Nat × Obj)) (L : List (Option Addr × List Nat)) (l : List Nat) (e : Ending) (W' : World) : Prop :=
  ∃ A c, e = .returned (.tuple #[.slice A n c, .int .i64 0]) ∧ RS w n K ((A, l) :: L) W'
theorem RetRS.of (h : RS w n K L W) {l : List Nat} (hl : l.length = n) (hw : W64 l) {e : Ending} (hr : RetSl W 1 (u64s l) l.length 0 e W') : RetRS w n K L l e W' := by
  obtain ⟨A, c, rfl, hb, hrd, _, _⟩ := hr
  rw [hl] at hrd ⊢
  exact ⟨A, c, rfl, h.cons hb hrd hl hw⟩
theorem and_ok (h : RS w n K L W) (h1 : (A, l) ∈ L) (h2 : (A', m) ∈ L) (hc : chkB n = 0) : Calls Tryz.prog 10 #[.slice A n c, .slice A' n c'] W (RetRS w n K L (zipB and l m)) := by
  have e1 := h.len _ h1
  have e2 := h.len _ h2
  have hn := chkB_ok.1 hc
  simp only at e1 e2
  have := and_ W A A' c c' l m (h.at h1) (h.at h2) (h.w64 _ h1) (h.w64 _ h2) (by omega) (by omega)
  rw [andL_zip (by rw [e1]; exact hc) (by omega), twoE_eq (by rw [e1]; exact hc) (by omega), e1, e2] at this
  exact this.mono fun e w' hh => .of h (by rw [zipB_len, e1]) (zipB_w _ _ _) hh
abbrev notF (a _b : Bool) : Bool := !a
theorem count_ok (h : RS w n K L W) (h1 : (A, l) ∈ L) (hc : chkB n = 0) : Calls Tryz.prog 31 #[.slice A n c] W fun e W' => e = .returned (.tuple #[.int .i64 (bsum (64 * n) (rbit l) : Nat), .int .i64 0]) ∧ RS w n K L W' := by
  have e1 := h.len _ h1
  have hn := chkB_ok.1 hc
  simp only at e1
  have := count_ W A c l (h.at h1) (h.w64 _ h1) (by omega)
  rw [show cntV l = bsum (64 * n) (rbit l) by unfold cntV; rw [e1, if_pos hc, cntL_bits (h.w64 _ h1), e1], e1, hc] at this
  exact this.mono fun e w' hh => ⟨hh.1, h.go hh.2⟩
theorem same_ok (h : RS w n K L W) (h1 : (A, l) ∈ L) (h2 : (A', m) ∈ L) (hq : l = m) (hn : n ≤ 9223372036854775807) : Calls Tryz.prog 13 #[.slice A n c, .slice A' n c'] W fun e W' => e = .returned (.bool true) ∧ RS w n K L W' := by
  have e1 := h.len _ h1
  have e2 := h.len _ h2
  simp only at e1 e2
  have := same_ W _ _ A A' c c' l m (h.at h1) (h.at h2) (by omega) true (Lib.hid (by simp [hq]))
  rw [e1, e2] at this
  exact this.mono fun e w' hh => ⟨hh.1, h.go hh.2⟩
def RetRB (w : World) (n : Nat) (K : List (Nat × Obj)) (L : List (Option Addr × List Nat)) (l : List Nat) (b : Bool) (e : Ending) (W' : World) : Prop :=
  ∃ A c, e = .returned (.tuple #[.slice A n c, .bool b, .int .i64 0]) ∧ RS w n K ((A, l) :: L) W'
theorem RetRB.of (h : RS w n K L W) {l : List Nat} {b : Bool} (hl : l.length = n) (hw : W64 l) {e : Ending} (hr : RetSh W l b 0 e W') : RetRB w n K L l b e W' := by
  obtain ⟨A, c, rfl, hb, hrd, _, _⟩ := hr
  rw [hl] at hrd ⊢
  exact ⟨A, c, rfl, h.cons hb hrd hl hw⟩
theorem shift_ok (h : RS w n K L W) (h1 : (A, l) ∈ L) (hc : chkB n = 0) (v : Bool) : Calls Tryz.prog 30 #[.slice A n c, .bool v] W (RetRB w n K L (shL l v) (shO l)) := by
  have e1 := h.len _ h1
  have hn := chkB_ok.1 hc
  simp only at e1
  have := shift_ W A c l (h.at h1) (h.w64 _ h1) (by omega) v
  rw [e1, hc] at this
  exact this.mono fun e w' hh => .of h (by rw [shL_len l v (by rw [e1]; exact hc), e1]) (shL_w _ _) hh
theorem back_ok (h : RS w n K L W) (h1 : (A, l) ∈ L) (hc : chkB n = 0) (v : Bool) : Calls Tryz.prog 5 #[.slice A n c, .bool v] W (RetRB w n K L (bkL l v) (bkO l)) := by
  have e1 := h.len _ h1
  have hn := chkB_ok.1 hc
  simp only at e1
  have := back_ W A c l (h.at h1) (h.w64 _ h1) (by omega) v
  rw [e1, hc] at this
  exact this.mono fun e w' hh => .of h (by rw [bkL_len l v (by rw [e1]; exact hc), e1]) (bkL_w _ _) hh
theorem awake_ok (h : RS w n K L W) (hT : Tz16 w) : Calls Tryz.prog 14 #[] W fun e W' => e = .returned (.bool true) ∧ Below w.heap.size w W' :=
  (awake_ W (tz16_below hT h.bel)).mono fun _ _ hh => ⟨hh.1, bt h.bel hh.2⟩
/-- a known block is written that holds no words -/
theorem RS.set {g : Nat} {cs : Array Value} {t : TypeId} (h : RS w n ((g, .cells cs t (0, 0)) :: K) L W) (hg : w.heap.size ≤ g) (hK : ∀ p ∈ K, p.1 ≠ g) (hcs : ∀ (j : Nat) (x : Int), cs[j]? ≠ some (Value.int .u64 x)) (i : Nat) (u : Value) :
    RS w n ((g, .cells (cs.setIfInBounds i u) t (0, 0)) :: K) L (W.setCell ⟨g, i, none⟩ u) := by
  have hgb := h.blk _ List.mem_cons_self
  refine ⟨bs h.bel hg, fun p hp => ?_, fun p hp => ?_, h.len, h.w64⟩
  · rcases List.mem_cons.1 hp with rfl | hp
    · exact set_same hgb u
    · exact set_blk (h.blk p (List.mem_cons_of_mem _ hp)) _ u (hK p hp).symm
  · have hr := h.rd p hp
    refine ⟨hr.1, fun hn => ?_⟩
    obtain ⟨b, off, e, hb, hc⟩ := hr.2 hn
    have hne : b ≠ g := by
      intro hh
      subst hh
      obtain ⟨u0, hu0⟩ : ∃ u0, (u64s p.2)[0]? = some u0 := by
        rcases hx : (u64s p.2)[0]? with _ | u0
        · have := List.getElem?_eq_none_iff.1 hx
          rw [hr.1] at this; omega
        · exact ⟨u0, rfl⟩
      have h2 := hc 0 u0 hu0
      rw [Lib.cell_of_heap hgb] at h2
      rw [List.getElem?_map] at hu0
      rcases hx : p.2[0]? with _ | y
      · rw [hx] at hu0; cases hu0
      · rw [hx] at hu0
        injection hu0 with hu0
        subst hu0
        exact hcs _ _ h2
    refine ⟨b, off, e, by simpa [World.setCell] using hb, fun j v hv => ?_⟩
    rw [World.cell?_setCell_other _ _ _ _ (fun hh => hne (by injection hh with hh; exact hh.symm))]
    exact hc j v hv
end
theorem b2_no (a b : Bool) : ∀ (j : Nat) (x : Int), (#[Value.bool a, .bool b] : Array Value)[j]? ≠ some (Value.int .u64 x) := by
  intro j x h
  rcases j with _ | _ | j
  · simp at h
  · simp at h
  · simp at h
end Go.Proofs.YtaogplmcabbikaaGreatDoor
