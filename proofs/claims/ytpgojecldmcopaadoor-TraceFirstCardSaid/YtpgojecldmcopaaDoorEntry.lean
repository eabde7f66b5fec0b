/- m[k] = m[k] + 1 where the translation stores through an entry: the entry is laid (or found), then written. No condition. -/
import Derived.Test.YtpgojecldmcopaaDoorOwn
import Derived.Maps.OwnSet
namespace Go.Proofs.YtpgojecldmcopaaDoor
open Go.RowKit Go.MapKept Go.ChangeMaps
theorem mod_push (es : Array MapEntry) (x : MapEntry) (f : MapEntry → MapEntry) : (es.push x).modify es.size f = es.push (f x) := by
  apply Array.ext
  · simp
  · intro i h1 h2
    simp only [Array.getElem_modify, Array.getElem_push]
    by_cases h : i < es.size
    · simp [h, show es.size ≠ i by omega]
    · simp [show es.size = i by simp at h1; omega]
theorem mod_congr (es : Array MapEntry) (j : Nat) (f g : MapEntry → MapEntry) (h : ∀ x, es[j]? = some x → f x = g x) : es.modify j f = es.modify j g := by
  apply Array.ext
  · simp
  · intro i h1 h2
    simp only [Array.getElem_modify]
    by_cases e : j = i
    · subst e; simp only [if_true]; exact h _ (by simp)
    · simp [e]
theorem mod_self (es : Array MapEntry) (j : Nat) (f : MapEntry → MapEntry) (h : ∀ x, es[j]? = some x → f x = x) : es.modify j f = es := by
  apply Array.ext
  · simp
  · intro i h1 h2
    simp only [Array.getElem_modify]
    by_cases e : j = i
    · subst e; simp only [if_true]; exact h _ (by simp)
    · simp [e]
section
variable {P : Program} {k e t : TypeId} {R : Value → Option (DataW Unit × List MemPlace)} {w : World} {b n : Nat} {D : DataW Unit}
theorem ownsMap_heap {W W' : World} (h : W.ownsMap P k R b n D) (e : W'.heap[b]? = W.heap[b]?) : W'.ownsMap P k R b n D := by
  obtain ⟨es, clock, hb, rest⟩ := h
  exact ⟨es, clock, e.trans hb, rest⟩
theorem findIdx_born {es : Array MapEntry} {c : Nat} (hs : Stamped es c) {j : Nat} {x : MapEntry} (hj : es[j]? = some x) : es.findIdx? (fun y => ((y.born : Int) == (x.born : Int))) = some j := by
  obtain ⟨hlt, hx⟩ := Array.getElem?_eq_some_iff.1 hj
  rw [Array.findIdx?_eq_some_iff_getElem]
  refine ⟨hlt, by simp [hx], fun i hi he => ?_⟩
  have hnd := hs.2.1
  have h1 : i < (es.toList.map (·.born)).length := by simp; omega
  have h2 : j < (es.toList.map (·.born)).length := by simpa using hlt
  have : (es.toList.map (·.born))[i] = (es.toList.map (·.born))[j] := by
    simp only [List.getElem_map, Array.getElem_toList]
    rw [hx]
    simp at he
    omega
  have := (List.getElem_inj (h₀ := h1) (h₁ := h2) hnd).1 this
  omega
theorem setBlock_grown {W : World} {b : Nat} {o o' : Obj} (hb : W.heap[b]? = some o) : W.grownBy (setBlock W b o') (some b) :=
  ⟨rfl, rfl, rfl, by simp [setBlock], fun i _ hi => (heap_set hb).2 i fun e => hi (by rw [e])⟩
theorem entry_store {W : World} {es : Array MapEntry} {clock j : Nat} {x : MapEntry} (hb : W.heap[b]? = some (.map es clock)) (hs : Stamped es clock) (hj : es[j]? = some x) (ty : TypeId) (val : Value) :
    (Instr.entryStore ty (.map (some b)) (.int .i64 (x.born : Int)) val).run P W = .ok () (setBlock W b (.map (es.modify j fun y => { key := y.key, val := val, born := y.born }) clock)) := by
  have hf := findIdx_born hs hj
  simp [Instr.entryStore, MapKept.run_getObj_map hb, MapKept.run_setObj_map _ hb, Result.andThen, asInt, asIntOf, hf, setBlock]
/-- the entry at a key is laid or found: a look-up answers as before, and a store through the entry is the store at the key -/
theorem ownsMap_entry (h : w.ownsMap P k R b n D) (K : Maps.Keyed P k) (ht : P.underlying t = some (.map k e)) (hn : n < maxLen) {z : Value} (hz : (zeroValue e).run P w = .ok z w) {dz : DataW Unit} (hzR : R z = some (dz, [])) {key : Value} {kl : Lit} (hkey : keyOf P k key = some kl) :
    ∃ (w1 : World) (v : Value) (s : Int), (Instr.mapEntry t (.map (some b)) key).run P w = .ok (.tuple #[v, .int .i64 s]) w1 ∧ w.grownBy w1 (some b) ∧ (∃ D1, w1.ownsMap P k R b (n + 1) D1 ∧ D1.atKey kl dz = D.atKey kl dz) ∧
      ∀ W, W.heap[b]? = w1.heap[b]? → ∀ val d, R val = some (d, []) → ∃ W2, (Instr.entryStore t (.map (some b)) (.int .i64 s) val).run P W = .ok () W2 ∧ W2.ownsMap P k R b (n + 1) (D.put kl d) ∧ W.grownBy W2 (some b) := by
  have hup := fun val d (hv : R val = some (d, [])) => h.update K ht hn hkey hv
  have h' := h
  obtain ⟨es, clock, hb, F, hsz, hD⟩ := h
  rcases K.find w hkey es.toList (fun x hx => by obtain ⟨y, hy⟩ := F.reads x hx; exact ⟨y.1, WideElems.rd_key hy⟩) with ⟨h1, h2⟩ | ⟨j, e0, h1, h2, h3⟩
  · have hrun : ∀ val, (Instr.mapUpdate t (.map (some b)) key val).run P w = .ok () (setBlock w b (.map (es.push { key, val, born := clock }) (clock + 1))) := fun val => by
      simp [Instr.mapUpdate, run_underlying ht, MapKept.run_getObj_map hb, K.check w false hkey, h1, MapKept.run_setObj_map _ hb, Result.andThen, setBlock]
    refine ⟨setBlock w b (.map (es.push { key, val := z, born := clock }) (clock + 1)), z, clock, ?_, setBlock_grown hb, ?_, fun W hW val d hv => ?_⟩
    · simp [Instr.mapEntry, run_underlying ht, MapKept.run_getObj_map hb, K.check w false hkey, h1, hz, MapKept.run_setObj_map _ hb, Result.andThen, setBlock, goInt]
    · obtain ⟨w', r1, r2, _⟩ := hup z dz hzR
      rw [hrun] at r1
      injection r1 with _ r1
      refine ⟨_, r1 ▸ r2, ?_⟩
      have hm : Maps.IsMap D := ⟨_, hD⟩
      rw [Maps.atKey_put_same hm (K.key hkey)]
      have := h'.lookup K ht hz hzR hkey
      obtain ⟨v, ps, q1, q2⟩ := this
      simp [Instr.lookup, run_underlying ht, MapKept.run_getObj_map hb, K.check w _ hkey, h1, hz, Result.andThen] at q1
      subst q1
      rw [hzR] at q2
      injection q2 with q2
      injection q2
    · have hbW := hW.trans (heap_set hb).1
      have hst : Stamped (es.push { key, val := z, born := clock }) (clock + 1) := stamped_push F.stamped h2
      have hs := entry_store (P := P) (b := b) (x := ⟨key, z, clock⟩) hbW hst (j := es.size) (by simp) t val
      refine ⟨_, hs, ?_, setBlock_grown hbW⟩
      obtain ⟨w', r1, r2, _⟩ := hup val d hv
      rw [hrun] at r1
      injection r1 with _ r1
      refine ownsMap_heap (r1 ▸ r2) ?_
      rw [mod_push]
      exact (heap_set hbW).1.trans (heap_set hb).1.symm
  · have hj : es[j]? = some e0 := by simpa using h2
    subst h3
    have hrun : ∀ val, (Instr.mapUpdate t (.map (some b)) e0.key val).run P w = .ok () (setBlock w b (.map (es.modify j fun y => { key := y.key, val := val, born := y.born }) clock)) := fun val => by
      rw [mod_congr es j (fun y => { key := y.key, val := val, born := y.born }) (fun y => { key := e0.key, val := val, born := y.born }) (fun x hx => by rw [hj] at hx; cases hx; rfl)]
      simp [Instr.mapUpdate, run_underlying ht, MapKept.run_getObj_map hb, K.check w false hkey, h1, hj, K.stays w hkey, MapKept.run_setObj_map _ hb, Result.andThen, setBlock]
    have hsame : es.modify j (fun y => { key := e0.key, val := y.val, born := y.born }) = es := mod_self es j _ fun x hx => by rw [hj] at hx; cases hx; rfl
    refine ⟨setBlock w b (.map es clock), e0.val, e0.born, ?_, setBlock_grown hb, ?_, fun W hW val d hv => ?_⟩
    · simp [Instr.mapEntry, run_underlying ht, MapKept.run_getObj_map hb, K.check w false hkey, h1, hj, K.stays w hkey, MapKept.run_setObj_map _ hb, Result.andThen, setBlock, goInt, hsame]
    · refine ⟨D, ?_, rfl⟩
      have := ownsMap_heap h' (W' := setBlock w b (.map es clock)) ((heap_set hb).1.trans hb.symm)
      obtain ⟨a1, a2, a3, a4, a5, a6⟩ := this
      exact ⟨a1, a2, a3, a4, by omega, a6⟩
    · have hbW := hW.trans (heap_set hb).1
      have hs := entry_store (P := P) (b := b) hbW F.stamped hj t val
      refine ⟨_, hs, ?_, setBlock_grown hbW⟩
      obtain ⟨w', r1, r2, _⟩ := hup val d hv
      rw [hrun] at r1
      injection r1 with _ r1
      refine ownsMap_heap (r1 ▸ r2) ?_
      exact (heap_set hbW).1.trans (heap_set hb).1.symm
end
section
variable {P : Program} {k e t : TypeId} {q : IntKind} {w : World} {b n : Nat} {D : DataW Unit} {ops : Array Oper} {o : Oper} {a : Act} {K' : Act → World → Prop} {Q : Exit → Act → World → Prop} {E0 : Prop}
theorem step_lookup (K : Maps.Keyed P k) (ht : P.underlying t = some (.map k e)) (he : P.underlying e = some (.int q)) (hz : ∀ w, (zeroValue e).run P w = .ok (.int q 0) w) (hown : w.ownsMap P k (plainElem P e) b n D) {key : Value} {kl : Lit} (hkey : keyOf P k key = some kl) (C : Int)
    (hC : ∀ c, D.atKey kl (.lit (.int q 0)) = .lit (.int q c) → c = C) {m x : Operand} (h : K' (a.put o.dst (.int q C)) w)
    (hgd : o.guard = none := by rfl) (ho : o.op = Op.lookup t m x false := by rfl) (hm : a.eval m = .map (some b) := by rfl) (hx : a.eval x = key := by rfl) :
    if Region.wanted o (yielded ops a.tmps) = true then Oper.wp P o a w K' Q else E0 := by
  have hw : Region.wanted o (yielded ops a.tmps) = true := by simp [Region.wanted, hgd]
  rw [if_pos hw]
  obtain ⟨c, hrun, hat, _⟩ := hown.lookup_int K ht he (hz w) hkey
  obtain rfl := hC c hat
  unfold Oper.wp
  simp [execOp, ho, hm, hx, hrun, Result.andThen]
  exact h
theorem step_entry (K : Maps.Keyed P k) (ht : P.underlying t = some (.map k e)) (he : P.underlying e = some (.int q)) (hz : ∀ w, (zeroValue e).run P w = .ok (.int q 0) w) (hown : w.ownsMap P k (plainElem P e) b n D) (hn : n < maxLen) {key : Value} {kl : Lit} (hkey : keyOf P k key = some kl)
    {m x : Operand} (h : ∀ (w1 : World) (v : Value) (s : Int) (D1 : DataW Unit), w1.ownsMap P k (plainElem P e) b (n + 1) D1 → D1.atKey kl (.lit (.int q 0)) = D.atKey kl (.lit (.int q 0)) → w.grownBy w1 (some b) →
      (∀ W, W.heap[b]? = w1.heap[b]? → ∀ (c : Int), (Lit.int q c).wf = true → ∃ W2, (Instr.entryStore t (.map (some b)) (.int .i64 s) (.int q c)).run P W = .ok () W2 ∧ W2.ownsMap P k (plainElem P e) b (n + 1) (D.put kl (.lit (.int q c))) ∧ W.grownBy W2 (some b)) →
      K' (a.put o.dst (.tuple #[v, .int .i64 s])) w1)
    (hgd : o.guard = none := by rfl) (ho : o.op = Op.mapEntry t m x := by rfl) (hm : a.eval m = .map (some b) := by rfl) (hx : a.eval x = key := by rfl) :
    if Region.wanted o (yielded ops a.tmps) = true then Oper.wp P o a w K' Q else E0 := by
  have hw : Region.wanted o (yielded ops a.tmps) = true := by simp [Region.wanted, hgd]
  rw [if_pos hw]
  have hw0 : (Lit.int q 0).wf = true := by cases q <;> decide
  obtain ⟨w1, v, s, hrun, hg, ⟨D1, h1, h2⟩, hst⟩ := ownsMap_entry hown K ht hn (hz w) (plainElem_int he hw0) hkey
  unfold Oper.wp
  simp [execOp, ho, hm, hx, hrun, Result.andThen]
  exact h w1 v s D1 h1 h2 hg fun W hW c hc => hst W hW _ _ (plainElem_int he hc)
theorem step_estore {D : Int → DataW Unit} {s c : Int} {w1 : World} (hst : ∀ W, W.heap[b]? = w1.heap[b]? → ∀ (c : Int), (Lit.int q c).wf = true → ∃ W2, (Instr.entryStore t (.map (some b)) (.int .i64 s) (.int q c)).run P W = .ok () W2 ∧ W2.ownsMap P k (plainElem P e) b n (D c) ∧ W.grownBy W2 (some b))
    (hW : w.heap[b]? = w1.heap[b]?) (hc : (Lit.int q c).wf = true) {m x y : Operand} (h : ∀ w2 : World, w2.ownsMap P k (plainElem P e) b n (D c) → w.grownBy w2 (some b) → K' (a.put o.dst undef) w2)
    (hgd : o.guard = none := by rfl) (ho : o.op = Op.entryStore t m x y := by rfl) (hm : a.eval m = .map (some b) := by rfl) (hx : a.eval x = .int .i64 s := by rfl) (hy : a.eval y = .int q c := by rfl) :
    if Region.wanted o (yielded ops a.tmps) = true then Oper.wp P o a w K' Q else E0 := by
  have hw : Region.wanted o (yielded ops a.tmps) = true := by simp [Region.wanted, hgd]
  rw [if_pos hw]
  obtain ⟨w2, hrun, h1, h2⟩ := hst w hW c hc
  unfold Oper.wp
  simp [execOp, ho, hm, hx, hy, hrun, Result.andThen]
  exact h w2 h1 h2
end
end Go.Proofs.YtpgojecldmcopaaDoor
