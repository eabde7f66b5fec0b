/- Traces: the order of regions by their bases (slices.SortFunc with the closure of Parts). -/
import Derived.Test.YtpgojecldmcopaaGreatDoorT8
import Derived.Shelf.SlSortCmp.Whole1
namespace Go.Proofs.YtpgojecldmcopaaGreatDoor
open Go.RowKit Go.Shelf
theorem sorted_block {α : Type} [Inhabited α] {enc : α → Value} {w : World} {g n : Nat} {os : Array Obj} {cur : Array Value} {e : TypeId} {fr : Nat × Nat} (d : Array α) (hb : w.heap[g]? = some (.cells cur e fr)) :
    (sortWorld enc w g 0 n d os).heap[g]? = some (.cells (Sort.putCells enc 0 d cur) e fr) := by
  have hg : g < w.heap.size := heap_lt hb
  unfold sortWorld
  rw [Sort.heap_grow_old _ _ (by simpa using hg)]
  simp [Sort.putRow, Sort.mapBlock, Sort.ahead, Array.getElem?_modify, hb, Sort.onCells]
theorem sorted_grown {α : Type} [Inhabited α] {enc : α → Value} {w : World} {g n : Nat} {os : Array Obj} (d : Array α) : w.grownBy (sortWorld enc w g 0 n d os) (some g) := by
  unfold sortWorld
  refine ⟨rfl, rfl, rfl, by simp, fun k hk hne => ?_⟩
  rw [Sort.heap_grow_old _ _ (by simpa using hk)]
  have : g ≠ k := fun e => hne (by rw [e])
  simp [Sort.putRow, Sort.mapBlock, Sort.ahead, Array.getElem?_modify, this]
set_option maxRecDepth 100000 in
theorem cmp_ (w : World) (R0 b off c' i k : Nat) (B B' : Int) (n : Nat) (hi : i < n) (hk : k < n) (hR : w.cell? ⟨R0, 0, none⟩ = some (.slice (some ⟨b, off, none⟩) n c'))
    (c1 : w.cell? ⟨b, off + i * 3 + 1, none⟩ = some (.int .i64 B)) (c2 : w.cell? ⟨b, off + k * 3 + 1, none⟩ = some (.int .i64 B')) (hB : 0 ≤ B ∧ B ≤ 65536) (hB' : 0 ≤ B' ∧ B' ≤ 65536) :
    Calls Tryz.prog 38 #[.int .i64 i, .int .i64 k, .pointer (some ⟨R0, 0, none⟩)] w fun e w' => e = .returned (.int .i64 (B - B')) ∧ ∃ q, w' = w.drewN q := by
  have i1 : IntKind.i64.wrap (B - B') = B - B' := IntWalk.i64_in _ (by omega)
  have h1 : (0 : Int) ≤ (i : Int) := by omega
  have h2 : (0 : Int) ≤ (k : Int) := by omega
  have h3 : (i : Int) < (n : Int) := by omega
  have h4 : (k : Int) < (n : Int) := by omega
  go_enter Tryz.func38, Tryz.ntmps38
  go_wp2
  go_quiet (fail)
  go_wp2
  go_ret
  exact ⟨rfl, _, rfl⟩
def bsR (r : List Rg) (k : Nat) : Int := (r.getD k rgz).2.1
def nats (o : List Nat) : List Int := o.map Int.ofNat
theorem cell_box {w : World} {g : Nat} {v : Value} {t : TypeId} (h : w.heap[g]? = some (.cells #[v] t (0, 0))) : w.cell? ⟨g, 0, none⟩ = some v := Lib.cell_of_heap h 0
theorem putCells_all {α : Type} [Inhabited α] (enc : α → Value) (d : Array α) (cur : Array Value) (h : cur.size = d.size) : Sort.putCells enc 0 d cur = (d.toList.map enc).toArray := by
  apply Array.ext
  · simp [Sort.putCells, h]
  · intro i h1 h2
    have hi : i < d.size := by simpa using h2
    simp [Sort.putCells, hi]
set_option maxHeartbeats 1000000 in
theorem sort_ {ρ : Ren} (L : SlLaysF.n6 Tryz.prog ρ) (w : World) (G R0 : Nat) (A' : Option Addr) (c' cap : Nat) (r : List Rg) (hne : 0 < r.length) (hr : r.length ≤ 1000000) (hR : Reads w G 3 A' r.length (rgs r))
    (hG : w.heap[G]? = some (CtO (nats (List.range r.length)))) (hbox : w.heap[R0]? = some (.cells #[.slice A' r.length c'] 46 (0, 0))) (hRG : R0 ≠ G) (hb : ∀ y ∈ r, badRg y = false) :
    Calls Tryz.prog (ρ.f 6) #[.slice (some ⟨G, 0, none⟩) r.length cap, .func (.func 38) #[] #[.pointer (some ⟨R0, 0, none⟩)]] w fun e w' => e = .returned (.tuple #[]) ∧
      ∃ o : List Nat, o.Perm (List.range r.length) ∧ (∀ i j (hi : i < j) (hj : j < o.length), bsR r (o[i]'(Nat.lt_trans hi hj)) ≤ bsR r o[j]) ∧ w'.heap[G]? = some (CtO (nats o)) ∧ w.grownBy w' (some G) := by
  haveI : Inhabited (Fin r.length) := ⟨⟨0, hne⟩⟩
  obtain ⟨enc, henc⟩ : ∃ enc : Fin r.length → Value, enc = fun x => Value.int .i64 (x.val : Int) := ⟨_, rfl⟩
  obtain ⟨cf, hcf⟩ : ∃ cf : Fin r.length → Fin r.length → Int, cf = fun x y => bsR r x.val - bsR r y.val := ⟨_, rfl⟩
  obtain ⟨d, hd⟩ : ∃ d : Array (Fin r.length), d = Array.ofFn fun i => i := ⟨_, rfl⟩
  have hds : d.size = r.length := by rw [hd]; simp
  have lt_ : ∀ x y, ltOf cf x y = decide (bsR r x.val < bsR r y.val) := fun x y => by unfold ltOf; rw [hcf]; congr 1; simp only [eq_iff_iff]; omega
  have hO : Sort.SWO (ltOf cf) := ⟨fun x => by rw [lt_]; simp, fun x y z h1 h2 => by rw [lt_] at *; simp at *; omega, fun x y z h1 h2 => by rw [lt_] at *; simp at *; omega⟩
  have hbd : ∀ x : Fin r.length, 0 ≤ bsR r x.val ∧ bsR r x.val ≤ 65536 := fun x => by
    have := badRg_iff.1 (show badRg ((r.getD x.val rgz).1, (r.getD x.val rgz).2.1, (r.getD x.val rgz).2.2) = false from hb _ (by rw [getD_at x.isLt]; exact List.getElem_mem _))
    exact ⟨this.1.1, this.2.1⟩
  have hgl := heap_lt hG
  have hcmp : CmpLays1 Tryz.prog 38 #[.pointer (some ⟨R0, 0, none⟩)] enc cf G 0 d.size w := by
    intro m os dk hdk x y
    have hg := sorted_grown (enc := enc) (w := w) (g := G) (n := m) (os := os) dk
    have hbx := cell_box ((hg.block R0 (heap_lt hbox) (by intro e; injection e with e; exact hRG e)).trans hbox)
    have hR' := hR.keep (w' := sortWorld enc w G 0 m dk os) fun p hp => World.cell?_of_block (hg.block p.block (by omega) (by intro e; injection e with e; omega))
    obtain ⟨b, off, s, B, S, rfl, _, _, c1, _, h1⟩ := rgAt hR' x.isLt
    obtain ⟨b', off', s', B', S', hA, _, _, c2, _, h2⟩ := rgAt hR' y.isLt
    injection hA with hA; injection hA with e1 e2; subst e1 e2
    obtain ⟨_, g1⟩ := getD_hd (z := rgz) h1
    obtain ⟨_, g2⟩ := getD_hd (z := rgz) h2
    have k1 : bsR r x.val = B := by unfold bsR; rw [g1]
    have k2 : bsR r y.val = B' := by unfold bsR; rw [g2]
    have hc := cmp_ _ R0 b off c' x.val y.val B B' r.length x.isLt y.isLt hbx c1 c2 (k1 ▸ hbd x) (k2 ▸ hbd y)
    rw [henc, hcf]
    simp only
    rw [k1, k2]
    rw [henc] at hc
    refine hc.mono ?_
    rintro e w' ⟨rfl, q, rfl⟩
    exact ⟨rfl, q, #[], by rw [Sort.grow_empty]⟩
  have hH : Sort.Holds enc w G 0 d := by
    intro j hj
    have hj' : j < r.length := by omega
    refine ⟨?_, by simp [World.frozen?, hG]⟩
    rw [Nat.zero_add, Lib.cell_of_heap hG, henc, getElem!_pos d j hj]
    simp [nats, hd, hj']
  have hmain := Any.slices_SortFunc L enc (by rw [henc]; exact fun _ => rfl) cf hO 38 #[.pointer (some ⟨R0, 0, none⟩)] G 0 cap d w (enters_of Tryz.func38 (by kernel_rfl) rfl) hcmp hH hgl (by omega)
  rw [hds] at hmain
  refine hmain.mono ?_
  rintro e w' ⟨rfl, d', n, os, hp, hs, rfl⟩
  obtain ⟨p1, _, p3⟩ := hp
  have hd's : d'.size = r.length := p1.trans hds
  have x1 : d'.extract 0 r.length = d' := Array.extract_eq_self_of_le (by omega)
  have x2 : d.extract 0 r.length = d := Array.extract_eq_self_of_le (by omega)
  rw [x1, x2] at p3
  have hrange : d.toList.map Fin.val = List.range r.length := by
    rw [hd]
    apply List.ext_getElem
    · simp
    · intro i h1 h2; simp
  refine ⟨rfl, d'.toList.map Fin.val, hrange ▸ p3.map Fin.val, fun i j hi hj => ?_, ?_, sorted_grown d'⟩
  · have hj' : j < d'.size := by simpa using hj
    have := hs i j (Nat.zero_le _) hi (by omega)
    rw [lt_, decide_eq_false_iff_not, getElem!_pos d' j hj', getElem!_pos d' i (by omega)] at this
    simp only [List.getElem_map, Array.getElem_toList]
    omega
  · rw [sorted_block d' hG, putCells_all enc d' _ (by simp [nats, hd's])]
    congr 3
    rw [henc]
    simp [nats]
end Go.Proofs.YtpgojecldmcopaaGreatDoor
