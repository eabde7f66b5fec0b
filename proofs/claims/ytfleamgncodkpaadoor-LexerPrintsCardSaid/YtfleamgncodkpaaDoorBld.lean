/- strings.Builder: copyCheck, WriteString, WriteByte, Reset, of a builder that the call itself has made, its head frozen or not. -/
import Derived.Test.YtfleamgncodkpaaDoorOwn
import Derived.Lib.OthersKept
import Derived.Lib.Builder
import Derived.Lib.FrozenHead
import Derived.Lib.FrozenHead2
import Derived.Lib.AppendStr
import Derived.Laws.Externs
namespace Go.Proofs.YtfleamgncodkpaaDoor
open Go.RowKit
abbrev bT : Nat := 56
abbrev bE : Nat := 5
theorem bInfo : (Tryd.prog.info? bT).map (·.size) = some 2 := by kernel_rfl
theorem bLies : liesAt Tryd.prog Tryd.prog.depth bT (2 / Tryd.prog.cellsOf bT) 0 bT 1 = true := by kernel_rfl
theorem u8Info : (Tryd.prog.info? bE).map (fun i => (i.zero, i.size, i.bytes)) = some (some (.int .u8 0), 1, 1) := by kernel_rfl
theorem bneE : bT ≠ bE := by decide

set_option maxHeartbeats 1000000 in
set_option maxRecDepth 100000 in
theorem copyCheck_used (b : Nat) (w : World) (h0 : w.cell? ⟨b, 0, none⟩ = some (.pointer (some ⟨b, 0, none⟩))) :
    Calls Tryd.prog 47 #[.pointer (some ⟨b, 0, none⟩)] w fun e w' => e = .returned (.tuple #[]) ∧ w' = w := by
  obtain ⟨j, hj, _⟩ := Option.map_eq_some_iff.1 bInfo
  go_enter Tryd.func47, Tryd.ntmps47
  go_wp2
  rw [Lib.run_neq_ptr_same w _ Tryd.underlying53 hj]
  go_wp2
  go_end0
  exact ⟨rfl, rfl⟩

set_option maxHeartbeats 1000000 in
set_option maxRecDepth 100000 in
theorem copyCheck_fresh (b : Nat) (w : World) (h0 : w.cell? ⟨b, 0, none⟩ = some (.pointer none)) (hsh : w.shape? b = some (bT, 2)) (hfz : w.frozen? ⟨b, 0, none⟩ = false) :
    Calls Tryd.prog 47 #[.pointer (some ⟨b, 0, none⟩)] w fun e w' => e = .returned (.tuple #[]) ∧ w' = w.setCell ⟨b, 0, none⟩ (.pointer (some ⟨b, 0, none⟩)) := by
  obtain ⟨j, hj, hjs⟩ := Option.map_eq_some_iff.1 bInfo
  go_enter Tryd.func47, Tryd.ntmps47
  go_wp2
  rw [Lib.run_to_unsafe w ⟨b, 0, none⟩ Tryd.underlying53 Tryd.underlying103 hj (by rw [hjs]; decide) hsh (Nat.zero_lt_succ 1)]
  simp only [Result.andThen]
  rw [Oper.upon_value]
  go_wp2
  rw [run_callFunc_extern Tryd.func66 (by kernel_rfl) (by kernel_rfl) (by kernel_rfl) (e := Extern.AbiNoEscape.same) (by kernel_rfl)]
  rw [Lib.run_noEscape]
  simp only [Result.andThen]
  rw [Oper.upon_value]
  go_wp2
  rw [Lib.run_from_unsafe w ⟨b, 0, none⟩ Tryd.underlying103 Tryd.underlying53 hj hsh bLies]
  simp only [Result.andThen]
  rw [Oper.upon_value]
  go_wp2
  go_end0
  exact ⟨rfl, rfl⟩

theorem copyCheck_k (B b : Nat) (bs : List Value) (w : World) (h : Lib.IsBuilderF bT bE B b bs w) :
    Calls Tryd.prog 47 #[.pointer (some ⟨b, 0, none⟩)] w fun e w' => e = .returned (.tuple #[]) ∧ (Lib.BuilderAtF bT bE B b (.pointer (some ⟨b, 0, none⟩)) bs w' ∧ Below B w w' ∧ Lib.OthersKept bE (some b) w w') := by
  rcases h with h | h
  · refine (copyCheck_fresh b w h.cell0 h.shape h.frozen0).mono ?_
    rintro e w' ⟨rfl, rfl⟩
    exact ⟨rfl, h.used _, (Below.refl B w).setCell (p := ⟨b, 0, none⟩) h.1 _, (Lib.OthersKept.refl _ _ w).setCell ⟨b, 0, none⟩ rfl _⟩
  · refine (copyCheck_used b w h.cell0).mono ?_
    rintro e w' ⟨rfl, rfl⟩
    exact ⟨rfl, h, Below.refl B _, Lib.OthersKept.refl _ _ _⟩

set_option maxHeartbeats 2000000 in
set_option maxRecDepth 100000 in
theorem writeString_k (B b : Nat) (bs : List Value) (s : ByteArray) (w : World) (h : Lib.IsBuilderF bT bE B b bs w) (hlen : bs.length + s.size ≤ 140737488355328) (hBw : B ≤ w.heap.size) :
    Calls Tryd.prog 28 #[.pointer (some ⟨b, 0, none⟩), .string s] w fun e w' => e = .returned (.tuple #[.int .i64 s.size, .nilIface]) ∧ (Lib.IsBuilderF bT bE B b (bs ++ Lib.strCells s) w' ∧ Below B w w' ∧ Lib.OthersKept bE (some b) w w') := by
  obtain ⟨i0, hi, hz0, hz1, hz2⟩ := info_parts u8Info
  go_enter Tryd.func28, Tryd.ntmps28
  go_wp2_with (go_at_call 47; refine (copyCheck_k B b bs _ h).mono ?_)
  rintro e w1 ⟨rfl, h1, hb1, hk1⟩
  obtain ⟨hB, v, hbk, hown, hne⟩ := h1
  have c0 : w1.cell? ⟨b, 0, none⟩ = some (.pointer (some ⟨b, 0, none⟩)) := by rw [Lib.cell_of_heap hbk]; rfl
  have c1 : w1.cell? ⟨b, 1, none⟩ = some v := by rw [Lib.cell_of_heap hbk]; rfl
  go_wp2_with (at_builtin; refine Lib.wpList_append_own_stringF _ rfl _ _ 54 9 rfl B bE i0 Tryd.underlying54 Tryd.underlying9 hi hz0 hz1 hz2 _ _ _ rfl hown s rfl ?c3 ?c4 ?c5 ?_)
  case c3 => unfold maxLen; omega
  case c4 => omega
  case c5 => have := hb1.size; omega
  intro v' w2 hown' hgrow _
  have hlt : b < w1.heap.size := by
    rcases Nat.lt_or_ge b w1.heap.size with h' | h'
    · exact h'
    · simp [Array.getElem?_eq_none h'] at hbk
  have hb2 : w2.heap[b]? = some (.cells #[.pointer (some ⟨b, 0, none⟩), v] bT (0, 0)) := by
    rw [hgrow.block b hlt (fun e => hne e.symm)]
    exact hbk
  have d0 : w2.cell? ⟨b, 0, none⟩ = some (.pointer (some ⟨b, 0, none⟩)) := by rw [Lib.cell_of_heap hb2]; rfl
  have d1 : w2.cell? ⟨b, 1, none⟩ = some v := by rw [Lib.cell_of_heap hb2]; rfl
  have f1 : w2.frozen? ⟨b, 1, none⟩ = false := Lib.frozen_of_heap hb2 1
  obtain ⟨ao, n', cap, rfl⟩ : ∃ ao n' cap, v' = .slice ao n' cap := by
    rcases hown'.2 with ⟨hv, _⟩ | ⟨g, cap, cur, fz, hv, _⟩
    · exact ⟨_, _, _, hv⟩
    · exact ⟨_, _, _, hv⟩
  go_wp2
  go_ret2
  refine ⟨rfl, .inr ?_, ?_, (hk1.grown hgrow (Lib.ownsRowF_kind hown)).setCell ⟨b, 1, none⟩ rfl _⟩
  · exact Lib.BuilderAtF.put (T := bT) (e := bE) hB hb2 (bs' := bs ++ Lib.strCells s) (by simpa [Lib.strCells_length] using hown') bneE
  · exact (hb1.grown hgrow (by have := hb1.size; omega) (fun k hk => (hown.lt k hk).1)).setCell (p := ⟨b, 1, none⟩) hB _
end Go.Proofs.YtfleamgncodkpaaDoor
namespace Go.Proofs.YtfleamgncodkpaaDoor
open Go.RowKit
theorem others_own {b base size n : Nat} {e : TypeId} {v : Value} {xs : List Value} {w w' : World} (h : Lib.OthersKept bE (some b) w w') (hown : w.ownsRow base e size v n xs) (he : e ≠ bE) (hb : v.ownBlock ≠ some b) :
    w'.ownsRow base e size v n xs := by
  refine ⟨hown.1, ?_⟩
  rcases hown.2 with hn | ⟨g, cap, cur, rfl, hbg, hg, rest⟩
  · exact .inl hn
  · refine .inr ⟨g, cap, cur, rfl, hbg, h g _ hg (by simpa [Value.ownBlock] using hb) (fun c fz he' => ?_), rest⟩
    injection he' with _ he' _
    exact he he'
theorem bld_ne {b base B size n : Nat} {e : TypeId} {v : Value} {xs bs : List Value} {w : World} (hown : w.ownsRow base e size v n xs) (h : Lib.IsBuilderF bT bE B b bs w) (he : e ≠ bT) : v.ownBlock ≠ some b := by
  obtain ⟨p, _, u, hbk, _⟩ : ∃ p, Lib.BuilderAtF bT bE B b p bs w := by
    rcases h with h | h
    · exact ⟨_, h⟩
    · exact ⟨_, h⟩
  rcases hown.2 with ⟨rfl, _⟩ | ⟨g, cap, cur, rfl, _, hh, _⟩
  · simp [Value.ownBlock]
  · intro hh'
    have : g = b := by simpa [Value.ownBlock] using hh'
    subst this
    rw [hbk] at hh
    injection hh with hh
    injection hh with _ ht _
    exact he ht.symm
/-- the builder is kept where another own row is written, or new memory made -/
theorem bld_grown {b B : Nat} {bs : List Value} {w w' : World} {row : Option Nat} (h : Lib.IsBuilderF bT bE B b bs w) (hg : w.grownBy w' row) (hr : row ≠ some b) (hr2 : ∀ g c fz, row = some g → w.heap[g]? ≠ some (.cells c bE fz)) : Lib.IsBuilderF bT bE B b bs w' := by
  have key : ∀ p, Lib.BuilderAtF bT bE B b p bs w → Lib.BuilderAtF bT bE B b p bs w' := by
    rintro p ⟨hB, v, hbk, hown, hne⟩
    have hlt : b < w.heap.size := by
      rcases Nat.lt_or_ge b w.heap.size with h' | h'
      · exact h'
      · simp [Array.getElem?_eq_none h'] at hbk
    refine ⟨hB, v, (hg.block b hlt (fun e => hr e.symm)).trans hbk, hown.kept hg ?_, hne⟩
    rcases hv : v.ownBlock with _ | g
    · exact .inl rfl
    · right
      intro e
      obtain ⟨c, fz, hc⟩ := Lib.ownsRowF_kind hown g hv
      exact hr2 g c fz e.symm hc
  rcases h with h | h
  · exact .inl (key _ h)
  · exact .inr (key _ h)
theorem own_kind {base size n : Nat} {e : TypeId} {v : Value} {xs : List Value} {w : World} (hown : w.ownsRow base e size v n xs) (he : e ≠ bE) : ∀ g c fz, v.ownBlock = some g → w.heap[g]? ≠ some (.cells c bE fz) := by
  intro g c fz hv hh
  rcases hown.2 with ⟨rfl, _⟩ | ⟨g', cap, cur, rfl, _, hg, _⟩
  · simp [Value.ownBlock] at hv
  · have : g' = g := by simpa [Value.ownBlock] using hv
    subst this
    rw [hg] at hh
    injection hh with hh
    injection hh with _ ht _
    exact he ht
theorem bld_lt {b B : Nat} {bs : List Value} {w : World} (h : Lib.IsBuilderF bT bE B b bs w) : b < w.heap.size := by
  rcases h with h | h
  · exact h.lt
  · exact h.lt
/-- a block of another type stands while the builder is written -/
theorem others_blk {b g : Nat} {t : TypeId} {cs : Array Value} {fr : Nat × Nat} {w w' : World} (h : Lib.OthersKept bE (some b) w w') (hg : w.heap[g]? = some (.cells cs t fr)) (hb : g ≠ b) (ht : t ≠ bE) : w'.heap[g]? = some (.cells cs t fr) :=
  h g _ hg (fun e => hb (by injection e)) (fun c fz he => by injection he with _ he _; exact ht he)
theorem bld_below {b B : Nat} {bs : List Value} {w w' : World} (h : Lib.IsBuilderF bT bE B b bs w) (hb : Below w.heap.size w w') : Lib.IsBuilderF bT bE B b bs w' :=
  bld_grown (row := none) h ⟨hb.os, hb.tape, hb.output, hb.size, fun i hi _ => hb.block i hi⟩ (by simp) (fun _ _ _ e => by cases e)
theorem bld_newb {w w1 : World} (hb : Below w.heap.size w w1) : Lib.IsBuilderF bT bE w.heap.size w1.heap.size [] (w1.alloc (.cells #[.pointer none, .slice none 0 0] bT)) :=
  .inl ⟨hb.size, .slice none 0 0, heap_alloc_new w1 _, World.ownsRowF_nil _ _ _ _, by simp [Value.ownBlock]⟩
end Go.Proofs.YtfleamgncodkpaaDoor
