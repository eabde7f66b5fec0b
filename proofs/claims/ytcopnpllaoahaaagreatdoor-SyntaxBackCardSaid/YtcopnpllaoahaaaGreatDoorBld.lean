/- strings.Builder: copyCheck, WriteString, WriteByte, Reset, of a builder that the call itself has made, its head frozen or not. A builder of the call's own with the text so far: WriteString, WriteByte, String. Sets of bytes: the text of a byte, and of a set (write, Print of the program). No condition. -/
import Derived.Test.YtcopnpllaoahaaaGreatDoorOwn
import Derived.Lib.OthersKept
import Derived.Lib.Builder
import Derived.Lib.FrozenHead
import Derived.Lib.FrozenHead2
import Derived.Lib.AppendStr
import Derived.Laws.Externs
import Derived.Test.YtcopnpllaoahaaaGreatDoorShelf
import Derived.Test.YtcopnpllaoahaaaGreatDoorApp
import Derived.WalkSmall
import Derived.Test.YtcopnpllaoahaaaGreatDoorB26
import Derived.Test.YtcopnpllaoahaaaGreatDoorW2
namespace Go.Proofs.YtcopnpllaoahaaaGreatDoor
open Go.RowKit
abbrev bT : Nat := 83
abbrev bE : Nat := 5
theorem bInfo : (Tryz.prog.info? bT).map (·.size) = some 2 := by kernel_rfl
theorem bLies : liesAt Tryz.prog Tryz.prog.depth bT (2 / Tryz.prog.cellsOf bT) 0 bT 1 = true := by kernel_rfl
theorem u8Info : (Tryz.prog.info? bE).map (fun i => (i.zero, i.size, i.bytes)) = some (some (.int .u8 0), 1, 1) := by kernel_rfl
theorem bneE : bT ≠ bE := by decide

set_option maxHeartbeats 1000000 in
set_option maxRecDepth 100000 in
theorem copyCheck_used (b : Nat) (w : World) (h0 : w.cell? ⟨b, 0, none⟩ = some (.pointer (some ⟨b, 0, none⟩))) :
    Calls Tryz.prog 52 #[.pointer (some ⟨b, 0, none⟩)] w fun e w' => e = .returned (.tuple #[]) ∧ w' = w := by
  obtain ⟨j, hj, _⟩ := Option.map_eq_some_iff.1 bInfo
  go_enter Tryz.func52, Tryz.ntmps52
  go_wp2
  rw [Lib.run_neq_ptr_same w _ Tryz.underlying80 hj]
  go_wp2
  go_end0
  exact ⟨rfl, rfl⟩

set_option maxHeartbeats 1000000 in
set_option maxRecDepth 100000 in
theorem copyCheck_fresh (b : Nat) (w : World) (h0 : w.cell? ⟨b, 0, none⟩ = some (.pointer none)) (hsh : w.shape? b = some (bT, 2)) (hfz : w.frozen? ⟨b, 0, none⟩ = false) :
    Calls Tryz.prog 52 #[.pointer (some ⟨b, 0, none⟩)] w fun e w' => e = .returned (.tuple #[]) ∧ w' = w.setCell ⟨b, 0, none⟩ (.pointer (some ⟨b, 0, none⟩)) := by
  obtain ⟨j, hj, hjs⟩ := Option.map_eq_some_iff.1 bInfo
  go_enter Tryz.func52, Tryz.ntmps52
  go_wp2
  rw [Lib.run_to_unsafe w ⟨b, 0, none⟩ Tryz.underlying80 Tryz.underlying114 hj (by rw [hjs]; decide) hsh (Nat.zero_lt_succ 1)]
  simp only [Result.andThen]
  rw [Oper.upon_value]
  go_wp2
  rw [run_callFunc_extern Tryz.func68 (by kernel_rfl) (by kernel_rfl) (by kernel_rfl) (e := Extern.AbiNoEscape.same) (by kernel_rfl)]
  rw [Lib.run_noEscape]
  simp only [Result.andThen]
  rw [Oper.upon_value]
  go_wp2
  rw [Lib.run_from_unsafe w ⟨b, 0, none⟩ Tryz.underlying114 Tryz.underlying80 hj hsh bLies]
  simp only [Result.andThen]
  rw [Oper.upon_value]
  go_wp2
  go_end0
  exact ⟨rfl, rfl⟩

theorem copyCheck_k (B b : Nat) (bs : List Value) (w : World) (h : Lib.IsBuilderF bT bE B b bs w) :
    Calls Tryz.prog 52 #[.pointer (some ⟨b, 0, none⟩)] w fun e w' => e = .returned (.tuple #[]) ∧ (Lib.BuilderAtF bT bE B b (.pointer (some ⟨b, 0, none⟩)) bs w' ∧ Below B w w' ∧ Lib.OthersKept bE (some b) w w') := by
  rcases h with h | h
  · refine (copyCheck_fresh b w h.cell0 h.shape h.frozen0).mono ?_
    rintro e w' ⟨rfl, rfl⟩
    exact ⟨rfl, h.used _, (Below.refl B w).setCell (p := ⟨b, 0, none⟩) h.1 _, (Lib.OthersKept.refl _ _ w).setCell ⟨b, 0, none⟩ rfl _⟩
  · refine (copyCheck_used b w h.cell0).mono ?_
    rintro e w' ⟨rfl, rfl⟩
    exact ⟨rfl, h, Below.refl B _, Lib.OthersKept.refl _ _ _⟩

set_option maxHeartbeats 2000000 in
set_option maxRecDepth 100000 in
theorem writeString_k (B b : Nat) (bs : List Value) (s : ByteArray) (w : World) (h : Lib.IsBuilderF bT bE B b bs w) (hlen : bs.length + s.size ≤ 140737488355328) (hBw : B ≤ w.heap.size) :
    Calls Tryz.prog 37 #[.pointer (some ⟨b, 0, none⟩), .string s] w fun e w' => e = .returned (.tuple #[.int .i64 s.size, .nilIface]) ∧ (Lib.IsBuilderF bT bE B b (bs ++ Lib.strCells s) w' ∧ Below B w w' ∧ Lib.OthersKept bE (some b) w w') := by
  obtain ⟨i0, hi, hz0, hz1, hz2⟩ := info_parts u8Info
  go_enter Tryz.func37, Tryz.ntmps37
  go_wp2_with (go_at_call 52; refine (copyCheck_k B b bs _ h).mono ?_)
  rintro e w1 ⟨rfl, h1, hb1, hk1⟩
  obtain ⟨hB, v, hbk, hown, hne⟩ := h1
  have c0 : w1.cell? ⟨b, 0, none⟩ = some (.pointer (some ⟨b, 0, none⟩)) := by rw [Lib.cell_of_heap hbk]; rfl
  have c1 : w1.cell? ⟨b, 1, none⟩ = some v := by rw [Lib.cell_of_heap hbk]; rfl
  go_wp2_with (at_builtin; refine Lib.wpList_append_own_stringF _ rfl _ _ 81 9 rfl B bE i0 Tryz.underlying81 Tryz.underlying9 hi hz0 hz1 hz2 _ _ _ rfl hown s rfl ?c3 ?c4 ?c5 ?_)
  case c3 => unfold maxLen; omega
  case c4 => omega
  case c5 => have := hb1.size; omega
  intro v' w2 hown' hgrow _
  have hlt : b < w1.heap.size := by
    rcases Nat.lt_or_ge b w1.heap.size with h' | h'
    · exact h'
    · simp [Array.getElem?_eq_none h'] at hbk
  have hb2 : w2.heap[b]? = some (.cells #[.pointer (some ⟨b, 0, none⟩), v] bT (0, 0)) := by
    rw [hgrow.block b hlt (fun e => hne e.symm)]
    exact hbk
  have d0 : w2.cell? ⟨b, 0, none⟩ = some (.pointer (some ⟨b, 0, none⟩)) := by rw [Lib.cell_of_heap hb2]; rfl
  have d1 : w2.cell? ⟨b, 1, none⟩ = some v := by rw [Lib.cell_of_heap hb2]; rfl
  have f1 : w2.frozen? ⟨b, 1, none⟩ = false := Lib.frozen_of_heap hb2 1
  obtain ⟨ao, n', cap, rfl⟩ : ∃ ao n' cap, v' = .slice ao n' cap := by
    rcases hown'.2 with ⟨hv, _⟩ | ⟨g, cap, cur, fz, hv, _⟩
    · exact ⟨_, _, _, hv⟩
    · exact ⟨_, _, _, hv⟩
  go_wp2
  go_ret2
  refine ⟨rfl, .inr ?_, ?_, (hk1.grown hgrow (Lib.ownsRowF_kind hown)).setCell ⟨b, 1, none⟩ rfl _⟩
  · exact Lib.BuilderAtF.put (T := bT) (e := bE) hB hb2 (bs' := bs ++ Lib.strCells s) (by simpa [Lib.strCells_length] using hown') bneE
  · exact (hb1.grown hgrow (by have := hb1.size; omega) (fun k hk => (hown.lt k hk).1)).setCell (p := ⟨b, 1, none⟩) hB _
end Go.Proofs.YtcopnpllaoahaaaGreatDoor
namespace Go.Proofs.YtcopnpllaoahaaaGreatDoor
open Go.RowKit
theorem others_own {b base size n : Nat} {e : TypeId} {v : Value} {xs : List Value} {w w' : World} (h : Lib.OthersKept bE (some b) w w') (hown : w.ownsRow base e size v n xs) (he : e ≠ bE) (hb : v.ownBlock ≠ some b) :
    w'.ownsRow base e size v n xs := by
  refine ⟨hown.1, ?_⟩
  rcases hown.2 with hn | ⟨g, cap, cur, rfl, hbg, hg, rest⟩
  · exact .inl hn
  · refine .inr ⟨g, cap, cur, rfl, hbg, h g _ hg (by simpa [Value.ownBlock] using hb) (fun c fz he' => ?_), rest⟩
    injection he' with _ he' _
    exact he he'
theorem bld_ne {b base B size n : Nat} {e : TypeId} {v : Value} {xs bs : List Value} {w : World} (hown : w.ownsRow base e size v n xs) (h : Lib.IsBuilderF bT bE B b bs w) (he : e ≠ bT) : v.ownBlock ≠ some b := by
  obtain ⟨p, _, u, hbk, _⟩ : ∃ p, Lib.BuilderAtF bT bE B b p bs w := by
    rcases h with h | h
    · exact ⟨_, h⟩
    · exact ⟨_, h⟩
  rcases hown.2 with ⟨rfl, _⟩ | ⟨g, cap, cur, rfl, _, hh, _⟩
  · simp [Value.ownBlock]
  · intro hh'
    have : g = b := by simpa [Value.ownBlock] using hh'
    subst this
    rw [hbk] at hh
    injection hh with hh
    injection hh with _ ht _
    exact he ht.symm
/-- the builder is kept where another own row is written, or new memory made -/
theorem bld_grown {b B : Nat} {bs : List Value} {w w' : World} {row : Option Nat} (h : Lib.IsBuilderF bT bE B b bs w) (hg : w.grownBy w' row) (hr : row ≠ some b) (hr2 : ∀ g c fz, row = some g → w.heap[g]? ≠ some (.cells c bE fz)) : Lib.IsBuilderF bT bE B b bs w' := by
  have key : ∀ p, Lib.BuilderAtF bT bE B b p bs w → Lib.BuilderAtF bT bE B b p bs w' := by
    rintro p ⟨hB, v, hbk, hown, hne⟩
    have hlt : b < w.heap.size := by
      rcases Nat.lt_or_ge b w.heap.size with h' | h'
      · exact h'
      · simp [Array.getElem?_eq_none h'] at hbk
    refine ⟨hB, v, (hg.block b hlt (fun e => hr e.symm)).trans hbk, hown.kept hg ?_, hne⟩
    rcases hv : v.ownBlock with _ | g
    · exact .inl rfl
    · right
      intro e
      obtain ⟨c, fz, hc⟩ := Lib.ownsRowF_kind hown g hv
      exact hr2 g c fz e.symm hc
  rcases h with h | h
  · exact .inl (key _ h)
  · exact .inr (key _ h)
theorem own_kind {base size n : Nat} {e : TypeId} {v : Value} {xs : List Value} {w : World} (hown : w.ownsRow base e size v n xs) (he : e ≠ bE) : ∀ g c fz, v.ownBlock = some g → w.heap[g]? ≠ some (.cells c bE fz) := by
  intro g c fz hv hh
  rcases hown.2 with ⟨rfl, _⟩ | ⟨g', cap, cur, rfl, _, hg, _⟩
  · simp [Value.ownBlock] at hv
  · have : g' = g := by simpa [Value.ownBlock] using hv
    subst this
    rw [hg] at hh
    injection hh with hh
    injection hh with _ ht _
    exact he ht
theorem bld_lt {b B : Nat} {bs : List Value} {w : World} (h : Lib.IsBuilderF bT bE B b bs w) : b < w.heap.size := by
  rcases h with h | h
  · exact h.lt
  · exact h.lt
/-- a block of another type stands while the builder is written -/
theorem others_blk {b g : Nat} {t : TypeId} {cs : Array Value} {fr : Nat × Nat} {w w' : World} (h : Lib.OthersKept bE (some b) w w') (hg : w.heap[g]? = some (.cells cs t fr)) (hb : g ≠ b) (ht : t ≠ bE) : w'.heap[g]? = some (.cells cs t fr) :=
  h g _ hg (fun e => hb (by injection e)) (fun c fz he => by injection he with _ he _; exact ht he)
theorem bld_below {b B : Nat} {bs : List Value} {w w' : World} (h : Lib.IsBuilderF bT bE B b bs w) (hb : Below w.heap.size w w') : Lib.IsBuilderF bT bE B b bs w' :=
  bld_grown (row := none) h ⟨hb.os, hb.tape, hb.output, hb.size, fun i hi _ => hb.block i hi⟩ (by simp) (fun _ _ _ e => by cases e)
theorem bld_newb {w w1 : World} (hb : Below w.heap.size w w1) : Lib.IsBuilderF bT bE w.heap.size w1.heap.size [] (w1.alloc (.cells #[.pointer none, .slice none 0 0] bT)) :=
  .inl ⟨hb.size, .slice none 0 0, heap_alloc_new w1 _, World.ownsRowF_nil _ _ _ _, by simp [Value.ownBlock]⟩
end Go.Proofs.YtcopnpllaoahaaaGreatDoor
namespace Go.Proofs.YtcopnpllaoahaaaGreatDoor
open Go.RowKit
set_option maxHeartbeats 2000000 in
set_option maxRecDepth 100000 in
theorem writeByte_k (B b : Nat) (bs : List Value) (c : Int) (w : World) (h : Lib.IsBuilderF bT bE B b bs w) (hlen : bs.length + 1 ≤ 140737488355328) (hBw : B ≤ w.heap.size) :
    Calls Tryz.prog 108 #[.pointer (some ⟨b, 0, none⟩), .int .u8 c] w fun e w' => e = .returned .nilIface ∧ (Lib.IsBuilderF bT bE B b (bs ++ [.int .u8 c]) w' ∧ Below B w w' ∧ Lib.OthersKept bE (some b) w w') := by
  obtain ⟨i0, hi, hz0, hz1, hz2⟩ := info_parts u8Info
  go_enter Tryz.func108, Tryz.ntmps108
  go_wp2_with (go_at_call 52; refine (copyCheck_k B b bs _ h).mono ?_)
  rintro e w1 ⟨rfl, h1, hb1, hk1⟩
  obtain ⟨hB, v, hbk, hown, hne⟩ := h1
  have hlt : b < w1.heap.size := heap_lt hbk
  have c0 : w1.cell? ⟨b, 0, none⟩ = some (.pointer (some ⟨b, 0, none⟩)) := by rw [Lib.cell_of_heap hbk]; rfl
  have c1 : w1.cell? ⟨b, 1, none⟩ = some v := by rw [Lib.cell_of_heap hbk]; rfl
  have hB1 : B ≤ w1.heap.size := by have := hb1.size; omega
  have hown1 := hown.alloc (.cells #[.int .u8 c] bE)
  have hn1 : (w1.alloc (.cells #[.int .u8 c] bE)).heap[w1.heap.size]? = some (.cells #[.int .u8 c] bE (0, 0)) := alloc1_new _ _
  have hbk1 : (w1.alloc (.cells #[.int .u8 c] bE)).heap[b]? = some (.cells #[.pointer (some ⟨b, 0, none⟩), v] bT (0, 0)) := alloc_blk hbk
  go_wp2_with (at_builtin; go_loud (refine Go.wpList_append_ownF _ rfl _ _ 81 rfl B bE i0 (.int .u8 0) 1 1 Tryz.underlying81 hi hz0 hz1 hz2 rfl (by decide) _ _ _ rfl hown1 ⟨w1.heap.size, 0, none⟩ 1 1 [.int .u8 c] rfl rfl ?c1 ?c2 ?c3 ?c4 ?c5 ?_))
  case c1 =>
    intro j u hj
    rw [add_lit, Lib.cell_of_heap hn1]
    simpa using hj
  case c2 => intro u hu; rw [List.mem_singleton.1 hu]; rfl
  case c3 => unfold maxLen; omega
  case c4 => omega
  case c5 => simp; omega
  intro v' w2 hown' hgrow _
  have hlt1 : b < (w1.alloc (.cells #[.int .u8 c] bE)).heap.size := heap_lt hbk1
  have hb2 : w2.heap[b]? = some (.cells #[.pointer (some ⟨b, 0, none⟩), v] bT (0, 0)) := by
    rw [hgrow.block b hlt1 (fun e => hne e.symm)]
    exact hbk1
  have d0 : w2.cell? ⟨b, 0, none⟩ = some (.pointer (some ⟨b, 0, none⟩)) := by rw [Lib.cell_of_heap hb2]; rfl
  have d1 : w2.cell? ⟨b, 1, none⟩ = some v := by rw [Lib.cell_of_heap hb2]; rfl
  have f1 : w2.frozen? ⟨b, 1, none⟩ = false := Lib.frozen_of_heap hb2 1
  obtain ⟨ao, n', cap, rfl⟩ : ∃ ao n' cap, v' = .slice ao n' cap := by
    rcases hown'.2 with ⟨hv, _⟩ | ⟨g, cap, cur, fz, hv, _⟩
    · exact ⟨_, _, _, hv⟩
    · exact ⟨_, _, _, hv⟩
  go_wp2
  go_ret
  refine ⟨rfl, .inr ?_, ?_, ((hk1.alloc _).grown hgrow (Lib.ownsRowF_kind hown1)).setCell ⟨b, 1, none⟩ rfl _⟩
  · exact Lib.BuilderAtF.put (T := bT) (e := bE) hB hb2 (bs' := bs ++ [.int .u8 c]) (by simpa using hown') bneE
  · exact ((hb1.alloc hB1 _).grown hgrow (by simp; omega) (fun k hk => (hown1.lt k hk).1)).setCell (p := ⟨b, 1, none⟩) hB _
theorem others_below {w w' : World} {b : Option Nat} (hb : Below w.heap.size w w') : Lib.OthersKept bE b w w' := fun k o hk _ _ => (hb.block k (heap_lt hk)).trans hk
/-- a builder of the call's own with the text so far -/
def Bl (w wr : World) (b : Nat) (l : List UInt8) : Prop := Lib.IsBuilderF bT bE w.heap.size b (Lib.byteCells l) wr
theorem Bl.write {w w' : World} {b : Nat} {l : List UInt8} {s : ByteArray} (h : Lib.IsBuilderF bT bE w.heap.size b (Lib.byteCells l ++ Lib.strCells s) w') : Bl w w' b (l ++ s.data.toList) := by
  unfold Bl
  rw [Lib.byteCells_append]
  exact h
theorem bl_write (w wr : World) (b : Nat) (l : List UInt8) (s : ByteArray) (h : Bl w wr b l) (hb : Below w.heap.size w wr) (hlen : l.length + s.size ≤ 140737488355328) :
    Calls Tryz.prog 37 #[.pointer (some ⟨b, 0, none⟩), .string s] wr fun e w' => e = .returned (.tuple #[.int .i64 s.size, .nilIface]) ∧ Bl w w' b (l ++ s.data.toList) ∧ Below w.heap.size w w' ∧ Lib.OthersKept bE (some b) wr w' :=
  (writeString_k w.heap.size b _ s wr h (by rw [Lib.byteCells_length]; omega) hb.size).mono fun _ _ ⟨h1, h2, h3, h4⟩ => ⟨h1, Bl.write h2, hb.trans h3, h4⟩
theorem bl_string (w wr : World) (b : Nat) (l : List UInt8) (h : Bl w wr b l) (hb : Below w.heap.size w wr) :
    Calls Tryz.prog 39 #[.pointer (some ⟨b, 0, none⟩)] wr fun e w' => e = .returned (.string ⟨l.toArray⟩) ∧ Bl w w' b l ∧ Below w.heap.size w w' ∧ Lib.OthersKept bE (some b) wr w' :=
  (Tryz.Builder_String_any_k w.heap.size b l wr h hb.size).mono fun _ _ ⟨h1, h2, h3, h4⟩ => ⟨h1, h2, hb.trans h3, h4⟩
theorem Bl.below {w wr w' : World} {b : Nat} {l : List UInt8} (h : Bl w wr b l) (hb : Below wr.heap.size wr w') : Bl w w' b l := bld_below h hb
theorem Bl.alloc {w wr : World} {b : Nat} {l : List UInt8} (h : Bl w wr b l) (o : Obj) : Bl w (wr.alloc o) b l := Lib.IsBuilderF.alloc h o
theorem bl_byte (w wr : World) (b : Nat) (l : List UInt8) (c : UInt8) (h : Bl w wr b l) (hb : Below w.heap.size w wr) (hlen : l.length + 1 ≤ 140737488355328) :
    Calls Tryz.prog 108 #[.pointer (some ⟨b, 0, none⟩), .int .u8 c.toNat] wr fun e w' => e = .returned .nilIface ∧ Bl w w' b (l ++ [c]) ∧ Below w.heap.size w w' ∧ Lib.OthersKept bE (some b) wr w' :=
  (writeByte_k w.heap.size b _ c.toNat wr h (by rw [Lib.byteCells_length]; omega) hb.size).mono fun _ _ ⟨h1, h2, h3, h4⟩ => ⟨h1, by unfold Bl; rw [Lib.byteCells_append]; exact h2, hb.trans h3, h4⟩
end Go.Proofs.YtcopnpllaoahaaaGreatDoor
namespace Go.Proofs.YtcopnpllaoahaaaGreatDoor
open Go.RowKit
theorem hxK_hex {n : Nat} (h : n < 16) : hxK n = hexB n := by
  have key : ∀ k : Fin 16, hxK k = hexB k := by decide +kernel
  exact key ⟨n, h⟩
theorem sp_index (c : UInt8) : decide (0 ≤ Lib.indexByte [91, 93, 92, 94, 45] c) = spK c := by
  have key : ∀ k : Fin 256, decide (0 ≤ Lib.indexByte [91, 93, 92, 94, 45] (UInt8.ofNat k)) = spK (UInt8.ofNat k) := by decide +kernel
  have := key ⟨c.toNat, c.toNat_lt⟩
  simpa using this
/-- the byte among those that have a backslash before them -/
theorem marks_ (c : UInt8) (v : Int) (hv : Hid (Lib.indexByte [91, 93, 92, 94, 45] c = v)) (w : World) :
    Calls Tryz.prog 101 #[.string ⟨#[91, 93, 92, 94, 45]⟩, .int .u8 (c.toNat : Int)] w fun e w' => e = .returned (.int .i64 v) ∧ w = w' := by
  refine (Tryz.strings_IndexByte ⟨#[91, 93, 92, 94, 45]⟩ (c.toNat : Int) w).mono ?_
  rintro e w' ⟨rfl, rfl⟩
  refine ⟨?_, rfl⟩
  rw [← hv.out]
  simp
theorem bl_byteI (w wr : World) (b : Nat) (l : List UInt8) (c : UInt8) (i : Int) (hi : Hid (i = (c.toNat : Int))) (h : Bl w wr b l) (hb : Below w.heap.size w wr) (hlen : l.length + 1 ≤ 140737488355328) :
    Calls Tryz.prog 108 #[.pointer (some ⟨b, 0, none⟩), .int .u8 i] wr fun e w' => e = .returned .nilIface ∧ Bl w w' b (l ++ [c]) ∧ Below w.heap.size w w' ∧ Lib.OthersKept bE (some b) wr w' := by
  rw [hi.out]; exact bl_byte w wr b l c h hb hlen
set_option maxRecDepth 100000 in
set_option maxHeartbeats 2000000 in
theorem write_ (w wr : World) (b : Nat) (l : List UInt8) (c : UInt8) (h : Bl w wr b l) (hb : Below w.heap.size w wr) (hlen : l.length ≤ 1000000) :
    Calls Tryz.prog 111 #[.pointer (some ⟨b, 0, none⟩), .int .u8 (c.toNat : Int)] wr fun e w' => e = .returned (.tuple #[]) ∧ Bl w w' b (l ++ txK c) ∧ Below w.heap.size w w' ∧ Lib.OthersKept bE (some b) wr w' := by
  obtain ⟨v, hv⟩ : ∃ v, Lib.indexByte [91, 93, 92, 94, 45] c = v := ⟨_, rfl⟩
  have hsp := sp_index c
  rw [hv] at hsp
  have Hv := Lib.hid hv
  clear hv
  rcases hs : spK c with _ | _
  · rw [hs] at hsp
    have i1 : ¬ (0 ≤ v) := by simpa using hsp
    rcases hp : plK c with _ | _
    · have HT := Lib.hid (show txK c = [92, 120, hxK (c.toNat / 16), hxK (c.toNat % 16)] by unfold txK; rw [hs, hp]; rfl)
      have hn8 := c.toNat_lt
      have hpp : ¬ (33 ≤ c.toNat ∧ c.toNat ≤ 126) := by unfold plK at hp; simpa using hp
      have H16 := Lib.hid (hxK_hex (n := c.toNat / 16) (by omega))
      have H15 := Lib.hid (hxK_hex (n := c.toNat % 16) (by omega))
      have h15 := and15 c.toNat hn8
      clear hs hp hsp
      have g1 : (c.toNat : Int) / 16 < 16 := by omega
      have g2 : (0 : Int) ≤ (c.toNat : Int) / 16 := by omega
      have g3 : (c.toNat : Int) % 16 < 16 := by omega
      have g4 : (0 : Int) ≤ (c.toNat : Int) % 16 := by omega
      go_enter Tryz.func111, Tryz.ntmps111
      go_wp2_with fail
      (with_reducible refine (marks_ c v Hv _).mono ?_); rintro e w1 ⟨rfl, rfl⟩
      by_cases h33 : 33 ≤ c.toNat
      · have i2 : (32 : Int) < (c.toNat : Int) := by omega
        have i3 : ¬ ((c.toNat : Int) < 127) := by omega
        clear hpp h33
        go_wp2_with fail
        (with_reducible refine (bl_write w wr b l ⟨#[92, 120]⟩ h hb (by simp only [ByteArray.size]; simp; omega)).mono ?_); rintro e w2 ⟨rfl, h2, hb2, ho2⟩
        go_wp2_with fail
        (with_reducible refine (bl_byteI w w2 b _ (hexB (c.toNat / 16)) _ ?x1 h2 hb2 (by simp; omega)).mono ?_)
        case x1 => exact Lib.hid (by rw [hexAt (c.toNat / 16) (c.toNat / 16) _ rfl])
        rintro e w3 ⟨rfl, h3, hb3, ho3⟩
        go_wp2_with fail
        (with_reducible refine (bl_byteI w w3 b _ (hexB (c.toNat % 16)) _ ?x2 h3 hb3 (by simp; omega)).mono ?_)
        case x2 => exact Lib.hid (by rw [hexAt (c.toNat % 16) (c.toNat % 16) _ rfl])
        rintro e w4 ⟨rfl, h4, hb4, ho4⟩
        go_wp2
        go_end0
        refine ⟨rfl, ?_, hb4, (ho2.trans ho3).trans ho4⟩
        rw [HT.out, H16.out, H15.out]
        simpa using h4
      · have i2 : ¬ ((32 : Int) < (c.toNat : Int)) := by omega
        clear hpp h33
        go_wp2_with fail
        (with_reducible refine (bl_write w wr b l ⟨#[92, 120]⟩ h hb (by simp only [ByteArray.size]; simp; omega)).mono ?_); rintro e w2 ⟨rfl, h2, hb2, ho2⟩
        go_wp2_with fail
        (with_reducible refine (bl_byteI w w2 b _ (hexB (c.toNat / 16)) _ ?x1 h2 hb2 (by simp; omega)).mono ?_)
        case x1 => exact Lib.hid (by rw [hexAt (c.toNat / 16) (c.toNat / 16) _ rfl])
        rintro e w3 ⟨rfl, h3, hb3, ho3⟩
        go_wp2_with fail
        (with_reducible refine (bl_byteI w w3 b _ (hexB (c.toNat % 16)) _ ?x2 h3 hb3 (by simp; omega)).mono ?_)
        case x2 => exact Lib.hid (by rw [hexAt (c.toNat % 16) (c.toNat % 16) _ rfl])
        rintro e w4 ⟨rfl, h4, hb4, ho4⟩
        go_wp2
        go_end0
        refine ⟨rfl, ?_, hb4, (ho2.trans ho3).trans ho4⟩
        rw [HT.out, H16.out, H15.out]
        simpa using h4
    · have HT := Lib.hid (show txK c = [c] by unfold txK; rw [hs, hp]; rfl)
      have hn8 := c.toNat_lt
      have hpp : 33 ≤ c.toNat ∧ c.toNat ≤ 126 := by unfold plK at hp; simpa using hp
      have i2 : (32 : Int) < (c.toNat : Int) := by omega
      have i3 : (c.toNat : Int) < 127 := by omega
      clear hs hp hsp hpp
      go_enter Tryz.func111, Tryz.ntmps111
      go_wp2_with fail
      (with_reducible refine (marks_ c v Hv _).mono ?_); rintro e w1 ⟨rfl, rfl⟩
      go_wp2_with fail
      (with_reducible refine (bl_byte w wr b l c h hb (by omega)).mono ?_); rintro e w2 ⟨rfl, h2, hb2, ho2⟩
      go_wp2
      go_end0
      exact ⟨rfl, by rw [HT.out]; exact h2, hb2, ho2⟩
  · rw [hs] at hsp
    have i1 : 0 ≤ v := by simpa using hsp
    have HT := Lib.hid (show txK c = [92, c] by unfold txK; rw [hs]; rfl)
    clear hs hsp
    go_enter Tryz.func111, Tryz.ntmps111
    go_wp2_with fail
    (with_reducible refine (marks_ c v Hv _).mono ?_); rintro e w1 ⟨rfl, rfl⟩
    go_wp2_with fail
    (with_reducible refine (bl_byteI w wr b l 92 92 (Lib.hid rfl) h hb (by omega)).mono ?_); rintro e w2 ⟨rfl, h2, hb2, ho2⟩
    go_wp2_with fail
    (with_reducible refine (bl_byte w w2 b _ c h2 hb2 (by simp; omega)).mono ?_); rintro e w3 ⟨rfl, h3, hb3, ho3⟩
    go_wp2
    go_end0
    refine ⟨rfl, ?_, hb3, ho2.trans ho3⟩
    rw [HT.out]
    simpa using h3
end Go.Proofs.YtcopnpllaoahaaaGreatDoor
