/- Total and Streams, of the script and of its reference. -/
import Derived.Test.YtoogemdcmnjpnaaDoorS3
import Derived.Test.YtoogemdcmnjpnaaDoorBldReset
import Derived.Test.YtoogemdcmnjpnaaDoorShelf
namespace Go.Proofs.YtoogemdcmnjpnaaDoor
open Go.RowKit

theorem scErr_ok {K : Int} {s : ByteArray} (h : scErr (K, s) = 0) : 1 ≤ K ∧ K ≤ 4 ∧ s.size ≤ 1100 ∧ (K ≠ 1 → s.size = 0) := by
  unfold scErr at h
  simp only at h
  split at h
  · simp at h
  · split at h
    · simp at h
    · split at h
      · simp at h
      · omega
theorem chkFrom_ok {l : List Sc} {i : Nat} (h : (chkFrom i l).2 = 0) : ∀ x ∈ l, scErr x = 0 := by
  induction l generalizing i with
  | nil => simp
  | cons x r ih =>
    rw [chkFrom] at h
    by_cases hx : scErr x = 0
    · rw [if_pos hx] at h
      intro y hy
      rcases List.mem_cons.1 hy with rfl | hy
      · exact hx
      · exact ih h y hy
    · rw [if_neg hx] at h
      exact absurd h hx
theorem chk_ok {l : List Sc} (h : (chk l).2 = 0) : ∀ x ∈ l, scErr x = 0 := by
  have hl := chk_len h
  unfold chk at h
  rw [if_neg (by omega)] at h
  exact chkFrom_ok h
/-- one call of a script that stands in memory and is in order -/
theorem scAtOk {w : World} {B k : Nat} {A : Option Addr} {l : List Sc} (h : Reads w B 2 A l.length (scs l)) (hk : k < l.length) (h0 : Hid ((chk l).2 = 0)) :
    ∃ b off K s, A = some ⟨b, off, none⟩ ∧ b < B ∧ w.cell? ⟨b, off + k * 2, none⟩ = some (.int .i64 K) ∧ w.cell? ⟨b, off + k * 2 + 1, none⟩ = some (.string s) ∧
      Hid (l.drop k = (K, s) :: l.drop (k + 1)) ∧ 1 ≤ K ∧ K ≤ 4 ∧ s.size ≤ 1100 ∧ Hid (K ≠ 1 → s.size = 0) := by
  obtain ⟨b, off, e, hb, c1, c2⟩ := h.at2 rfl hk
  obtain ⟨h1, h2, h3, h4⟩ := scErr_ok (K := l[k].1) (s := l[k].2) (chk_ok h0.out _ (List.getElem_mem hk))
  exact ⟨b, off, _, _, e, hb, c1, c2, List.drop_eq_getElem_cons hk, h1, h2, h3, h4⟩

/-! Total -/
def lensum : List Sh → Int
  | [] => 0
  | p :: r => p.2 + lensum r
theorem lensum_shp (l : List Sc) : lensum (shp l) = (bytesOf l : Int) := by
  induction l with
  | nil => rfl
  | cons x r ih => unfold shp at *; simp [lensum, bytesOf, ih]
theorem lensum_shape (l : List Sc) : lensum (shape l) = (total l : Int) := by
  unfold total
  by_cases h : (chk l).2 = 0
  · rw [shape_pos h, if_pos h, lensum_shp]
  · rw [shape_neg h, if_neg h]; rfl
theorem shape_bd {l : List Sc} (hs : Sizes l) : ∀ p ∈ shape l, 0 ≤ p.2 ∧ p.2 ≤ 140737488355328 := by
  intro p hp
  by_cases h : (chk l).2 = 0
  · rw [shape_pos h] at hp
    unfold shp at hp
    obtain ⟨x, hx, rfl⟩ := List.mem_map.1 hp
    have := hs x hx
    simp only
    omega
  · rw [shape_neg h] at hp; simp at hp
def TotRel (l : List Sh) (m : Int) (k : Nat) : Prop := m + lensum (l.drop k) = lensum l
theorem TotRel.step {l : List Sh} {m K n : Int} {k : Nat} (h : TotRel l m k) (hd : Hid (l.drop k = (K, n) :: l.drop (k + 1))) : TotRel l (m + n) (k + 1) := by
  unfold TotRel at *
  rw [hd.out, lensum] at h
  simp only at h
  omega
theorem TotRel.done {l : List Sh} {m : Int} {k : Nat} (h : TotRel l m k) (hk : l.length ≤ k) : m = lensum l := by
  unfold TotRel at h
  rw [List.drop_eq_nil_of_le hk, lensum] at h
  omega
theorem ret_ii {k : IntKind} {a b x y : Int} (h : a = b) (h' : x = y) : Ending.returned (.tuple #[.int .i64 a, .int k x]) = .returned (.tuple #[.int .i64 b, .int k y]) := by rw [h, h']

set_option maxRecDepth 100000 in
set_option maxHeartbeats 400000 in
theorem stotal (w : World) (A : Option Addr) (c : Nat) (l : List Sc) (h : IsSc w A l) :
    Calls Tryd.prog 27 #[.slice A l.length c] w fun e w' => e = .returned (.tuple #[.int .i64 (total l : Int), .int .i64 (chk l).2]) ∧ Below w.heap.size w w' := by
  have hbd := Lib.hid (shape_bd h.sz)
  have hl2 := shape_len l
  have Ht := Lib.hid (lensum_shape l)
  go_enter Tryd.func27, Tryd.ntmps27
  go_wp2_with fail
  (with_reducible refine (sshape w A c l h).mono ?_); rintro e w1 ⟨A1, c1, rfl, hb1, hr1, _, _⟩
  generalize shape l = sl at *
  go_wp2
  go_loopw [6, 16] (fun v i wr => ∃ (k : Nat) (m : Int), k ≤ sl.length ∧ i = .int .i64 k ∧ v = .int .i64 m ∧ Below w1.heap.size w1 wr ∧ 0 ≤ m ∧ m ≤ k * 140737488355328 ∧ TotRel sl m k) (fun _ i _ => sl.length - (intOf i).toNat)
  case atStart => exact ⟨0, 0, Nat.zero_le _, rfl, rfl, Below.refl _ _, by omega, by omega, by simp [TotRel]⟩
  case round =>
    obtain ⟨k, m, hk, rfl, rfl, hbl, hm0, hm1, hr⟩ := hrel
    by_cases hlt : k < sl.length
    · obtain ⟨b, off, K, n, rfl, hb, d1, d2, hd⟩ := shAt (hr1.below hbl) hlt
      have hn := hbd.out (K, n) (List.mem_of_mem_drop (by rw [hd.out]; exact List.mem_cons_self))
      simp only at hn
      have hb2 := hbl.size
      have hbd2 : m + n ≤ 201 * 140737488355328 := by omega
      have hbd3 : 0 ≤ m + n := by omega
      go_wp2
      go_roundw
      case rel => exact ⟨k + 1, m + n, by omega, by go_num, rfl, hbl.alloc hb2 _, by omega, by omega, hr.step hd⟩
      case measure => simp [intOf]; omega
    · go_wp2
      go_ret2
      exact ⟨ret_ii (by rw [hr.done (by omega), Ht.out]) rfl, hb1.trans (hbl.mono hb1.size)⟩

def TRel (l : List Sc) (m k : Nat) : Prop := m + bytesOf (l.drop k) = bytesOf l
theorem TRel.step {l : List Sc} {m k : Nat} {K : Int} {s : ByteArray} (h : TRel l m k) (hd : Hid (l.drop k = (K, s) :: l.drop (k + 1))) : TRel l (m + s.size) (k + 1) := by
  unfold TRel at *
  rw [hd.out, bytesOf] at h
  simp only at h
  omega
theorem TRel.done {l : List Sc} {m k : Nat} (h : TRel l m k) (hk : l.length ≤ k) : m = bytesOf l := by
  unfold TRel at h
  rw [List.drop_eq_nil_of_le hk, bytesOf] at h
  omega

set_option maxRecDepth 100000 in
set_option maxHeartbeats 400000 in
theorem rtotal (w : World) (A : Option Addr) (c : Nat) (l : List Sc) (h : IsSc w A l) :
    Calls Tryd.prog 28 #[.slice A l.length c] w fun e w' => e = .returned (.tuple #[.int .i64 (total l : Int), .int .i64 (chk l).2]) ∧ Below w.heap.size w w' := by
  by_cases h0 : (chk l).2 = 0
  · have e0 : ((chk l).2 != 0) = false := by simp [h0]
    have h200 := chk_len h0
    have Ht := Lib.hid (show total l = bytesOf l from if_pos h0)
    have H0 := Lib.hid h0
    clear h0
    go_enter Tryd.func28, Tryd.ntmps28
    go_wp2_with fail
    (with_reducible refine (rcheck w A c l h).mono ?_); rintro e w1 ⟨rfl, hb1⟩
    go_wp2
    go_loopw [6, 7] (fun v i wr => ∃ k m : Nat, k ≤ l.length ∧ i = .int .i64 k ∧ v = .int .i64 m ∧ Below w.heap.size w wr ∧ m ≤ k * 1100 ∧ TRel l m k) (fun _ i _ => l.length - (intOf i).toNat)
    case atStart => exact ⟨0, 0, Nat.zero_le _, rfl, rfl, hb1, by omega, by simp [TRel]⟩
    case round =>
      obtain ⟨k, m, hk, rfl, rfl, hbl, hm1, hr⟩ := hrel
      by_cases hlt : k < l.length
      · obtain ⟨b, off, K, s, rfl, hb, d1, d2, hd, _, _, hs1, _⟩ := scAtOk (h.rd.below hbl) hlt H0
        have hbd : (m : Int) + (s.size : Int) ≤ 1000000 := by omega
        have hi1 : (k : Int) < (l.length : Int) := by omega
        have hi0 : (0 : Int) ≤ (k : Int) := by omega
        go_wp2
        go_roundw
        case rel => exact ⟨k + 1, m + s.size, by omega, by go_num, by go_num, hbl, by omega, hr.step hd⟩
        case measure => simp [intOf]; omega
      · go_wp2
        go_ret2
        exact ⟨ret_ii (by rw [hr.done (by omega), Ht.out]) H0.out.symm, hbl⟩
  · have e0 : ((chk l).2 != 0) = true := by simp [h0]
    have Ht := Lib.hid (show total l = 0 from if_neg h0)
    clear h0
    go_enter Tryd.func28, Tryd.ntmps28
    go_wp2_with fail
    (with_reducible refine (rcheck w A c l h).mono ?_); rintro e w1 ⟨rfl, hb1⟩
    go_wp2
    go_ret2
    exact ⟨ret_ii (by rw [Ht.out]; rfl) rfl, hb1⟩

/-! Streams -/
def streamsFrom (cur : ByteArray) : List Sc → List ByteArray
  | [] => [cur]
  | x :: r => if x.1 = 4 then [cur] else if x.1 = 3 then cur :: streamsFrom x.2 r else streamsFrom (cur ++ x.2) r
def streams (l : List Sc) : List ByteArray := if (chk l).2 = 0 then streamsFrom ⟨#[]⟩ l else []
theorem streams_pos {l : List Sc} (h : (chk l).2 = 0) : streams l = streamsFrom ⟨#[]⟩ l := if_pos h
theorem streams_neg {l : List Sc} (h : (chk l).2 ≠ 0) : streams l = [] := if_neg h
def StrRel (l : List Sc) (out : List ByteArray) (cur : ByteArray) (k : Nat) : Prop := out ++ streamsFrom cur (l.drop k) = streamsFrom ⟨#[]⟩ l
theorem StrRel.add {l : List Sc} {out : List ByteArray} {cur s : ByteArray} {k : Nat} {K : Int} (h : StrRel l out cur k) (hd : Hid (l.drop k = (K, s) :: l.drop (k + 1))) (h4 : K ≠ 4) (h3 : K ≠ 3) : StrRel l out (cur ++ s) (k + 1) := by
  unfold StrRel at *
  rw [hd.out, streamsFrom, if_neg h4, if_neg h3] at h
  exact h
theorem StrRel.reset {l : List Sc} {out : List ByteArray} {cur s : ByteArray} {k : Nat} {K : Int} (h : StrRel l out cur k) (hd : Hid (l.drop k = (K, s) :: l.drop (k + 1))) (h3 : K = 3) : StrRel l (out ++ [cur]) s (k + 1) := by
  unfold StrRel at *
  rw [hd.out, streamsFrom, if_neg (by simp only; omega), if_pos h3] at h
  rw [List.append_assoc]
  exact h
theorem StrRel.close {l : List Sc} {out : List ByteArray} {cur s : ByteArray} {k : Nat} {K : Int} (h : StrRel l out cur k) (hd : Hid (l.drop k = (K, s) :: l.drop (k + 1))) (h4 : K = 4) : out ++ [cur] = streamsFrom ⟨#[]⟩ l := by
  unfold StrRel at h
  rw [hd.out, streamsFrom, if_pos h4] at h
  exact h
theorem StrRel.done {l : List Sc} {out : List ByteArray} {cur : ByteArray} {k : Nat} (h : StrRel l out cur k) (hk : l.length ≤ k) : out ++ [cur] = streamsFrom ⟨#[]⟩ l := by
  unfold StrRel at h
  rw [List.drop_eq_nil_of_le hk, streamsFrom] at h
  exact h
theorem strEl : Elem Tryd.prog 28 9 (.string ⟨#[]⟩) 1 16 := ⟨Tryd.underlying28, by kernel_rfl, rfl, by decide⟩
theorem strCells_app (a b : ByteArray) : Lib.strCells a ++ Lib.strCells b = Lib.strCells (a ++ b) := by
  simp [Lib.strCells, ByteArray.data_append]
theorem bstring (B b : Nat) (cur : ByteArray) (w : World) (h : Lib.IsBuilderF bT bE B b (Lib.strCells cur) w) (hBw : B ≤ w.heap.size) :
    Calls Tryd.prog 40 #[.pointer (some ⟨b, 0, none⟩)] w fun e w' => e = .returned (.string cur) ∧ (Lib.IsBuilderF bT bE B b (Lib.strCells cur) w' ∧ Below B w w' ∧ Lib.OthersKept bE (some b) w w') := by
  have := Tryd.Builder_String_any_k B b cur.data.toList w h hBw
  exact this
theorem below_others {w w' : World} {B : Nat} (h : Below B w w') : ∀ {g : Nat}, g < B → w'.heap[g]? = w.heap[g]? := fun hg => h.block _ hg

def StrOwn (w wr : World) (v : Value) (out : List ByteArray) : Prop := wr.ownsRow w.heap.size 9 1 v out.length (out.map Value.string)
theorem StrOwn.next {w wr : World} {v : Value} {out : List ByteArray} {s : ByteArray} (h : wr.ownsRow w.heap.size 9 1 v (out.length + 1) (out.map Value.string ++ [.string s])) : StrOwn w wr v (out ++ [s]) := by
  unfold StrOwn
  rw [List.map_append, List.length_append]
  exact h

set_option maxRecDepth 100000 in
set_option maxHeartbeats 800000 in
theorem sstreams (w : World) (A : Option Addr) (c : Nat) (l : List Sc) (h : IsSc w A l) :
    Calls Tryd.prog 16 #[.slice A l.length c] w (RetSl w 1 ((streams l).map Value.string) (streams l).length (chk l).2) := by
  by_cases h0 : (chk l).2 = 0
  · have e0 : ((chk l).2 != 0) = false := by simp [h0]
    have h200 := chk_len h0
    have Hst := Lib.hid (streams_pos h0)
    have H0 := Lib.hid h0
    clear h0
    go_enter Tryd.func16, Tryd.ntmps16
    go_wp2_with fail
    (with_reducible refine (scheck w A c l h).mono ?_); rintro e w1 ⟨rfl, hb1⟩
    have hb1s := hb1.size
    have hI0 : Lib.IsBuilderF bT bE w.heap.size w1.heap.size (Lib.strCells ⟨#[]⟩) (w1.alloc (.cells #[.pointer none, .slice none 0 0] bT)) :=
      .inl ⟨hb1s, .slice none 0 0, heap_alloc_new w1 _, World.ownsRowF_nil _ _ _ _, by simp [Value.ownBlock]⟩
    go_wp2
    go_loopw [6, 20] (fun v i wr => ∃ (k : Nat) (out : List ByteArray) (cur : ByteArray), k ≤ l.length ∧ i = .int .i64 k ∧ Below w.heap.size w wr ∧ StrOwn w wr v out ∧ Lib.IsBuilderF bT bE w.heap.size w1.heap.size (Lib.strCells cur) wr ∧
      out.length ≤ k ∧ cur.size ≤ k * 1100 ∧ StrRel l out cur k) (fun _ i _ => l.length - (intOf i).toNat)
    case atStart => exact ⟨0, [], ⟨#[]⟩, Nat.zero_le _, rfl, hb1.alloc hb1s _, World.ownsRow_nil _ _ _ _, hI0, by simp, Nat.zero_le _, rfl⟩
    case round =>
      obtain ⟨k, out, cur, hk, rfl, hbl, hown, hI, hol, hcs, hr⟩ := hrel
      unfold StrOwn at hown
      have hb2 := hbl.size
      by_cases hlt : k < l.length
      · obtain ⟨b, off, K, s, rfl, hb, d1, d2, hd, hK1, hK4, hs1, _⟩ := scAtOk (h.rd.below hbl) hlt H0
        by_cases h4 : K = 4
        · have e4 : (K == 4) = true := by simp [h4]
          have H4 := Lib.hid h4
          clear h4
          go_wp2_with fail
          (with_reducible refine (bstring w.heap.size _ cur _ (hI.alloc _) (by simp; omega)).mono ?_); rintro e w2 ⟨rfl, hI2, hB2, hO2⟩
          go_wp2_with (at_builtin; refine wpList_app strEl rfl (.tmp 39) (.tmp 41) rfl rfl out.length (out.map Value.string) rfl rfl w ?own ?bel [.string cur] ?new rfl ?one (by decide) ?by1 ?by2 ?_)
          case own => exact (others_own hO2 (hown.alloc _) (by decide) (bld_ne hown hI (by decide))).alloc _
          case bel => exact (Go.RowKit.Below.trans (hbl.alloc hb2 _) hB2).alloc (by have := hB2.size; simp at this; omega) _
          case new => exact alloc1_new _ _
          case one => simp [Value.oneCell']
          case by1 => omega
          case by2 => omega
          intro g cap w3 hown3 hb3 hg3
          go_wp2
          go_ret2
          refine RetSl.of_own hown3 hb3 H0.out ?_ ?_
          · rw [Hst.out, ← hr.close hd H4.out]; simp
          · rw [Hst.out, ← hr.close hd H4.out]; simp
        have e4 : (K == 4) = false := by simp [h4]
        have h4' := Lib.hid h4
        clear h4
        have hx1 := heap_alloc_new wr (.cells #[.int .i64 K, .string s] 47)
        have hbb : wr.heap.size ≠ w1.heap.size := by have := bld_lt hI; omega
        by_cases h3 : K = 3
        · have e3 : (K == 3) = true := by simp [h3]
          have h3' := Lib.hid h3
          clear h3
          have Hx1 := Lib.hid hx1
          clear hx1
          go_wp2_with fail
          (with_reducible refine (bstring w.heap.size _ cur _ (hI.alloc _) (by simp; omega)).mono ?_); rintro e w2 ⟨rfl, hI2, hB2, hO2⟩
          have hown2 := others_own hO2 (hown.alloc _) (by decide) (bld_ne hown hI (by decide))
          have hx2 := others_blk hO2 Hx1.out hbb (by decide)
          have hb2s : w.heap.size ≤ w2.heap.size := by have := hB2.size; simp at this; omega
          have Hx2 := Lib.hid hx2
          clear hx2
          go_wp2_with (at_builtin; refine wpList_app strEl rfl (.tmp 30) (.tmp 32) rfl rfl out.length (out.map Value.string) rfl rfl w ?own ?bel [.string cur] ?new rfl ?one (by decide) ?by1 ?by2 ?_)
          case own => exact hown2.alloc _
          case bel => exact (Go.RowKit.Below.trans (hbl.alloc hb2 _) hB2).alloc hb2s _
          case new => exact alloc1_new _ _
          case one => simp [Value.oneCell']
          case by1 => omega
          case by2 => omega
          intro g cap w3 hown3 hb3 hg3
          have hI3 := bld_grown (hI2.alloc _) hg3 (bld_ne hown2 hI2 (by decide)) (own_kind (hown2.alloc _) (by decide))
          have hx3 := (hg3.block wr.heap.size (by have := heap_lt Hx2.out; simp; omega) (fun e => own_blk_ne hown2 Hx2.out (by decide) e.symm)).trans ((Go.RowKit.Below.heap_alloc w2 _ _ (heap_lt Hx2.out)).trans Hx2.out)
          have Hx3 := Lib.hid hx3
          clear hx3
          go_wp2_with fail
          (with_reducible refine (reset_k w.heap.size _ _ w3 hI3).mono ?_); rintro e w4 ⟨rfl, hI4, hB4, hO4⟩
          have hown4 := others_own hO4 hown3 (by decide) (bld_ne hown3 hI3 (by decide))
          have hx4 := others_blk hO4 Hx3.out hbb (by decide)
          have cx : w4.cell? ⟨wr.heap.size, 1, none⟩ = some (.string s) := by rw [Lib.cell_of_heap hx4]; rfl
          have hb4 := hb3.trans hB4
          clear hx4
          go_wp2_with fail
          (with_reducible refine (writeString_k w.heap.size _ [] s w4 hI4 (by simp; omega) hb4.size).mono ?_); rintro e w5 ⟨rfl, hI5, hB5, hO5⟩
          have hown5 := others_own hO5 hown4 (by decide) (bld_ne hown4 hI4 (by decide))
          go_wp2
          go_roundw
          case rel => exact ⟨k + 1, out ++ [cur], s, by omega, by go_num, hb4.trans hB5, StrOwn.next hown5, hI5, by simp; omega, by omega, hr.reset hd h3'.out⟩
          case measure => simp [intOf]; omega
        · have e3 : (K == 3) = false := by simp [h3]
          have h3' := Lib.hid h3
          clear h3 hx1
          go_wp2_with fail
          (with_reducible refine (writeString_k w.heap.size _ (Lib.strCells cur) s _ (hI.alloc _) (by rw [Lib.strCells_length]; omega) (by simp; omega)).mono ?_); rintro e w5 ⟨rfl, hI5, hB5, hO5⟩
          have hown5 := others_own hO5 (hown.alloc _) (by decide) (bld_ne hown hI (by decide))
          rw [strCells_app] at hI5
          go_wp2
          go_roundw
          case rel => exact ⟨k + 1, out, cur ++ s, by omega, by go_num, (hbl.alloc hb2 _).trans hB5, hown5, hI5, by omega, by rw [ByteArray.size_append]; omega, hr.add hd h4'.out h3'.out⟩
          case measure => simp [intOf]; omega
      · go_wp2_with fail
        (with_reducible refine (bstring w.heap.size _ cur _ hI (by omega)).mono ?_); rintro e w2 ⟨rfl, hI2, hB2, hO2⟩
        go_wp2_with (at_builtin; refine wpList_app strEl rfl (.tmp 39) (.tmp 41) rfl rfl out.length (out.map Value.string) rfl rfl w ?own ?bel [.string cur] ?new rfl ?one (by decide) ?by1 ?by2 ?_)
        case own => exact (others_own hO2 hown (by decide) (bld_ne hown hI (by decide))).alloc _
        case bel => exact (Go.RowKit.Below.trans hbl hB2).alloc (by have := hB2.size; omega) _
        case new => exact alloc1_new _ _
        case one => simp [Value.oneCell']
        case by1 => omega
        case by2 => omega
        intro g cap w3 hown3 hb3 hg3
        go_wp2
        go_ret2
        refine RetSl.of_own hown3 hb3 H0.out ?_ ?_
        · rw [Hst.out, ← hr.done (by omega)]; simp
        · rw [Hst.out, ← hr.done (by omega)]; simp
  · have e0 : ((chk l).2 != 0) = true := by simp [h0]
    have H0 := Lib.hid (streams_neg h0)
    clear h0
    go_enter Tryd.func16, Tryd.ntmps16
    go_wp2_with fail
    (with_reducible refine (scheck w A c l h).mono ?_); rintro e w1 ⟨rfl, hb1⟩
    go_wp2
    go_ret2
    exact RetSl.nil hb1 (by rw [H0.out]; rfl) (by rw [H0.out]; rfl)
end Go.Proofs.YtoogemdcmnjpnaaDoor
