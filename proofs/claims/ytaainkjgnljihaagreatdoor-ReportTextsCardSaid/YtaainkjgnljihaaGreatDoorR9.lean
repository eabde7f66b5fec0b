/- Reports: Print of the program, with its closure. -/
import Derived.Test.YtaainkjgnljihaaGreatDoorR8
import Derived.Test.YtaainkjgnljihaaGreatDoorBl
import Derived.Test.YtaainkjgnljihaaGreatDoorPow
namespace Go.Proofs.YtaainkjgnljihaaGreatDoor
open Go.RowKit
def numL (n : Int) : List UInt8 := 32 :: Lib.itoa n
def numsL : List Int → List UInt8
  | [] => []
  | n :: r => numL n ++ numsL r
theorem numsL_app (l m : List Int) : numsL (l ++ m) = numsL l ++ numsL m := by
  induction l with
  | nil => rfl
  | cons h r ih => simp [numsL, ih]
theorem numL_len (n : Int) (h0 : -9223372036854775808 ≤ n) (h1 : n ≤ 9223372036854775807) : (numL n).length ≤ 22 := by
  have := Lib.itoa_length_le n h0 h1
  simp [numL]; omega
theorem numsL_len : ∀ (l : List Int), (∀ n ∈ l, -9223372036854775808 ≤ n ∧ n ≤ 9223372036854775807) → (numsL l).length ≤ 22 * l.length
  | [], _ => by simp [numsL]
  | n :: r, h => by
    have h1 := numL_len n (h n List.mem_cons_self).1 (h n List.mem_cons_self).2
    have h2 := numsL_len r (fun m hm => h m (List.mem_cons_of_mem _ hm))
    simp only [numsL, List.length_append, List.length_cons]
    omega
abbrev ints (l : List Int) : List Value := l.map (Value.int .i64)
theorem num_list (n : Int) : ((⟨#[32]⟩ : ByteArray) ++ Dg n).data.toList = numL n := by rw [ByteArray.data_append]; simp [numL]
theorem num_size (n : Int) : ((⟨#[32]⟩ : ByteArray) ++ Dg n).size = 1 + (Dg n).size := by rw [ByteArray.size_append]; rfl
set_option maxRecDepth 100000 in
set_option maxHeartbeats 1000000 in
/-- a row of a word and numbers -/
theorem row_ (w wr : World) (b g : Nat) (l : List UInt8) (word : ByteArray) (ns : List Int) (h : Bl w wr b l) (hb : Below w.heap.size w wr) (hg : wr.heap[g]? = some (.cells (ints ns).toArray 3 (0, 0))) (hgb : g ≠ b)
    (hn : ∀ n ∈ ns, -9223372036854775808 ≤ n ∧ n ≤ 9223372036854775807) (hlen : l.length + word.size + 22 * ns.length + 1 ≤ 140737488355328) (hP : Pow w) (c : Nat) (v : List UInt8) (hv : Hid (v = l ++ (word.data.toList ++ (numsL ns ++ [10])))) :
    Calls Tryz.prog 14 #[.string word, .slice (some ⟨g, 0, none⟩) ns.length c, .pointer (some ⟨b, 0, none⟩)] wr fun e w' => e = .returned (.tuple #[]) ∧ Bl w w' b v ∧ Below w.heap.size w w' ∧ Lib.OthersKept bE (some b) wr w' := by
  go_enter Tryz.func14, Tryz.ntmps14
  go_wp2_with fail
  (with_reducible refine (bl_write w _ b l word h hb (by omega)).mono ?_); rintro e w1 ⟨rfl, hI1, hB1, hO1⟩
  have hg1 := others_blk hO1 hg hgb (by decide)
  clear h hb hg
  go_wp2
  go_loopw [11] (fun i w2 => ∃ k : Nat, k ≤ ns.length ∧ i = .int .i64 k ∧ Bl w w2 b (l ++ (word.data.toList ++ numsL (ns.take k))) ∧ Below w.heap.size w w2 ∧ w2.heap[g]? = some (.cells (ints ns).toArray 3 (0, 0)) ∧ Lib.OthersKept bE (some b) wr w2) (fun i _ => ns.length - (intOf i).toNat)
  case atStart => exact ⟨0, Nat.zero_le _, rfl, by simpa [numsL] using hI1, hB1, hg1, hO1⟩
  case round =>
    obtain ⟨k, hk, rfl, hI, hB, hg2, hO⟩ := hrel
    by_cases hlt : k < ns.length
    · have hnk := hn _ (List.getElem_mem hlt)
      have d1 : wr.cell? ⟨g, k, none⟩ = some (.int .i64 ns[k]) := by
        rw [Lib.cell_of_heap hg2]; simp [hlt]
      generalize hN : ns[k] = n at *
      have hts : numsL (ns.take (k + 1)) = numsL (ns.take k) ++ numL n := by
        rw [List.take_succ_eq_append_getElem hlt, numsL_app, hN]; simp [numsL]
      have htl : (numsL (ns.take k)).length ≤ 22 * k := by
        have h1 := numsL_len (ns.take k) (fun m hm => hn m (List.mem_of_mem_take hm))
        have h2 : (ns.take k).length ≤ k := List.length_take_le _ _
        omega
      have hdz := Dg_size n hnk.1 hnk.2
      have hadd : (⟨#[32]⟩ : ByteArray).size + (Dg n).size ≤ 9223372036854775807 := by
        show 1 + (Dg n).size ≤ _
        omega
      have hwz : word.data.toList.length = word.size := by simp
      go_wp2_with fail
      (with_reducible refine (itoa_ n hnk.1 hnk.2 _ (by exact hP.below hB)).mono ?_); rintro e w2 ⟨rfl, hb2⟩
      have HI2 := Lib.hid (hI.below hb2)
      have HB2 := Lib.hid (hB.trans (hb2.mono hB.size))
      have hg3 := (hb2.block g (heap_lt hg2)).trans hg2
      have hO2 := hO.trans (others_below hb2)
      clear hI hB hg2 hO
      go_wp2_with fail
      (with_reducible refine (bl_write w _ _ _ _ HI2.out HB2.out (by rw [num_size]; simp only [List.length_append]; omega)).mono ?_); rintro e w3 ⟨rfl, hI3, hB3, hO3⟩
      have HI3 := Lib.hid hI3
      have hg4 := others_blk hO3 hg3 hgb (by decide)
      have hO4 := hO2.trans hO3
      clear hI3 hO3 hO2 hg3
      go_wp2
      go_roundw
      case rel =>
        refine ⟨k + 1, by omega, by go_num, ?_, hB3, hg4, hO4⟩
        have := HI3.out
        rw [num_list] at this
        rw [hts]
        simpa using this
      case measure => simp [intOf]; omega
    · obtain rfl : k = ns.length := by omega
      rw [List.take_length] at hI
      have htl := numsL_len ns hn
      have hwz : word.data.toList.length = word.size := by simp
      have hby := bl_byte w wr b _ 10 hI hB (by simp only [List.length_append]; omega)
      rw [show (((10 : UInt8).toNat : Nat) : Int) = 10 from rfl] at hby
      have Hby := Lib.hid hby
      clear hby
      go_wp2_with fail
      (with_reducible refine (Hby.out).mono ?_); rintro e w3 ⟨rfl, hI3, hB3, hO3⟩
      have HI3 := Lib.hid hI3
      have HO3 := Lib.hid (hO.trans hO3)
      clear hI3 hO3 hO hI
      go_wp2
      go_end0
      refine ⟨rfl, ?_, hB3, HO3.out⟩
      have := HI3.out
      rw [hv.out]
      simpa using this
def rowL (word : List UInt8) (ns : List Int) : List UInt8 := word ++ (numsL ns ++ [10])
theorem rowL_len (word : List UInt8) (ns : List Int) (h : ∀ n ∈ ns, -9223372036854775808 ≤ n ∧ n ≤ 9223372036854775807) : (rowL word ns).length ≤ word.length + 22 * ns.length + 1 := by
  have := numsL_len ns h
  simp [rowL]; omega
/-- a row of one number, and of two -/
theorem row1_ (w wr : World) (b g : Nat) (l : List UInt8) (word : ByteArray) (n : Int) (h : Bl w wr b l) (hb : Below w.heap.size w wr) (hg : wr.heap[g]? = some (.cells #[.int .i64 n] 3 (0, 0))) (hgb : g ≠ b)
    (h0 : 0 ≤ n) (h1 : n ≤ 1000000) (hw : word.size ≤ 10) (hlen : l.length ≤ 1000000) (hP : Pow w) (v : List UInt8) (hv : Hid (v = l ++ rowL word.data.toList [n])) :
    Calls Tryz.prog 14 #[.string word, .slice (some ⟨g, 0, none⟩) 1 1, .pointer (some ⟨b, 0, none⟩)] wr fun e w' => e = .returned (.tuple #[]) ∧ Bl w w' b v ∧ Below w.heap.size w w' ∧ Lib.OthersKept bE (some b) wr w' :=
  row_ w wr b g l word [n] h hb hg hgb (by simp; omega) (by simp only [List.length_cons, List.length_nil]; omega) hP 1 v hv
theorem row2_ (w wr : World) (b g : Nat) (l : List UInt8) (word : ByteArray) (n m : Int) (h : Bl w wr b l) (hb : Below w.heap.size w wr) (hg : wr.heap[g]? = some (.cells #[.int .i64 n, .int .i64 m] 3 (0, 0))) (hgb : g ≠ b)
    (h0 : 0 ≤ n) (h1 : n ≤ 1000000) (h2 : 0 ≤ m) (h3 : m ≤ 1000000) (hw : word.size ≤ 10) (hlen : l.length ≤ 1000000) (hP : Pow w) (v : List UInt8) (hv : Hid (v = l ++ rowL word.data.toList [n, m])) :
    Calls Tryz.prog 14 #[.string word, .slice (some ⟨g, 0, none⟩) 2 2, .pointer (some ⟨b, 0, none⟩)] wr fun e w' => e = .returned (.tuple #[]) ∧ Bl w w' b v ∧ Below w.heap.size w w' ∧ Lib.OthersKept bE (some b) wr w' :=
  row_ w wr b g l word [n, m] h hb hg hgb (by simp; omega) (by simp only [List.length_cons, List.length_nil]; omega) hP 2 v hv
def wHit : List UInt8 := [104, 105, 116]
def wHits : List UInt8 := [104, 105, 116, 115]
def wDropped : List UInt8 := [100, 114, 111, 112, 112, 101, 100]
def hitsL : List Hit → List UInt8
  | [] => []
  | h :: r => rowL wHit [h.1, h.2] ++ hitsL r
theorem hitsL_app (l m : List Hit) : hitsL (l ++ m) = hitsL l ++ hitsL m := by
  induction l with
  | nil => rfl
  | cons h r ih => simp [hitsL, ih]
def headH (n : Int) : List UInt8 := rowL wHits [n]
def headL (n d : Int) : List UInt8 := headH n ++ rowL wDropped [d]
def prL (l : List Hit) (d : Int) : List UInt8 := headL l.length d ++ hitsL l
def prR (l : List Hit) (o : Bool) (d k : Int) : ByteArray := if (chkR l o d k).2 = 0 then ⟨(prL l d).toArray⟩ else ⟨#[]⟩
set_option maxRecDepth 100000 in
set_option maxHeartbeats 1000000 in
theorem print_no (w : World) (A : Option Addr) (c : Nat) (l : List Hit) (h : Reads w w.heap.size 2 A l.length (hits l)) (hl : l.length ≤ 9223372036854775807) (o : Bool) (d k : Int) (hne : (chkR l o d k).2 ≠ 0) :
    Calls Tryz.prog 5 #[repV A l.length c o d, .int .i64 k] w fun e w' => e = .returned (.tuple #[.string (prR l o d k), .int .i64 (chkR l o d k).2]) ∧ Below w.heap.size w w' := by
  have h1 : prR l o d k = ⟨#[]⟩ := if_neg hne
  rw [h1]
  have hc := check_ (w.alloc (repO A l.length c o d)) A c l (h.al _) hl o d k
  generalize chkR l o d k = q at *
  obtain ⟨I, E⟩ := q
  have e2 : (E != 0) = true := by simpa using hne
  have Hc := Lib.hid hc
  clear hc hne h1
  go_enter Tryz.func5, Tryz.ntmps5
  go_wp2_with fail
  (with_reducible refine (Hc.out).mono ?_); rintro e w1 ⟨rfl, hb1⟩
  have hB := bt (ba (Below.refl _ _) _) hb1
  clear hb1
  go_wp2
  go_ret2
  exact ⟨rfl, hB⟩
theorem headH_len (n : Int) (h1 : 0 ≤ n ∧ n ≤ 32) : (headH n).length ≤ 27 := by
  have a := rowL_len wHits [n] (by simp; omega)
  simp only [wHits, List.length_cons, List.length_nil] at a
  simp only [headH, wHits]
  omega
theorem headL_len (n d : Int) (h1 : 0 ≤ n ∧ n ≤ 32) (h2 : 0 ≤ d ∧ d ≤ 65535) : (headL n d).length ≤ 57 := by
  have a := rowL_len wHits [n] (by simp; omega)
  have b := rowL_len wDropped [d] (by simp; omega)
  simp only [wHits, wDropped, List.length_cons, List.length_nil] at a b
  simp only [headL, headH, wHits, wDropped, List.length_append]
  omega
theorem hitsL_len : ∀ (l : List Hit), (∀ h ∈ l, okH h = true) → (hitsL l).length ≤ 48 * l.length
  | [], _ => by simp [hitsL]
  | h :: r, hh => by
    have h0 := okH_iff (E := h.1) (I := h.2) |>.1 (hh h List.mem_cons_self)
    have h1 := rowL_len wHit [h.1, h.2] (by simp; omega)
    have h2 := hitsL_len r (fun m hm => hh m (List.mem_cons_of_mem _ hm))
    simp only [wHit, List.length_cons, List.length_nil] at h1
    simp only [hitsL, List.length_append, List.length_cons, wHit]
    omega
set_option maxRecDepth 100000 in
set_option maxHeartbeats 1000000 in
theorem print_yes (w : World) (A : Option Addr) (c : Nat) (l : List Hit) (h : Reads w w.heap.size 2 A l.length (hits l)) (hl : l.length ≤ 9223372036854775807) (o : Bool) (d k : Int) (he : (chkR l o d k).2 = 0) (hP : Pow w) :
    Calls Tryz.prog 5 #[repV A l.length c o d, .int .i64 k] w fun e w' => e = .returned (.tuple #[.string (prR l o d k), .int .i64 (chkR l o d k).2]) ∧ Below w.heap.size w w' := by
  have h1 : prR l o d k = ⟨(prL l d).toArray⟩ := if_pos he
  rw [h1, he]
  have hc := check_ (w.alloc (repO A l.length c o d)) A c l (h.al _) hl o d k
  obtain ⟨⟨hk1, hk2⟩, hlk, hw0, ⟨hd1, hd2⟩, _⟩ := chkR_ok he
  have hall := wrgF_ok l 0 none hw0
  rw [he] at hc
  generalize (chkR l o d k).1 = I at *
  have Hc := Lib.hid hc
  have Hall := Lib.hid hall
  have HR := Lib.hid h
  clear hc h1 hw0 hall he h
  go_enter Tryz.func5, Tryz.ntmps5
  go_wp2_with fail
  (with_reducible refine (Hc.out).mono ?_); rintro e w1 ⟨rfl, hb1⟩
  have hF := ((Fr.start w).newN rfl (repO A l.length c o d)).go hb1
  clear hb1
  have hO := hF.at (g := w.heap.size) List.mem_cons_self
  have hB1 := hF.bel
  have hlt0 := heap_lt hO
  have hI0 : Bl w _ w1.heap.size [] := bld_newb hB1
  have c0 : w1.cell? ⟨w.heap.size, 0, none⟩ = some (.slice A l.length c) := by rw [Lib.cell_of_heap hO]; rfl
  have hl32 : l.length ≤ 32 := by omega
  have hr1 := row1_ w ((w1.alloc (.cells #[.pointer none, .slice none 0 0] bT)).alloc (.cells #[.int .i64 l.length] 3)) w1.heap.size (w1.heap.size + 1) [] ⟨#[104, 105, 116, 115]⟩ (l.length : Int) (hI0.alloc _) ((hB1.alloc (Nat.le_of_lt hlt0) _).alloc (by simp; omega) _) (by exact alloc2_new _ _ _) (by omega) (by omega) (by omega) (by decide) (by simp) hP (headH l.length) (Lib.hid rfl)
  have Hr1 := Lib.hid hr1
  have HB1 := Lib.hid hB1
  have hO1 : ((w1.alloc (.cells #[.pointer none, .slice none 0 0] bT)).alloc (.cells #[.int .i64 l.length] 3)).heap[w.heap.size]? = some (repO A l.length c o d) := alloc_blk (alloc_blk hO)
  clear hr1 hI0 hF hO
  go_wp2_with fail
  (with_reducible refine (Hr1.out).mono ?_); rintro e w2 ⟨rfl, hI2, hB2, hO2⟩
  have hr2 := others_blk hO2 hO1 (by omega) (by decide)
  have hlt2 := heap_lt hr2
  clear Hr1 hO1 HB1 hB1 c0 hO2
  generalize w1.heap.size = b at *
  have hbb : b < w2.heap.size := bld_lt hI2
  have hhl := headH_len l.length (by omega)
  have c2 : w2.cell? ⟨w.heap.size, 2, none⟩ = some (.int .i64 d) := by rw [Lib.cell_of_heap hr2]; rfl
  have hr3 := row1_ w (w2.alloc (.cells #[.int .i64 d] 3)) b w2.heap.size _ ⟨#[100, 114, 111, 112, 112, 101, 100]⟩ d (hI2.alloc _) (hB2.alloc (Nat.le_of_lt hlt2) _) (alloc1_new _ _) (by omega) (by omega) (by omega) (by decide) (by omega) hP (headL l.length d) (Lib.hid rfl)
  have Hr3 := Lib.hid hr3
  have hO3 : (w2.alloc (.cells #[.int .i64 d] 3)).heap[w.heap.size]? = some (repO A l.length c o d) := alloc_blk hr2
  clear hr3 hI2 hB2 hr2
  go_wp2_with fail
  (with_reducible refine (Hr3.out).mono ?_); rintro e w4 ⟨rfl, hI4, hB4, hO4⟩
  have hr4 := others_blk hO4 hO3 (by omega) (by decide)
  have c4 : w4.cell? ⟨w.heap.size, 0, none⟩ = some (.slice A l.length c) := by rw [Lib.cell_of_heap hr4]; rfl
  clear Hr3 hO3 hO4 c2 hlt2 hbb
  go_wp2
  have Hh := Lib.hid (headL_len l.length d (by omega) (by omega))
  clear hr4 c4 hhl
  go_loopw [36] (fun i wr => ∃ j : Nat, j ≤ l.length ∧ i = .int .i64 j ∧ Bl w wr b (headL l.length d ++ hitsL (l.take j)) ∧ Below w.heap.size w wr) (fun i _ => l.length - (intOf i).toNat)
  case atStart => exact ⟨0, Nat.zero_le _, rfl, by simpa [hitsL] using hI4, hB4⟩
  case round =>
    obtain ⟨j, hj, rfl, hI, hB⟩ := hrel
    have HI := Lib.hid hI
    have HB := Lib.hid hB
    have hlen : (headL l.length d ++ hitsL (l.take j)).length ≤ 2000 := by
      have h1 := hitsL_len (l.take j) (fun m hm => Hall.out m (List.mem_of_mem_take hm))
      have h2 : (l.take j).length ≤ 32 := by rw [List.length_take]; omega
      have h3 := Hh.out
      rw [List.length_append]; omega
    clear hI4 hB4
    by_cases hjl : j < l.length
    · obtain ⟨a, off, E, J, rfl, ha, d1, d2, hd⟩ := htAt (HR.out.below hB) hjl
      have ho := Hall.out _ (List.mem_of_mem_drop (by rw [hd.out]; exact List.mem_cons_self))
      obtain ⟨⟨e1, e2⟩, e3, e4⟩ := okH_iff.1 ho
      have hbw : b < wr.heap.size := bld_lt hI
      have hws := hB.size
      have haw : a < wr.heap.size := by omega
      have htk : l.take (j + 1) = l.take j ++ [(E, J)] := take_of_drop hd.out
      have hr := row2_ w ((wr.alloc (.cells #[.int .i64 E, .int .i64 J] 34)).alloc (.cells #[.int .i64 E, .int .i64 J] 3)) b (wr.heap.size + 1) _ ⟨#[104, 105, 116]⟩ E J ((hI.alloc _).alloc _) ((hB.alloc hws _).alloc (by simp; omega) _) (by exact alloc2_new _ _ _) (by omega) (by omega) (by omega) (by omega) (by omega) (by decide) (by omega) hP (headL l.length d ++ hitsL (l.take (j + 1))) (Lib.hid (by rw [htk, hitsL_app, List.append_assoc]; congr 2; simp [hitsL, wHit]))
      have Hr := Lib.hid hr
      clear hr hI hB ho
      go_wp2_with fail
      (with_reducible refine (Hr.out).mono ?_); rintro e w5 ⟨rfl, hI5, hB5, _⟩
      go_wp2
      go_roundw
      case rel => exact ⟨j + 1, by omega, by go_num, hI5, hB5⟩
      case measure => simp [intOf]; omega
    · obtain rfl : j = l.length := by omega
      rw [List.take_length] at HI
      clear hI hB
      have hs := bl_string w _ b _ HI.out HB.out
      have Hs := Lib.hid hs
      clear hs
      go_wp2_with fail
      (with_reducible refine (Hs.out).mono ?_); rintro e w5 ⟨rfl, _, hB5, _⟩
      go_wp2
      go_ret2
      exact ⟨rfl, hB5⟩
theorem print_any (w : World) (A : Option Addr) (c : Nat) (l : List Hit) (h : Reads w w.heap.size 2 A l.length (hits l)) (hl : l.length ≤ 9223372036854775807) (o : Bool) (d k : Int) (hP : Pow w) :
    Calls Tryz.prog 5 #[repV A l.length c o d, .int .i64 k] w fun e w' => e = .returned (.tuple #[.string (prR l o d k), .int .i64 (chkR l o d k).2]) ∧ Below w.heap.size w w' := by
  by_cases he : (chkR l o d k).2 = 0
  · exact print_yes w A c l h hl o d k he hP
  · exact print_no w A c l h hl o d k he
end Go.Proofs.YtaainkjgnljihaaGreatDoor
