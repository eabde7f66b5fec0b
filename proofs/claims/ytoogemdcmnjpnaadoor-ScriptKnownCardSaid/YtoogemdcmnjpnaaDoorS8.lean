/- Print of the script; feed and example of the law. -/
import Derived.Test.YtoogemdcmnjpnaaDoorS7
import Derived.Test.YtoogemdcmnjpnaaDoorW1
namespace Go.Proofs.YtoogemdcmnjpnaaDoor
open Go.RowKit
def wordL (K : Int) : List UInt8 := if K = 1 then [102, 101, 101, 100] else if K = 2 then [102, 108, 117, 115, 104] else if K = 3 then [114, 101, 115, 101, 116] else [99, 108, 111, 115, 101]
def wordS (K : Int) : ByteArray := ⟨(wordL K).toArray⟩
theorem wordAt1 (w : World) : (Instr.index 81 (.agg #[.string ⟨#[]⟩, .string ⟨#[102, 101, 101, 100]⟩, .string ⟨#[102, 108, 117, 115, 104]⟩, .string ⟨#[114, 101, 115, 101, 116]⟩, .string ⟨#[99, 108, 111, 115, 101]⟩]) (.int .i64 1)).run Tryd.prog w = .ok (.string ⟨#[102, 101, 101, 100]⟩) w := by kernel_rfl
theorem wordAt2 (w : World) : (Instr.index 81 (.agg #[.string ⟨#[]⟩, .string ⟨#[102, 101, 101, 100]⟩, .string ⟨#[102, 108, 117, 115, 104]⟩, .string ⟨#[114, 101, 115, 101, 116]⟩, .string ⟨#[99, 108, 111, 115, 101]⟩]) (.int .i64 2)).run Tryd.prog w = .ok (.string ⟨#[102, 108, 117, 115, 104]⟩) w := by kernel_rfl
theorem wordAt3 (w : World) : (Instr.index 81 (.agg #[.string ⟨#[]⟩, .string ⟨#[102, 101, 101, 100]⟩, .string ⟨#[102, 108, 117, 115, 104]⟩, .string ⟨#[114, 101, 115, 101, 116]⟩, .string ⟨#[99, 108, 111, 115, 101]⟩]) (.int .i64 3)).run Tryd.prog w = .ok (.string ⟨#[114, 101, 115, 101, 116]⟩) w := by kernel_rfl
theorem wordAt4 (w : World) : (Instr.index 81 (.agg #[.string ⟨#[]⟩, .string ⟨#[102, 101, 101, 100]⟩, .string ⟨#[102, 108, 117, 115, 104]⟩, .string ⟨#[114, 101, 115, 101, 116]⟩, .string ⟨#[99, 108, 111, 115, 101]⟩]) (.int .i64 4)).run Tryd.prog w = .ok (.string ⟨#[99, 108, 111, 115, 101]⟩) w := by kernel_rfl
set_option maxRecDepth 100000 in
set_option maxHeartbeats 400000 in
theorem word (K : Int) (h1 : 1 ≤ K) (h4 : K ≤ 4) (w : World) :
    Calls Tryd.prog 46 #[.int .i64 K] w fun e w' => e = .returned (.string (wordS K)) ∧ w = w' := by
  rcases (show K = 1 ∨ K = 2 ∨ K = 3 ∨ K = 4 by omega) with rfl | rfl | rfl | rfl
  all_goals
    have a1 := wordAt1
    have a2 := wordAt2
    have a3 := wordAt3
    have a4 := wordAt4
    go_enter Tryd.func46, Tryd.ntmps46
    go_wp2
    go_ret
    exact ⟨rfl, rfl⟩
def lineL (x : Sc) : List UInt8 := wordL x.1 ++ ((if x.1 = 1 then 32 :: quoteB x.2.data.toList else []) ++ [10])
def printL (l : List Sc) : List UInt8 := l.flatMap lineL
def print (l : List Sc) : ByteArray := if (chk l).2 = 0 then ⟨(printL l).toArray⟩ else ⟨#[]⟩
theorem print_pos {l : List Sc} (h : (chk l).2 = 0) : print l = ⟨(printL l).toArray⟩ := if_pos h
theorem print_neg {l : List Sc} (h : (chk l).2 ≠ 0) : print l = ⟨#[]⟩ := if_neg h
theorem wordL_len (K : Int) : (wordL K).length ≤ 5 := by
  unfold wordL
  by_cases h1 : K = 1
  · simp [h1]
  · by_cases h2 : K = 2
    · simp [h2]
    · by_cases h3 : K = 3
      · simp [h3]
      · simp [h1, h2, h3]
theorem quoteB_len (l : List UInt8) : (quoteB l).length ≤ 2 + l.length * 4 := by
  have := qB_len l
  unfold qB at this
  unfold quoteB
  simp only [List.length_cons, List.length_append, List.length_nil] at *
  omega
theorem lineL_len (x : Sc) : (lineL x).length ≤ 9 + x.2.size * 4 := by
  have h1 := wordL_len x.1
  have h2 := quoteB_len x.2.data.toList
  have h3 : x.2.data.toList.length = x.2.size := by simp
  unfold lineL
  split <;> simp only [List.length_cons, List.length_append, List.length_nil] <;> omega
theorem printL_snoc (l : List Sc) (x : Sc) : printL (l ++ [x]) = printL l ++ lineL x := by simp [printL]
theorem ret_string {a b : ByteArray} (h : a = b) : Ending.returned (.string a) = .returned (.string b) := by rw [h]
theorem ret_si {a b : ByteArray} {k : IntKind} {x y : Int} (h : a = b) (h' : x = y) : Ending.returned (.tuple #[.string a, .int k x]) = .returned (.tuple #[.string b, .int k y]) := by rw [h, h']

/-- a builder of the call's own with the text so far -/
def Bl (w wr : World) (b : Nat) (l : List UInt8) : Prop := Lib.IsBuilderF bT bE w.heap.size b (Lib.byteCells l) wr
theorem Bl.write {w w' : World} {b : Nat} {l : List UInt8} {s : ByteArray} (h : Lib.IsBuilderF bT bE w.heap.size b (Lib.byteCells l ++ Lib.strCells s) w') : Bl w w' b (l ++ s.data.toList) := by
  unfold Bl
  rw [Lib.byteCells_append]
  exact h
theorem bl_write (w wr : World) (b : Nat) (l : List UInt8) (s : ByteArray) (h : Bl w wr b l) (hb : Below w.heap.size w wr) (hlen : l.length + s.size ≤ 140737488355328) :
    Calls Tryd.prog 42 #[.pointer (some ⟨b, 0, none⟩), .string s] wr fun e w' => e = .returned (.tuple #[.int .i64 s.size, .nilIface]) ∧ Bl w w' b (l ++ s.data.toList) ∧ Below w.heap.size w w' ∧ Lib.OthersKept bE (some b) wr w' :=
  (writeString_k w.heap.size b _ s wr h (by rw [Lib.byteCells_length]; omega) hb.size).mono fun _ _ ⟨h1, h2, h3, h4⟩ => ⟨h1, Bl.write h2, hb.trans h3, h4⟩
theorem bl_string (w wr : World) (b : Nat) (l : List UInt8) (h : Bl w wr b l) (hb : Below w.heap.size w wr) :
    Calls Tryd.prog 40 #[.pointer (some ⟨b, 0, none⟩)] wr fun e w' => e = .returned (.string ⟨l.toArray⟩) ∧ Bl w w' b l ∧ Below w.heap.size w w' ∧ Lib.OthersKept bE (some b) wr w' :=
  (Tryd.Builder_String_any_k w.heap.size b l wr h hb.size).mono fun _ _ ⟨h1, h2, h3, h4⟩ => ⟨h1, h2, hb.trans h3, h4⟩
theorem Bl.below {w wr w' : World} {b : Nat} {l : List UInt8} (h : Bl w wr b l) (hb : Below wr.heap.size wr w') : Bl w w' b l := bld_below h hb
theorem Bl.alloc {w wr : World} {b : Nat} {l : List UInt8} (h : Bl w wr b l) (o : Obj) : Bl w (wr.alloc o) b l := Lib.IsBuilderF.alloc h o
theorem sp_size (x : List UInt8) : ((⟨#[32]⟩ : ByteArray) ++ ⟨x.toArray⟩).size = 1 + x.length := by rw [ByteArray.size_append]; rfl
theorem sp_list (x : List UInt8) : ((⟨#[32]⟩ : ByteArray) ++ ⟨x.toArray⟩).data.toList = 32 :: x := by rw [ByteArray.data_append]; simp
theorem printL_next {l : List Sc} {k : Nat} {K : Int} {s : ByteArray} (hd : Hid (l.drop k = (K, s) :: l.drop (k + 1))) : printL (l.take (k + 1)) = printL (l.take k) ++ lineL (K, s) := by
  rw [take_of_drop hd.out, printL_snoc]
theorem lineL_feed {s : ByteArray} : lineL (1, s) = (wordS 1).data.toList ++ ((⟨#[32]⟩ : ByteArray) ++ ⟨(quoteB s.data.toList).toArray⟩).data.toList ++ [10] := by
  rw [sp_list]; simp [lineL, wordS]
theorem lineL_other {K : Int} {s : ByteArray} (h : K ≠ 1) : lineL (K, s) = (wordS K).data.toList ++ [10] := by
  simp [lineL, wordS, h]
def PrRel (w wr : World) (b : Nat) (l : List Sc) (k : Nat) : Prop := Bl w wr b (printL (l.take k))

set_option maxRecDepth 100000 in
set_option maxHeartbeats 800000 in
theorem sprint (w : World) (A : Option Addr) (c : Nat) (l : List Sc) (h : IsSc w A l) (hE : Esc w) :
    Calls Tryd.prog 33 #[.slice A l.length c] w fun e w' => e = .returned (.tuple #[.string (print l), .int .i64 (chk l).2]) ∧ Below w.heap.size w w' := by
  by_cases h0 : (chk l).2 = 0
  · have e0 : ((chk l).2 != 0) = false := by simp [h0]
    have h200 := chk_len h0
    have Hp := Lib.hid (print_pos h0)
    have H0 := Lib.hid h0
    clear h0
    go_enter Tryd.func33, Tryd.ntmps33
    go_wp2_with fail
    (with_reducible refine (scheck w A c l h).mono ?_); rintro e w1 ⟨rfl, hb1⟩
    have hI0 := bld_newb hb1
    go_wp2
    go_loopw [19] (fun i wr => ∃ k n : Nat, k ≤ l.length ∧ i = .int .i64 k ∧ Below w.heap.size w wr ∧ PrRel w wr w1.heap.size l k ∧ Hid (n = (printL (l.take k)).length) ∧ n ≤ k * 4409) (fun i _ => l.length - (intOf i).toNat)
    case atStart => exact ⟨0, 0, Nat.zero_le _, rfl, hb1.alloc hb1.size _, hI0, Lib.hid rfl, by omega⟩
    case round =>
      obtain ⟨k, n, hk, rfl, hbl, hr, hn, hn2⟩ := hrel
      unfold PrRel at hr
      by_cases hlt : k < l.length
      · obtain ⟨b, off, K, s, rfl, hb, d1, d2, hd, hK1, hK4, hs1, _⟩ := scAtOk (h.rd.below hbl) hlt H0
        have hlen : (printL (l.take k)).length ≤ 1000000 := by rw [← hn.out]; omega
        have hws : (wordS K).size ≤ 5 := wordL_len K
        have hws2 : (wordS K).data.toList.length ≤ 5 := wordL_len K
        have Hr := Lib.hid (hr.alloc (.cells #[.int .i64 K, .string s] 47))
        have Hb := Lib.hid (hbl.alloc hbl.size (.cells #[.int .i64 K, .string s] 47))
        have Hx := Lib.hid (alloc1_new wr (.cells #[.int .i64 K, .string s] 47))
        have hbb : wr.heap.size ≠ w1.heap.size := by have := bld_lt hr; omega
        clear hr
        go_wp2_with fail
        (with_reducible refine (word K hK1 hK4 _).mono ?_); rintro e w2 ⟨rfl, rfl⟩
        go_wp2_with fail
        (with_reducible refine (bl_write w _ _ _ _ Hr.out Hb.out (by omega)).mono ?_); rintro e w2 ⟨rfl, hI2, hB2, hO2⟩
        have hx2 := others_blk hO2 Hx.out hbb (by decide)
        have k1 : w2.cell? ⟨wr.heap.size, 0, none⟩ = some (.int .i64 K) := by rw [Lib.cell_of_heap hx2]; rfl
        have k2 : w2.cell? ⟨wr.heap.size, 1, none⟩ = some (.string s) := by rw [Lib.cell_of_heap hx2]; rfl
        have Hx2 := Lib.hid hx2
        clear hx2
        have hE2 := Lib.hid (hE.below hB2)
        have HI2 := Lib.hid hI2
        have HB2 := Lib.hid hB2
        clear hI2
        by_cases h1 : K = 1
        · have e1 : (K == 1) = true := by simp [h1]
          have H1 := Lib.hid h1
          clear h1
          go_wp2_with fail
          (with_reducible refine (quote s _ hE2.out (by omega)).mono ?_); rintro e w3 ⟨rfl, hb3⟩
          have hq := quoteB_len s.data.toList
          have hsl := Lib.hid (show s.data.toList.length = s.size by simp)
          have hq2 : (quoteB s.data.toList).length ≤ 2 + s.size * 4 := by rw [← hsl.out]; exact hq
          clear hq
          have HI3 := Lib.hid (HI2.out.below hb3)
          have HB3 := Lib.hid (HB2.out.trans (hb3.mono HB2.out.size))
          have hadd : (⟨#[32]⟩ : ByteArray).size + (⟨(quoteB s.data.toList).toArray⟩ : ByteArray).size ≤ 9223372036854775807 := by
            show 1 + (quoteB s.data.toList).length ≤ _
            omega
          go_wp2_with fail
          (with_reducible refine (bl_write w _ _ _ _ HI3.out HB3.out (by rw [sp_size, List.length_append]; omega)).mono ?_); rintro e w4 ⟨rfl, hI4, hB4, hO4⟩
          go_wp2_with fail
          (with_reducible refine (bl_write w _ _ _ _ hI4 hB4 (by rw [List.length_append, List.length_append, sp_list, List.length_cons, show (⟨#[10]⟩ : ByteArray).size = 1 from rfl]; omega)).mono ?_); rintro e w5 ⟨rfl, hI5, hB5, hO5⟩
          have hI6 : PrRel w w5 w1.heap.size l (k + 1) := by
            unfold PrRel
            rw [printL_next hd, H1.out, lineL_feed, ← H1.out]
            simpa only [List.append_assoc] using hI5
          have hl6 : (printL (l.take (k + 1))).length ≤ (k + 1) * 4409 := by
            rw [printL_next hd, List.length_append, ← hn.out]
            have := lineL_len (K, s)
            simp only at this
            omega
          clear hI5
          go_wp2
          go_roundw
          case rel => exact ⟨k + 1, _, by omega, by go_num, hB5, hI6, Lib.hid rfl, hl6⟩
          case measure => simp [intOf]; omega
        · have e1 : (K == 1) = false := by simp [h1]
          have H1 := Lib.hid h1
          clear h1
          go_wp2_with fail
          (with_reducible refine (bl_write w _ _ _ _ HI2.out HB2.out (by rw [List.length_append, show (⟨#[10]⟩ : ByteArray).size = 1 from rfl]; omega)).mono ?_); rintro e w5 ⟨rfl, hI5, hB5, hO5⟩
          have hI6 : PrRel w w5 w1.heap.size l (k + 1) := by
            unfold PrRel
            rw [printL_next hd, lineL_other H1.out]
            simpa only [List.append_assoc] using hI5
          have hl6 : (printL (l.take (k + 1))).length ≤ (k + 1) * 4409 := by
            rw [printL_next hd, List.length_append, ← hn.out]
            have := lineL_len (K, s)
            simp only at this
            omega
          clear hI5
          go_wp2
          go_roundw
          case rel => exact ⟨k + 1, _, by omega, by go_num, hB5, hI6, Lib.hid rfl, hl6⟩
          case measure => simp [intOf]; omega
      · go_wp2_with fail
        (with_reducible refine (bl_string w _ _ _ hr hbl).mono ?_); rintro e w2 ⟨rfl, hI2, hB2, hO2⟩
        go_wp2
        go_ret2
        exact ⟨ret_si (by rw [Hp.out, List.take_of_length_le (by omega)]) H0.out.symm, hB2⟩
  · have e0 : ((chk l).2 != 0) = true := by simp [h0]
    have Hp := Lib.hid (print_neg h0)
    clear h0
    go_enter Tryd.func33, Tryd.ntmps33
    go_wp2_with fail
    (with_reducible refine (scheck w A c l h).mono ?_); rintro e w1 ⟨rfl, hb1⟩
    go_wp2
    go_ret2
    exact ⟨ret_si (by rw [Hp.out]) rfl, hb1⟩
end Go.Proofs.YtoogemdcmnjpnaaDoor
