/- words: isPlain, letterOf, Quote. -/
import Derived.Test.YtcopnpllaoahaaaGreatDoorOwn
namespace Go.Proofs.YtcopnpllaoahaaaGreatDoor
open Go.RowKit

def plainB (c : UInt8) : Bool := decide (32 ≤ (c.toNat : Int) ∧ (c.toNat : Int) ≤ 126 ∧ (c.toNat : Int) ≠ 34 ∧ (c.toNat : Int) ≠ 92)
def letB (c : UInt8) : UInt8 := if c = 34 then 34 else if c = 92 then 92 else if c = 10 then 110 else if c = 13 then 114 else if c = 9 then 116 else 0
def hexB (n : Nat) : UInt8 := [48, 49, 50, 51, 52, 53, 54, 55, 56, 57, 97, 98, 99, 100, 101, 102].getD n 0
def escB (c : UInt8) : List UInt8 := if plainB c = true then [c] else if letB c ≠ 0 then [92, letB c] else [92, 120, hexB (c.toNat / 16), hexB (c.toNat % 16)]
def quoteB (l : List UInt8) : List UInt8 := 34 :: (l.flatMap escB ++ [34])

def escCells : List Value := [.int .u8 34, .int .u8 34, .int .u8 92, .int .u8 92, .int .u8 10, .int .u8 110, .int .u8 13, .int .u8 114, .int .u8 9, .int .u8 116]
/-- the table of escapes stands -/
def Esc (w : World) : Prop := 4 < w.heap.size ∧ ∀ i : Nat, i < 10 → w.cell? ⟨4, i, none⟩ = escCells[i]?
theorem Esc.below {w w' : World} (h : Esc w) (hb : Below w.heap.size w w') : Esc w' :=
  ⟨Nat.lt_of_lt_of_le h.1 hb.size, fun i hi => (hb.cell (p := ⟨4, i, none⟩) h.1).trans (h.2 i hi)⟩

set_option maxHeartbeats 400000 in
theorem isPlain (c : UInt8) (w : World) :
    Calls Tryz.prog 107 #[.int .u8 (c.toNat : Int)] w fun e w' => e = .returned (.bool (plainB c)) ∧ w = w' := by
  have h : plainB c = decide (32 ≤ (c.toNat : Int) ∧ (c.toNat : Int) ≤ 126 ∧ (c.toNat : Int) ≠ 34 ∧ (c.toNat : Int) ≠ 92) := rfl
  have H := Lib.hid h
  clear h
  have hc := c.toNat_lt
  generalize hn : (c.toNat : Int) = n at *
  have h0 : 0 ≤ n := by omega
  have h1 : n ≤ 255 := by omega
  have Hn := Lib.hid hn
  clear hn hc
  go_enter Tryz.func107, Tryz.ntmps107
  go_wp2
  all_goals
    go_ret
    refine ⟨ret_bool ?_, rfl⟩
    rw [H.out, Bool.eq_iff_iff]
    first | (simp; done) | (simp; omega) | (simp_all; done) | (simp_all; omega)

def letC (n : Int) : Int := if n = 34 then 34 else if n = 92 then 92 else if n = 10 then 110 else if n = 13 then 114 else if n = 9 then 116 else 0
theorem letB_toNat (c : UInt8) : ((letB c).toNat : Int) = letC (c.toNat : Int) := by
  have h : ∀ n : Nat, n < 256 → ((letB (UInt8.ofNat n)).toNat : Int) = letC (n : Int) := by decide +kernel
  have := h c.toNat c.toNat_lt
  rwa [UInt8.ofNat_toNat] at this
def LetRel (n : Int) (k : Nat) : Prop := (0 < k → n ≠ 34) ∧ (1 < k → n ≠ 92) ∧ (2 < k → n ≠ 10) ∧ (3 < k → n ≠ 13) ∧ (4 < k → n ≠ 9)
theorem ret_u8 {k : IntKind} {a b : Int} (h : a = b) : Ending.returned (.int k a) = .returned (.int k b) := by rw [h]
theorem escAt0 (w : World) : (Instr.index 156 (.agg #[.int .u8 34, .int .u8 34, .int .u8 92, .int .u8 92, .int .u8 10, .int .u8 110, .int .u8 13, .int .u8 114, .int .u8 9, .int .u8 116]) (.int .i64 0)).run Tryz.prog w = .ok (.agg #[.int .u8 34, .int .u8 34]) w := by kernel_rfl
theorem escAt1 (w : World) : (Instr.index 156 (.agg #[.int .u8 34, .int .u8 34, .int .u8 92, .int .u8 92, .int .u8 10, .int .u8 110, .int .u8 13, .int .u8 114, .int .u8 9, .int .u8 116]) (.int .i64 1)).run Tryz.prog w = .ok (.agg #[.int .u8 92, .int .u8 92]) w := by kernel_rfl
theorem escAt2 (w : World) : (Instr.index 156 (.agg #[.int .u8 34, .int .u8 34, .int .u8 92, .int .u8 92, .int .u8 10, .int .u8 110, .int .u8 13, .int .u8 114, .int .u8 9, .int .u8 116]) (.int .i64 2)).run Tryz.prog w = .ok (.agg #[.int .u8 10, .int .u8 110]) w := by kernel_rfl
theorem escAt3 (w : World) : (Instr.index 156 (.agg #[.int .u8 34, .int .u8 34, .int .u8 92, .int .u8 92, .int .u8 10, .int .u8 110, .int .u8 13, .int .u8 114, .int .u8 9, .int .u8 116]) (.int .i64 3)).run Tryz.prog w = .ok (.agg #[.int .u8 13, .int .u8 114]) w := by kernel_rfl
theorem escAt4 (w : World) : (Instr.index 156 (.agg #[.int .u8 34, .int .u8 34, .int .u8 92, .int .u8 92, .int .u8 10, .int .u8 110, .int .u8 13, .int .u8 114, .int .u8 9, .int .u8 116]) (.int .i64 4)).run Tryz.prog w = .ok (.agg #[.int .u8 9, .int .u8 116]) w := by kernel_rfl
set_option maxRecDepth 100000 in
set_option maxHeartbeats 800000 in
theorem letterOf (c : UInt8) (w : World) (hE : Esc w) :
    Calls Tryz.prog 106 #[.int .u8 (c.toNat : Int)] w fun e w' => e = .returned (.int .u8 (letB c).toNat) ∧ Below w.heap.size w w' := by
  have c0 : w.cell? ⟨4, 0, none⟩ = some (.int .u8 34) := hE.2 _ (by decide)
  have c1 : w.cell? ⟨4, 1, none⟩ = some (.int .u8 34) := hE.2 _ (by decide)
  have c2 : w.cell? ⟨4, 2, none⟩ = some (.int .u8 92) := hE.2 _ (by decide)
  have c3 : w.cell? ⟨4, 3, none⟩ = some (.int .u8 92) := hE.2 _ (by decide)
  have c4 : w.cell? ⟨4, 4, none⟩ = some (.int .u8 10) := hE.2 _ (by decide)
  have c5 : w.cell? ⟨4, 5, none⟩ = some (.int .u8 110) := hE.2 _ (by decide)
  have c6 : w.cell? ⟨4, 6, none⟩ = some (.int .u8 13) := hE.2 _ (by decide)
  have c7 : w.cell? ⟨4, 7, none⟩ = some (.int .u8 114) := hE.2 _ (by decide)
  have c8 : w.cell? ⟨4, 8, none⟩ = some (.int .u8 9) := hE.2 _ (by decide)
  have c9 : w.cell? ⟨4, 9, none⟩ = some (.int .u8 116) := hE.2 _ (by decide)
  clear hE
  have hc := c.toNat_lt
  generalize hn : (c.toNat : Int) = n at *
  have h0 : 0 ≤ n := by omega
  have h1 : n ≤ 255 := by omega
  have Hl := Lib.hid (letB_toNat c)
  have Hn := Lib.hid hn
  clear hn hc
  go_enter Tryz.func106, Tryz.ntmps106
  go_wp2
  go_loopw [6] (fun i wr => ∃ k : Nat, k ≤ 5 ∧ i = .int .i64 k ∧ Below w.heap.size w wr ∧ LetRel n k) (fun i _ => 5 - (intOf i).toNat)
  case atStart => exact ⟨0, by omega, rfl, Below.refl _ _, by simp [LetRel]⟩
  case round =>
    obtain ⟨k, hk, rfl, hbl, hr⟩ := hrel
    have hs := hbl.size
    clear c0 c1 c2 c3 c4 c5 c6 c7 c8 c9
    rcases (show k = 0 ∨ k = 1 ∨ k = 2 ∨ k = 3 ∨ k = 4 ∨ k = 5 by omega) with rfl | rfl | rfl | rfl | rfl | rfl
    all_goals have a0 := escAt0; have a1 := escAt1; have a2 := escAt2; have a3 := escAt3; have a4 := escAt4
    all_goals go_wp2
    all_goals first
      | (go_roundw
         case rel =>
           have h2 := ne_of_beq_false ‹(_ == n) = false›
           first
             | refine ⟨1, by omega, rfl, hbl.alloc hs _, ?_⟩
             | refine ⟨2, by omega, rfl, hbl.alloc hs _, ?_⟩
             | refine ⟨3, by omega, rfl, hbl.alloc hs _, ?_⟩
             | refine ⟨4, by omega, rfl, hbl.alloc hs _, ?_⟩
             | refine ⟨5, by omega, rfl, hbl.alloc hs _, ?_⟩
           unfold LetRel at *
           omega
         case measure => simp [intOf])
      | (go_ret
         refine ⟨ret_u8 ?_, ?_⟩
         · rw [Hl.out]
           have := Hn.out
           unfold LetRel at hr
           first
             | (have h' := ‹(_ == n) = true›; have h2 := eq_of_beq h'; subst h2; rw [this]; rfl)
             | (rw [this]; unfold letC; rw [if_neg (by omega), if_neg (by omega), if_neg (by omega), if_neg (by omega), if_neg (by omega)])
         · first | exact hbl | exact hbl.alloc hs _)

theorem and15 (n : Nat) (h : n < 256) : bits BinOp.and IntKind.u8 (n : Int) 15 = ((n % 16 : Nat) : Int) := by
  have : ∀ n : Nat, n < 256 → bits BinOp.and IntKind.u8 (n : Int) 15 = ((n % 16 : Nat) : Int) := by decide +kernel
  exact this n h
theorem hexAt (i j : Nat) (h : i < (⟨#[48, 49, 50, 51, 52, 53, 54, 55, 56, 57, 97, 98, 99, 100, 101, 102]⟩ : ByteArray).size) (e : i = j) : (⟨#[48, 49, 50, 51, 52, 53, 54, 55, 56, 57, 97, 98, 99, 100, 101, 102]⟩ : ByteArray)[i] = hexB j := by
  subst e
  rw [byteAt_lt]
  rfl
def qB (l : List UInt8) : List UInt8 := 34 :: l.flatMap escB
theorem escB_len (c : UInt8) : (escB c).length ≤ 4 := by
  unfold escB
  split
  · simp
  · split <;> simp
theorem qB_len (l : List UInt8) : (qB l).length ≤ 1 + l.length * 4 := by
  induction l with
  | nil => simp [qB]
  | cons c r ih =>
    have := escB_len c
    unfold qB at *
    simp only [List.flatMap_cons, List.length_cons, List.length_append] at *
    omega
theorem qB_snoc (l : List UInt8) (c : UInt8) : qB (l ++ [c]) = qB l ++ escB c := by simp [qB]
theorem escB_plain {c : UInt8} (h : plainB c = true) : escB c = [c] := by rw [escB, if_pos h]
theorem escB_let {c : UInt8} (h : ¬ plainB c = true) (h2 : letB c ≠ 0) : escB c = [92, letB c] := by rw [escB, if_neg h, if_pos h2]
theorem escB_hex {c : UInt8} (h : ¬ plainB c = true) (h2 : letB c = 0) : escB c = [92, 120, hexB (c.toNat / 16), hexB (c.toNat % 16)] := by rw [escB, if_neg h, if_neg (by simp [h2])]
theorem byte_take (s : ByteArray) (k : Nat) (h : k < s.size) : s.data.toList.take (k + 1) = s.data.toList.take k ++ [s[k]] := by
  rw [List.take_succ_eq_append_getElem (by simpa using h)]; rfl
def QOwn (w wr : World) (v : Value) (l : List UInt8) : Prop := wr.ownsRow w.heap.size 5 1 v (qB l).length (bs8 (qB l))
theorem QOwn.next {w wr : World} {v : Value} {s : ByteArray} {k n : Nat} {e : List UInt8} {x : List Value} (hk : k < s.size) (he : escB s[k] = e) (hx : x = bs8 e) (hn : n = e.length)
    (h : wr.ownsRow w.heap.size 5 1 v ((qB (s.data.toList.take k)).length + n) (bs8 (qB (s.data.toList.take k)) ++ x)) : QOwn w wr v (s.data.toList.take (k + 1)) := by
  unfold QOwn
  rw [byte_take s k hk, qB_snoc, he, bs8_app, List.length_append, ← hx, ← hn]
  exact h

set_option maxRecDepth 100000 in
set_option maxHeartbeats 800000 in
theorem quote (s : ByteArray) (w : World) (hE : Esc w) (hs : s.size ≤ 1099511627776) :
    Calls Tryz.prog 85 #[.string s] w fun e w' => e = .returned (.string ⟨(quoteB s.data.toList).toArray⟩) ∧ Below w.heap.size w w' := by
  have hmk : ∀ w : World, (Instr.makeSlice 81 (.int .i64 0) (.int .i64 ((s.size : Int) + 2))).run Tryz.prog w = .ok (.slice (some ⟨w.heap.size, 0, none⟩) 0 (s.size + 2)) (w.alloc (.cells (madeCells #[.int .u8 0] (s.size + 2)) 5)) := by
    intro w
    have := run_mk1 u8El rfl .i64 .i64 0 (s.size + 2) (by omega) (by omega) (by omega) w
    simpa using this
  have how := World.ownsRow_made w (base := w.heap.size) (size := 1) (e := 5) (madeCells #[.int .u8 0] (s.size + 2)) (s.size + 2) (Nat.le_refl _) (by unfold maxLen; omega) (by rw [size_madeCells]; omega)
  have hbw : Below w.heap.size w (w.alloc (.cells (madeCells #[.int .u8 0] (s.size + 2)) 5)) := (Below.refl _ w).alloc (Nat.le_refl _) _
  have HE := Lib.hid hE
  go_enter Tryz.func85, Tryz.ntmps85
  go_wp2_with (at_builtin; refine wpList_app u8El rfl (.tmp 11) (.tmp 12) rfl rfl 0 [] rfl rfl w ?own ?bel [.int .u8 34] ?new rfl ?one (by decide) ?by1 ?by2 ?_)
  case own => exact how.alloc _
  case bel => exact hbw.alloc hbw.size _
  case new => exact alloc2_new _ _ _
  case one => simp [Value.oneCell']
  case by1 => omega
  case by2 => omega
  intro g0 cap0 w1 hown1 hb1 _
  go_wp2
  go_loopw [3, 16] (fun v i wr => ∃ k : Nat, k ≤ s.size ∧ i = .int .i64 k ∧ Below w.heap.size w wr ∧ QOwn w wr v (s.data.toList.take k)) (fun _ i _ => s.size - (intOf i).toNat)
  case atStart => exact ⟨0, Nat.zero_le _, rfl, hb1, hown1⟩
  case round =>
    obtain ⟨k, hk, rfl, hbl, hown⟩ := hrel
    have hql := qB_len (s.data.toList.take k)
    have htl : (s.data.toList.take k).length ≤ k := List.length_take_le _ _
    unfold QOwn at hown
    by_cases hlt : k < s.size
    · go_wp2_with fail
      (with_reducible refine (letterOf s[k] _ (HE.out.below hbl)).mono ?_); rintro e w2 ⟨rfl, hb2⟩
      have hown2 := own_below hown hb2
      have hbl2 := hbl.trans (hb2.mono hbl.size)
      clear hown
      by_cases hp : plainB s[k] = true
      · have Hp := Lib.hid hp
        go_wp2_with fail
        (with_reducible refine (isPlain s[k] _).mono ?_); rintro e w3 ⟨rfl, rfl⟩
        go_wp2_with (at_builtin; refine wpList_ap u8El (hown2.alloc _) (hbl2.alloc hbl2.size _) [.int .u8 (s[k].toNat : Int)] (alloc1_new _ _) ?_)
        intro g cap w4 hown4 hb4 hg4
        go_wp2
        go_roundw
        case rel => exact ⟨k + 1, by omega, by go_num, hb4, QOwn.next hlt (escB_plain Hp.out) rfl rfl hown4⟩
        case measure => simp [intOf]; omega
      · have Hp := Lib.hid hp
        have hp2 : plainB s[k] = false := by simpa using hp
        clear hp
        go_wp2_with fail
        (with_reducible refine (isPlain s[k] _).mono ?_); rintro e w3 ⟨rfl, rfl⟩
        by_cases hl : letB s[k] = 0
        · have hl2 : (((letB s[k]).toNat : Int) != 0) = false := by rw [hl]; rfl
          have Hl := Lib.hid hl
          clear hl
          have hb8 := s[k].toNat_lt
          generalize hn : s[k].toNat = n at *
          have HN := Lib.hid hn
          clear hn
          have g1 : (n : Int) / 16 < 16 := by omega
          have g2 : (0 : Int) ≤ (n : Int) / 16 := by omega
          have hbits : bits BinOp.and IntKind.u8 (n : Int) 15 = ((n % 16 : Nat) : Int) := and15 n hb8
          have g3 : (n : Int) % 16 < 16 := by omega
          have g4 : (0 : Int) ≤ (n : Int) % 16 := by omega
          go_wp2
          go_region_law ((refine step_ap u8El (cs := [.int .u8 92, .int .u8 120, .int .u8 (hexB (n / 16)).toNat, .int .u8 (hexB (n % 16)).toNat]) (hown2.alloc _) (by exact (hbl2.alloc hbl2.size _).drew) (by rw [hexAt ((n : Int) / 16).toNat (n / 16) _ (by omega), hexAt ((n : Int) % 16).toNat (n % 16) _ (by omega)]; exact alloc1_new _ _) ?_; intro g cap w4 hown4 hb4 hg4))
          all_goals
            have hown5 := QOwn.next hlt (escB_hex Hp.out Hl.out) (by rw [HN.out]; rfl) rfl hown4
            clear hown4 hg4
            go_wp2
            go_roundw
            case rel => exact ⟨k + 1, by omega, by go_num, hb4, hown5⟩
            case measure => simp [intOf]; omega
        · have hl2 : (((letB s[k]).toNat : Int) != 0) = true := by
            rw [bne_iff_ne]; intro e; apply hl
            exact UInt8.toNat_inj.1 (by simpa using Int.ofNat_inj.1 e)
          have Hl := Lib.hid hl
          clear hl
          go_wp2_with (at_builtin; refine wpList_ap u8El (hown2.alloc _) (hbl2.alloc hbl2.size _) [.int .u8 92, .int .u8 ((letB s[k]).toNat : Int)] (alloc1_new _ _) ?_)
          intro g cap w4 hown4 hb4 hg4
          go_wp2
          go_roundw
          case rel => exact ⟨k + 1, by omega, by go_num, hb4, QOwn.next hlt (escB_let Hp.out Hl.out) rfl rfl hown4⟩
          case measure => simp [intOf]; omega
    · obtain rfl : k = s.size := by omega
      rw [List.take_of_length_le (by simp)] at hown hql
      have hsl : s.data.toList.length = s.size := by simp
      have Hsl := Lib.hid hsl
      have hq2 : (qB s.data.toList).length ≤ 1 + s.size * 4 := by rw [← hsl]; exact hql
      clear hsl hql htl
      go_wp2_with (at_builtin; refine wpList_ap u8El (hown.alloc _) (hbl.alloc hbl.size _) [.int .u8 34] (alloc1_new _ _) ?_)
      intro g cap w4 hown4 hb4 hg4
      have hown5 : w4.ownsRow w.heap.size 5 1 (.slice (some ⟨g, 0, none⟩) ((qB s.data.toList).length + 1) cap) ((qB s.data.toList).length + 1) (bs8 (quoteB s.data.toList)) := by
        have : quoteB s.data.toList = qB s.data.toList ++ [34] := by simp [quoteB, qB]
        rw [this, bs8_app]
        exact hown4
      have hcv := own_conv hown5
      clear hown4 hown5
      go_wp2
      go_ret
      exact ⟨rfl, hb4⟩
end Go.Proofs.YtcopnpllaoahaaaGreatDoor
