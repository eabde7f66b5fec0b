/- The reference's words: plain, hex, escaped, Quote. -/
import Derived.Test.YtcopnpllaoahaaaGreatDoorW1
import Derived.Lib.AppendStr
namespace Go.Proofs.YtcopnpllaoahaaaGreatDoor
open Go.RowKit
theorem ret_str {a b : ByteArray} (h : a = b) : Ending.returned (.string a) = .returned (.string b) := by rw [h]
/-- append(v, s...), s a string; short form -/
theorem wpList_aps {P : Program} {w : World} {ops : Array Oper} {rest : List Oper} {o : Oper} {a : Act} {Q : Exit → Act → World → Prop} {e t u : TypeId} (E : Elem P t e (.int .u8 0) 1 1) (hu : P.underlying u = some .string)
    {w0 : World} {v : Value} {n : Nat} {l : List UInt8} (hown : w.ownsRow w0.heap.size e 1 v n (bs8 l)) (hb : Below w0.heap.size w0 w)
    {s : ByteArray} {sl x : Operand}
    (h : ∀ v' w', w'.ownsRow w0.heap.size e 1 v' (n + s.size) (bs8 (l ++ s.data.toList)) → Below w0.heap.size w0 w' → w.grownBy w' v.ownBlock → wpList P ops Q rest (a.put o.dst v') w')
    (hgd : o.guard = none := by rfl) (ho : o.op = .call { callee := .builtin .append, args := #[sl, x], argTypes := #[t, u] } := by rfl)
    (hs : a.eval sl = v := by rfl) (hx : a.eval x = .string s := by rfl)
    (h63 : n + s.size ≤ 140737488355328 := by omega) : wpList P ops Q (o :: rest) a w := by
  obtain ⟨i, hi, hz, h1, h2⟩ := info_parts E.hi
  refine Lib.wpList_append_own_string w hgd sl x t u ho w0.heap.size e i E.ht hu hi hz h1 h2 v n (bs8 l) hs hown s hx (by unfold maxLen; omega) (by omega) hb.size ?_
  intro v' w' hown' hg' _
  refine h v' w' ?_ (below_own hb hown hg') hg'
  rw [bs8_app]
  exact hown'
set_option maxHeartbeats 400000 in
theorem rplain (c : UInt8) (w : World) :
    Calls Tryz.prog 113 #[.int .u8 (c.toNat : Int)] w fun e w' => e = .returned (.bool (plainB c)) ∧ w = w' := by
  have h : plainB c = decide (32 ≤ (c.toNat : Int) ∧ (c.toNat : Int) ≤ 126 ∧ (c.toNat : Int) ≠ 34 ∧ (c.toNat : Int) ≠ 92) := rfl
  have H := Lib.hid h
  clear h
  have hc := c.toNat_lt
  generalize hn : (c.toNat : Int) = n at *
  have h0 : 0 ≤ n := by omega
  have h1 : n ≤ 255 := by omega
  have Hn := Lib.hid hn
  clear hn hc
  go_enter Tryz.func113, Tryz.ntmps113
  go_wp2
  all_goals
    go_ret
    refine ⟨ret_bool ?_, rfl⟩
    rw [H.out, Bool.eq_iff_iff]
    first | (simp; done) | (simp; omega) | (simp_all; done) | (simp_all; omega)
set_option maxHeartbeats 400000 in
theorem rhex (n : Nat) (hn : n < 16) (w : World) :
    Calls Tryz.prog 114 #[.int .u8 (n : Int)] w fun e w' => e = .returned (.int .u8 ((hexB n).toNat : Int)) ∧ w = w' := by
  have h0 : (0 : Int) ≤ (n : Int) := by omega
  have h1 : (n : Int) < 16 := by omega
  go_enter Tryz.func114, Tryz.ntmps114
  go_wp2
  go_ret
  refine ⟨?_, rfl⟩
  rw [hexAt n n _ rfl]
  rfl
theorem rhexI (i : Int) (n : Nat) (hi : i = n) (hn : n < 16) (w : World) :
    Calls Tryz.prog 114 #[.int .u8 i] w fun e w' => e = .returned (.int .u8 ((hexB n).toNat : Int)) ∧ w = w' := by
  subst hi; exact rhex n hn w
/-- the conversion of bytes in a new block -/
theorem conv_new (w : World) (l : List UInt8) (n : Nat) (hn : n = l.length) :
    (convert 81 9 (.slice (some ⟨w.heap.size, 0, none⟩) n n)).run Tryz.prog (w.alloc (.cells (bs8 l).toArray 5)) = .ok (.string ⟨l.toArray⟩) (w.alloc (.cells (bs8 l).toArray 5)) := by
  subst hn
  have := reads_blkN (w := w.alloc (.cells (bs8 l).toArray 5)) (g := w.heap.size) (size := 1) (n := l.length) (cs := bs8 l) (t := 5) (alloc1_new _ _) (by simp [bs8])
  exact run_conv Tryz.underlying81 Tryz.underlying5 Tryz.underlying9 this
def escS (c : UInt8) : ByteArray := ⟨(escB c).toArray⟩
theorem escS_plain {c : UInt8} (h : plainB c = true) : escS c = ⟨#[c]⟩ := by unfold escS; rw [escB_plain h]
theorem escS_hex {c : UInt8} (h : ¬ plainB c = true) (h2 : letB c = 0) : escS c = ⟨#[92, 120]⟩ ++ ⟨#[hexB (c.toNat / 16), hexB (c.toNat % 16)]⟩ := by unfold escS; rw [escB_hex h h2]; rfl
theorem letB_cases {c : UInt8} (h : letB c ≠ 0) : c = 34 ∨ c = 92 ∨ c = 10 ∨ c = 13 ∨ c = 9 := by
  unfold letB at h
  by_cases h1 : c = 34
  · exact .inl h1
  by_cases h2 : c = 92
  · exact .inr (.inl h2)
  by_cases h3 : c = 10
  · exact .inr (.inr (.inl h3))
  by_cases h4 : c = 13
  · exact .inr (.inr (.inr (.inl h4)))
  by_cases h5 : c = 9
  · exact .inr (.inr (.inr (.inr h5)))
  simp [h1, h2, h3, h4, h5] at h
theorem letB_zero {c : UInt8} (h : letB c = 0) : (c.toNat : Int) ≠ 34 ∧ (c.toNat : Int) ≠ 92 ∧ (c.toNat : Int) ≠ 10 ∧ (c.toNat : Int) ≠ 13 ∧ (c.toNat : Int) ≠ 9 := by
  have hc := letB_toNat c
  rw [h] at hc
  unfold letC at hc
  refine ⟨fun e => ?_, fun e => ?_, fun e => ?_, fun e => ?_, fun e => ?_⟩ <;> rw [e] at hc <;> simp at hc
set_option maxRecDepth 100000 in
set_option maxHeartbeats 800000 in
theorem escaped (c : UInt8) (w : World) :
    Calls Tryz.prog 88 #[.int .u8 (c.toNat : Int)] w fun e w' => e = .returned (.string (escS c)) ∧ Below w.heap.size w w' := by
  by_cases hp : plainB c = true
  · have He := Lib.hid (escS_plain hp)
    have hcv : (convert 81 9 (.slice (some ⟨w.heap.size, 0, none⟩) 1 1)).run Tryz.prog (w.alloc (.cells #[.int .u8 (c.toNat : Int)] 5)) = .ok (.string ⟨#[c]⟩) (w.alloc (.cells #[.int .u8 (c.toNat : Int)] 5)) := conv_new w [c] 1 rfl
    go_enter Tryz.func88, Tryz.ntmps88
    go_wp2_with fail
    (with_reducible refine (rplain c _).mono ?_); rintro e w1 ⟨rfl, rfl⟩
    go_wp2
    go_ret
    exact ⟨ret_str (by rw [He.out]), ba (Below.refl _ _) _⟩
  · have hp2 : plainB c = false := by simpa using hp
    by_cases hl : letB c = 0
    · have He := Lib.hid (escS_hex hp hl)
      obtain ⟨n1, n2, n3, n4, n5⟩ := letB_zero hl
      have hcv : (convert 81 9 (.slice (some ⟨w.heap.size, 0, none⟩) 2 2)).run Tryz.prog (w.alloc (.cells #[.int .u8 ((hexB (c.toNat / 16)).toNat : Int), .int .u8 ((hexB (c.toNat % 16)).toNat : Int)] 5)) = .ok (.string ⟨#[hexB (c.toNat / 16), hexB (c.toNat % 16)]⟩) (w.alloc (.cells #[.int .u8 ((hexB (c.toNat / 16)).toNat : Int), .int .u8 ((hexB (c.toNat % 16)).toNat : Int)] 5)) := conv_new w [hexB (c.toNat / 16), hexB (c.toNat % 16)] 2 rfl
      have hc := c.toNat_lt
      clear hp hl
      have m1 : ((c.toNat : Int) == 34) = false := by simpa using n1
      have m2 : ((c.toNat : Int) == 92) = false := by simpa using n2
      have m3 : ((c.toNat : Int) == 10) = false := by simpa using n3
      have m4 : ((c.toNat : Int) == 13) = false := by simpa using n4
      have m5 : ((c.toNat : Int) == 9) = false := by simpa using n5
      clear n1 n2 n3 n4 n5
      have h0 : (0 : Int) ≤ (c.toNat : Int) := by omega
      have h1 : (c.toNat : Int) ≤ 255 := by omega
      have b1 := Lib.hid (show c.toNat / 16 < 16 by omega)
      have b2 := Lib.hid (show c.toNat % 16 < 16 by omega)
      have hadd : ¬ (9223372036854775807 < (⟨#[92, 120]⟩ : ByteArray).size + (⟨#[hexB (c.toNat / 16), hexB (c.toNat % 16)]⟩ : ByteArray).size) := by
        show ¬ (9223372036854775807 < 2 + 2)
        omega
      go_enter Tryz.func88, Tryz.ntmps88
      go_wp2_with fail
      (with_reducible refine (rplain c _).mono ?_); rintro e w1 ⟨rfl, rfl⟩
      go_wp2_with fail
      (with_reducible refine (rhexI _ (c.toNat / 16) (by omega) b1.out _).mono ?_); rintro e w1 ⟨rfl, rfl⟩
      go_wp2_with fail
      (with_reducible refine (rhexI _ (c.toNat % 16) (by omega) b2.out _).mono ?_); rintro e w1 ⟨rfl, rfl⟩
      go_wp2
      go_ret
      exact ⟨ret_str (by rw [He.out]), ba (Below.refl _ _) _⟩
    · rcases letB_cases hl with hv | hv | hv | hv | hv
      · have He := Lib.hid (show escS c = ⟨#[92, 34]⟩ by rw [hv]; decide)
        have m1 : ((c.toNat : Int) == 34) = true := by rw [hv]; rfl
        have m2 : ((c.toNat : Int) == 92) = false := by rw [hv]; rfl
        have m3 : ((c.toNat : Int) == 10) = false := by rw [hv]; rfl
        have m4 : ((c.toNat : Int) == 13) = false := by rw [hv]; rfl
        have m5 : ((c.toNat : Int) == 9) = false := by rw [hv]; rfl
        clear hl hp hv
        go_enter Tryz.func88, Tryz.ntmps88
        go_wp2_with fail
        (with_reducible refine (rplain c _).mono ?_); rintro e w1 ⟨rfl, rfl⟩
        go_wp2
        go_ret
        exact ⟨ret_str (by rw [He.out]), Below.refl _ _⟩
      · have He := Lib.hid (show escS c = ⟨#[92, 92]⟩ by rw [hv]; decide)
        have m1 : ((c.toNat : Int) == 34) = false := by rw [hv]; rfl
        have m2 : ((c.toNat : Int) == 92) = true := by rw [hv]; rfl
        have m3 : ((c.toNat : Int) == 10) = false := by rw [hv]; rfl
        have m4 : ((c.toNat : Int) == 13) = false := by rw [hv]; rfl
        have m5 : ((c.toNat : Int) == 9) = false := by rw [hv]; rfl
        clear hl hp hv
        go_enter Tryz.func88, Tryz.ntmps88
        go_wp2_with fail
        (with_reducible refine (rplain c _).mono ?_); rintro e w1 ⟨rfl, rfl⟩
        go_wp2
        go_ret
        exact ⟨ret_str (by rw [He.out]), Below.refl _ _⟩
      · have He := Lib.hid (show escS c = ⟨#[92, 110]⟩ by rw [hv]; decide)
        have m1 : ((c.toNat : Int) == 34) = false := by rw [hv]; rfl
        have m2 : ((c.toNat : Int) == 92) = false := by rw [hv]; rfl
        have m3 : ((c.toNat : Int) == 10) = true := by rw [hv]; rfl
        have m4 : ((c.toNat : Int) == 13) = false := by rw [hv]; rfl
        have m5 : ((c.toNat : Int) == 9) = false := by rw [hv]; rfl
        clear hl hp hv
        go_enter Tryz.func88, Tryz.ntmps88
        go_wp2_with fail
        (with_reducible refine (rplain c _).mono ?_); rintro e w1 ⟨rfl, rfl⟩
        go_wp2
        go_ret
        exact ⟨ret_str (by rw [He.out]), Below.refl _ _⟩
      · have He := Lib.hid (show escS c = ⟨#[92, 114]⟩ by rw [hv]; decide)
        have m1 : ((c.toNat : Int) == 34) = false := by rw [hv]; rfl
        have m2 : ((c.toNat : Int) == 92) = false := by rw [hv]; rfl
        have m3 : ((c.toNat : Int) == 10) = false := by rw [hv]; rfl
        have m4 : ((c.toNat : Int) == 13) = true := by rw [hv]; rfl
        have m5 : ((c.toNat : Int) == 9) = false := by rw [hv]; rfl
        clear hl hp hv
        go_enter Tryz.func88, Tryz.ntmps88
        go_wp2_with fail
        (with_reducible refine (rplain c _).mono ?_); rintro e w1 ⟨rfl, rfl⟩
        go_wp2
        go_ret
        exact ⟨ret_str (by rw [He.out]), Below.refl _ _⟩
      · have He := Lib.hid (show escS c = ⟨#[92, 116]⟩ by rw [hv]; decide)
        have m1 : ((c.toNat : Int) == 34) = false := by rw [hv]; rfl
        have m2 : ((c.toNat : Int) == 92) = false := by rw [hv]; rfl
        have m3 : ((c.toNat : Int) == 10) = false := by rw [hv]; rfl
        have m4 : ((c.toNat : Int) == 13) = false := by rw [hv]; rfl
        have m5 : ((c.toNat : Int) == 9) = true := by rw [hv]; rfl
        clear hl hp hv
        go_enter Tryz.func88, Tryz.ntmps88
        go_wp2_with fail
        (with_reducible refine (rplain c _).mono ?_); rintro e w1 ⟨rfl, rfl⟩
        go_wp2
        go_ret
        exact ⟨ret_str (by rw [He.out]), Below.refl _ _⟩
set_option maxRecDepth 100000 in
set_option maxHeartbeats 800000 in
theorem rquote (s : ByteArray) (w : World) (hs : s.size ≤ 1099511627776) :
    Calls Tryz.prog 70 #[.string s] w fun e w' => e = .returned (.string ⟨(quoteB s.data.toList).toArray⟩) ∧ Below w.heap.size w w' := by
  go_enter Tryz.func70, Tryz.ntmps70
  go_wp2
  go_loopw [3, 4] (fun v i wr => ∃ k : Nat, k ≤ s.size ∧ i = .int .i64 k ∧ Below w.heap.size w wr ∧ QOwn w wr v (s.data.toList.take k)) (fun _ i _ => s.size - (intOf i).toNat)
  case atStart => exact ⟨0, Nat.zero_le _, rfl, ba (Below.refl _ _) _, World.ownsRow_lit w #[.int .u8 34] 1 (Nat.le_refl _) (by unfold maxLen; omega) rfl⟩
  case round =>
    obtain ⟨k, hk, rfl, hbl, hown⟩ := hrel
    have hql := qB_len (s.data.toList.take k)
    have htl : (s.data.toList.take k).length ≤ k := List.length_take_le _ _
    unfold QOwn at hown
    by_cases hlt : k < s.size
    · have hel := escB_len s[k]
      have hes : (escS s[k]).size = (escB s[k]).length := rfl
      have hel2 : (escS s[k]).size ≤ 4 := by omega
      have hi1 : (k : Int) < (s.size : Int) := by omega
      have hi0 : (0 : Int) ≤ (k : Int) := by omega
      clear hes hel
      go_wp2_with fail
      (with_reducible refine (escaped s[k] _).mono ?_); rintro e w2 ⟨rfl, hb2⟩
      have hown2 := own_below hown hb2
      have hbl2 := bt hbl hb2
      clear hown
      go_wp2_with (at_builtin; refine wpList_aps u8El Tryz.underlying9 hown2 hbl2 ?_)
      intro v3 w3 hown3 hb3 _
      have hown4 : QOwn w w3 v3 (s.data.toList.take (k + 1)) := by
        unfold QOwn
        rw [byte_take s k hlt, qB_snoc, List.length_append]
        exact hown3
      clear hown3
      go_wp2
      go_roundw
      case rel => exact ⟨k + 1, by omega, by go_num, hb3, hown4⟩
      case measure => simp [intOf]; omega
    · obtain rfl : k = s.size := by omega
      rw [List.take_of_length_le (by simp)] at hown hql
      have hsl : s.data.toList.length = s.size := by simp
      have hq2 : (qB s.data.toList).length ≤ 1 + s.size * 4 := by rw [← hsl]; exact hql
      clear hsl hql htl
      go_wp2_with (at_builtin; refine wpList_ap u8El (hown.alloc _) (hbl.alloc hbl.size _) [.int .u8 34] (alloc1_new _ _) ?_)
      intro g cap w4 hown4 hb4 hg4
      have hown5 : w4.ownsRow w.heap.size 5 1 (.slice (some ⟨g, 0, none⟩) ((qB s.data.toList).length + 1) cap) ((qB s.data.toList).length + 1) (bs8 (quoteB s.data.toList)) := by
        have : quoteB s.data.toList = qB s.data.toList ++ [34] := by simp [quoteB, qB]
        rw [this, bs8_app]
        exact hown4
      have hcv := own_conv hown5
      clear hown4 hown5
      go_wp2
      go_ret
      exact ⟨rfl, hb4⟩
end Go.Proofs.YtcopnpllaoahaaaGreatDoor
