/- Print of the reference. -/
import Derived.Test.YtoogemdcmnjpnaaDoorS17
import Derived.Test.YtoogemdcmnjpnaaDoorW4
namespace Go.Proofs.YtoogemdcmnjpnaaDoor
open Go.RowKit
set_option maxRecDepth 100000 in
set_option maxHeartbeats 400000 in
theorem rword (K : Int) (h1 : 1 ≤ K) (h4 : K ≤ 4) (w : World) :
    Calls Tryd.prog 48 #[.int .i64 K] w fun e w' => e = .returned (.string (wordS K)) ∧ Below w.heap.size w w' := by
  rcases (show K = 1 ∨ K = 2 ∨ K = 3 ∨ K = 4 by omega) with rfl | rfl | rfl | rfl
  all_goals
    go_enter Tryd.func48, Tryd.ntmps48
    go_wp2
    go_ret
    exact ⟨rfl, ba (Below.refl _ _) _⟩
set_option maxRecDepth 100000 in
set_option maxHeartbeats 800000 in
theorem rprint (w : World) (A : Option Addr) (c : Nat) (l : List Sc) (h : IsSc w A l) :
    Calls Tryd.prog 34 #[.slice A l.length c] w fun e w' => e = .returned (.tuple #[.string (print l), .int .i64 (chk l).2]) ∧ Below w.heap.size w w' := by
  by_cases h0 : (chk l).2 = 0
  case neg =>
    have e0 : ((chk l).2 != 0) = true := by simp [h0]
    have Hp := Lib.hid (print_neg h0)
    clear h0
    go_enter Tryd.func34, Tryd.ntmps34
    go_wp2_with fail
    (with_reducible refine (rcheck w A c l h).mono ?_); rintro e w1 ⟨rfl, hb1⟩
    go_wp2
    go_ret2
    exact ⟨ret_si (by rw [Hp.out]) rfl, hb1⟩
  have e0 : ((chk l).2 != 0) = false := by simp [h0]
  have h200 := chk_len h0
  have Hp := Lib.hid (print_pos h0)
  have H0 := Lib.hid h0
  clear h0
  go_enter Tryd.func34, Tryd.ntmps34
  go_wp2_with fail
  (with_reducible refine (rcheck w A c l h).mono ?_); rintro e w1 ⟨rfl, hb1⟩
  go_wp2
  go_loopw [6, 7] (fun v i wr => ∃ (k : Nat) (cur : ByteArray), k ≤ l.length ∧ i = .int .i64 k ∧ v = .string cur ∧ Below w.heap.size w wr ∧ Hid (cur = ⟨(printL (l.take k)).toArray⟩) ∧ cur.size ≤ k * 4409) (fun _ i _ => l.length - (intOf i).toNat)
  case atStart => exact ⟨0, ⟨#[]⟩, Nat.zero_le _, rfl, rfl, hb1, Lib.hid rfl, by show 0 ≤ _; omega⟩
  case round =>
    obtain ⟨k, cur, hk, rfl, rfl, hbl, hcur, hcs⟩ := hrel
    by_cases hlt : k < l.length
    case neg =>
      go_wp2
      go_ret2
      exact ⟨ret_si (by rw [Hp.out, hcur.out, List.take_of_length_le (by omega)]) H0.out.symm, hbl⟩
    obtain ⟨b, off, K, s, rfl, hb, d1, d2, hd, hK1, hK4, hs1, _⟩ := scAtOk h.rd hlt H0
    have hi1 : (k : Int) < (l.length : Int) := by omega
    have hi0 : (0 : Int) ≤ (k : Int) := by omega
    have c1 := (hbl.cell (p := ⟨b, off + k * 2, none⟩) (by simp; omega)).trans d1
    have hws : (wordS K).size ≤ 5 := wordL_len K
    have hq := quoteB_len s.data.toList
    have hsl := Lib.hid (show s.data.toList.length = s.size by simp)
    have hq2 : (quoteB s.data.toList).length ≤ 2 + s.size * 4 := by rw [← hsl.out]; exact hq
    have hqs : (⟨(quoteB s.data.toList).toArray⟩ : ByteArray).size ≤ 4402 := by
      show (quoteB s.data.toList).length ≤ _
      omega
    have HQ : Hid ((⟨(quoteB s.data.toList).toArray⟩ : ByteArray).data.toList = quoteB s.data.toList) := Lib.hid rfl
    clear hq hqs HQ
    have hadd1 : ¬ (9223372036854775807 < cur.size + (wordS K).size) := by omega
    by_cases h1 : K = 1
    · have e1 : (K == 1) = true := by simp [h1]
      have H1 := Lib.hid h1
      clear h1
      go_wp2_with fail
      (with_reducible refine (rword K hK1 hK4 _).mono ?_); rintro e w2 ⟨rfl, hb2⟩
      have hbl2 := bt hbl hb2
      have c1 := (hbl2.cell (p := ⟨b, off + k * 2, none⟩) (by simp; omega)).trans d1
      have c2 := (hbl2.cell (p := ⟨b, off + k * 2 + 1, none⟩) (by simp; omega)).trans d2
      go_wp2_with fail
      (with_reducible refine (rquote s _ (by omega)).mono ?_); rintro e w3 ⟨rfl, hb3⟩
      have hbl3 := bt hbl2 hb3
      have hadd2 : ¬ (9223372036854775807 < cur.size + (wordS K).size + 1 + (quoteB s.data.toList).length) := by omega
      have hadd3 : ¬ (9223372036854775807 < cur.size + (wordS K).size + 1 + (quoteB s.data.toList).length + 1) := by omega
      have hx : Hid (cur ++ wordS K ++ ⟨#[32]⟩ ++ ⟨(quoteB s.data.toList).toArray⟩ ++ ⟨#[10]⟩ = ⟨(printL (l.take (k + 1))).toArray⟩) := Lib.hid (by
        rw [printL_next hd, H1.out, lineL_feed, hcur.out]
        apply ByteArray.ext
        simp only [ByteArray.data_append]
        apply Array.toList_inj.1
        simp [wordS])
      have hxs : (cur ++ wordS K ++ ⟨#[32]⟩ ++ ⟨(quoteB s.data.toList).toArray⟩ ++ (⟨#[10]⟩ : ByteArray)).size ≤ (k + 1) * 4409 := by
        simp only [ByteArray.size_append]
        show cur.size + (wordS K).size + 1 + (quoteB s.data.toList).length + 1 ≤ _
        omega
      have Hxs := Lib.hid hxs
      clear hxs
      go_wp2
      go_roundw
      case rel => exact ⟨k + 1, _, by omega, by go_num, rfl, hbl3, hx, Hxs.out⟩
      case measure => simp [intOf]; omega
    · have e1 : (K == 1) = false := by simp [h1]
      have H1 := Lib.hid h1
      clear h1
      go_wp2_with fail
      (with_reducible refine (rword K hK1 hK4 _).mono ?_); rintro e w2 ⟨rfl, hb2⟩
      have hbl2 := bt hbl hb2
      have c1 := (hbl2.cell (p := ⟨b, off + k * 2, none⟩) (by simp; omega)).trans d1
      have hadd2 : ¬ (9223372036854775807 < cur.size + (wordS K).size + 1) := by omega
      have hx : Hid (cur ++ wordS K ++ ⟨#[10]⟩ = ⟨(printL (l.take (k + 1))).toArray⟩) := Lib.hid (by
        rw [printL_next hd, lineL_other H1.out, hcur.out]
        apply ByteArray.ext
        simp only [ByteArray.data_append]
        apply Array.toList_inj.1
        simp [wordS])
      have hxs : (cur ++ wordS K ++ (⟨#[10]⟩ : ByteArray)).size ≤ (k + 1) * 4409 := by
        simp only [ByteArray.size_append]
        show cur.size + (wordS K).size + 1 ≤ _
        omega
      have Hxs := Lib.hid hxs
      clear hxs
      go_wp2
      go_roundw
      case rel => exact ⟨k + 1, _, by omega, by go_num, rfl, hbl2, hx, Hxs.out⟩
      case measure => simp [intOf]; omega
end Go.Proofs.YtoogemdcmnjpnaaDoor
