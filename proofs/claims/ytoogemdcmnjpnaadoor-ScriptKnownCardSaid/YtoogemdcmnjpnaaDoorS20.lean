/- The line of a script's text in the reference: one. -/
import Derived.Test.YtoogemdcmnjpnaaDoorS19
namespace Go.Proofs.YtoogemdcmnjpnaaDoor
open Go.RowKit
def feedB : ByteArray := ⟨#[102, 101, 101, 100, 32]⟩
theorem feedB_list : feedB.toList = [102, 101, 101, 100, 32] := by rw [ByteArray.toList_eq]; rfl
theorem feedP_short {s : ByteArray} (h : s.size < 5) : feedP s.data.toList = false := by
  unfold feedP Lib.hasPrefix
  rw [Bool.eq_false_iff]
  intro hp
  have := (List.isPrefixOf_iff_prefix.1 hp).length_le
  have e : s.data.toList.length = s.size := by simp
  simp only [List.length_cons, List.length_nil] at this
  omega
theorem feedP_cut {s : ByteArray} (h : ¬ s.size < 5) : decide (s.extract 0 5 = feedB) = feedP s.data.toList := by
  rw [Bool.eq_iff_iff]
  unfold feedP Lib.hasPrefix
  rw [List.isPrefixOf_iff_prefix, decide_eq_true_eq, List.prefix_iff_eq_take]
  have e := ext_list2 s 0 5
  simp only [List.drop_zero, Nat.sub_zero] at e
  constructor
  · intro hh
    rw [hh] at e
    exact e
  · intro hh
    apply ByteArray.ext
    apply Array.toList_inj.1
    rw [e]
    exact hh.symm
theorem lineR_plain {s : ByteArray} {k : Int} (h : plainR s = (k, 0)) : lineR s = ((k, emp), 0) := by unfold lineR; rw [h]; rfl
theorem lineR_feed {s : ByteArray} (h : plainR s = (0, 6)) : lineR s = feedR s := by unfold lineR; rw [h]; rfl
theorem plainR_word {s : ByteArray} {k : Nat} (hk1 : 2 ≤ k) (hk4 : (k : Int) ≤ 4) (hno : Hid (∀ j : Int, 2 ≤ j → j < (k : Int) → s ≠ wordS j)) (he : s = wordS k) : plainR s = ((k : Int), 0) := by
  unfold plainR
  have hk5 : (2 : Int) ≤ (k : Int) := by omega
  have h2 : (k : Int) = 2 ∨ s ≠ wordS 2 := by
    rcases (show (k : Int) = 2 ∨ 2 < (k : Int) by omega) with h | h
    · exact .inl h
    · exact .inr (hno.out 2 (by omega) h)
  have h3 : (k : Int) = 2 ∨ (k : Int) = 3 ∨ s ≠ wordS 3 := by
    rcases (show (k : Int) = 2 ∨ (k : Int) = 3 ∨ 3 < (k : Int) by omega) with h | h | h
    · exact .inl h
    · exact .inr (.inl h)
    · exact .inr (.inr (hno.out 3 (by omega) h))
  rcases (show (k : Int) = 2 ∨ (k : Int) = 3 ∨ (k : Int) = 4 by omega) with h | h | h
  · rw [h] at he ⊢; rw [if_pos he]
  · rw [h] at he ⊢; rw [if_neg (by rcases h2 with e | e; omega; exact e), if_pos he]
  · rw [h] at he ⊢; rw [if_neg (by rcases h2 with e | e; omega; exact e), if_neg (by rcases h3 with e | e | e; omega; omega; exact e), if_pos he]
set_option maxRecDepth 100000 in
set_option maxHeartbeats 1600000 in
theorem rone (s : ByteArray) (w : World) (hsz : s.size ≤ 1099511627776) :
    Calls Tryd.prog 57 #[.string s] w fun e w' => e = scV (lineR s).1 (lineR s).2 ∧ Below w.heap.size w w' := by
  have hx := Lib.hid (alloc1_new w (.cells #[.int .i64 0, .string ⟨#[]⟩] 47))
  have hb0 : Below w.heap.size w (w.alloc (.cells #[.int .i64 0, .string ⟨#[]⟩] 47)) := ba (Below.refl _ _) _
  have hx1 : ∀ w', Below (w.alloc (.cells #[.int .i64 0, .string ⟨#[]⟩] 47)).heap.size (w.alloc (.cells #[.int .i64 0, .string ⟨#[]⟩] 47)) w' → w'.heap[w.heap.size]? = some (.cells #[.int .i64 0, .string ⟨#[]⟩] 47) := fun w' hb => below_blk hb (by simp) hx.out
  have Hx1 := Lib.hid hx1
  clear hx1
  go_enter Tryd.func57, Tryd.ntmps57
  go_wp2
  go_loopw [4] (fun i wr => ∃ k : Nat, 2 ≤ k ∧ k ≤ 5 ∧ i = .int .i64 k ∧ Below (w.alloc (.cells #[.int .i64 0, .string ⟨#[]⟩] 47)).heap.size (w.alloc (.cells #[.int .i64 0, .string ⟨#[]⟩] 47)) wr ∧ Hid (∀ j : Int, 2 ≤ j → j < (k : Int) → s ≠ wordS j)) (fun i _ => 5 - (intOf i).toNat)
  case atStart => exact ⟨2, by omega, by omega, rfl, Below.refl _ _, Lib.hid fun j h1 h2 => by omega⟩
  case round =>
    obtain ⟨k, hk1, hk2, rfl, hbw, hno⟩ := hrel
    by_cases hk : k = 5
    · subst hk
      have hP := Lib.hid (show plainR s = (0, 6) by
        unfold plainR
        rw [if_neg (hno.out 2 (by omega) (by omega)), if_neg (hno.out 3 (by omega) (by omega)), if_neg (hno.out 4 (by omega) (by omega))])
      by_cases h5 : s.size < 5
      · have hR := Lib.hid (show lineR s = ((0, emp), 6) by rw [lineR_feed hP.out]; unfold feedR; rw [feedP_short h5]; rfl)
        have hx3 := Hx1.out _ hbw
        have c0 : wr.cell? ⟨w.heap.size, 0, none⟩ = some (.int .i64 0) := by rw [Lib.cell_of_heap hx3]; rfl
        have c1 : wr.cell? ⟨w.heap.size, 1, none⟩ = some (.string ⟨#[]⟩) := by rw [Lib.cell_of_heap hx3]; rfl
        have f0 : wr.frozen? ⟨w.heap.size, 0, none⟩ = false := Lib.frozen_of_heap hx3 0
        have f1 : wr.frozen? ⟨w.heap.size, 1, none⟩ = false := Lib.frozen_of_heap hx3 1
        have hB := Lib.hid (bt hb0 hbw)
        clear hno hP hx3 hbw Hx1 hb0 hx
        go_wp2
        exact bodyPost_ret (v := .tuple #[.agg #[.int .i64 0, .string ⟨#[]⟩], .int .i64 6]) (by simp [results, Tryd.results57, go_sem, c0, c1]) rfl ⟨scV_ret (x := (0, emp)) hR rfl, (hB.out.setCell (p := ⟨w.heap.size, 0, none⟩) (Nat.le_refl _) _).setCell (p := ⟨w.heap.size, 1, none⟩) (Nat.le_refl _) _⟩
      by_cases hp : feedP s.data.toList = true
      case neg =>
        have m5 : ((s.extract 0 5).toList == feedB.toList) = false := by rw [beq_list, feedP_cut h5]; simpa using hp
        have m5' : ((s.extract 0 5).toList == [102, 101, 101, 100, 32]) = false := by rw [← feedB_list]; exact m5
        have hR := Lib.hid (show lineR s = ((0, emp), 6) by rw [lineR_feed hP.out]; unfold feedR; rw [if_neg hp])
        have hx3 := Hx1.out _ hbw
        have c0 : wr.cell? ⟨w.heap.size, 0, none⟩ = some (.int .i64 0) := by rw [Lib.cell_of_heap hx3]; rfl
        have c1 : wr.cell? ⟨w.heap.size, 1, none⟩ = some (.string ⟨#[]⟩) := by rw [Lib.cell_of_heap hx3]; rfl
        have f0 : wr.frozen? ⟨w.heap.size, 0, none⟩ = false := Lib.frozen_of_heap hx3 0
        have f1 : wr.frozen? ⟨w.heap.size, 1, none⟩ = false := Lib.frozen_of_heap hx3 1
        have hB := Lib.hid (bt hb0 hbw)
        clear hno hP hx3 hbw Hx1 hb0 hx hp m5
        go_wp2
        exact bodyPost_ret (v := .tuple #[.agg #[.int .i64 0, .string ⟨#[]⟩], .int .i64 6]) (by simp [results, Tryd.results57, go_sem, c0, c1]) rfl ⟨scV_ret (x := (0, emp)) hR rfl, (hB.out.setCell (p := ⟨w.heap.size, 0, none⟩) (Nat.le_refl _) _).setCell (p := ⟨w.heap.size, 1, none⟩) (Nat.le_refl _) _⟩
      have m5 : ((s.extract 0 5).toList == feedB.toList) = true := by rw [beq_list, feedP_cut h5]; exact hp
      have m5' : ((s.extract 0 5).toList == [102, 101, 101, 100, 32]) = true := by rw [← feedB_list]; exact m5
      obtain ⟨t, ht⟩ : ∃ t, Hid (uqS (s.data.toList.drop 5) = t) := ⟨_, Lib.hid rfl⟩
      obtain ⟨e0, he⟩ : ∃ e0, Hid (uqE (s.data.toList.drop 5) = e0) := ⟨_, Lib.hid rfl⟩
      have hl := Lib.hid (ext_list s 5)
      have hsl : (s.extract 5 s.size).size ≤ 1099511627776 := by rw [ByteArray.size_extract]; omega
      have hF := Lib.hid (lineR_feed hP.out)
      clear hno hP m5
      by_cases hne : e0 = 0
      case neg =>
        have m1 : (e0 != 0) = true := by simp [hne]
        have hR := Lib.hid (show lineR s = ((0, emp), 6) by rw [hF.out]; unfold feedR; rw [if_pos hp, he.out, if_pos hne])
        clear hp hne hF
        go_wp2_with fail
        (with_reducible refine (runquote' _ _ hsl hl ht he).mono ?_); rintro e w3 ⟨rfl, hb3⟩
        have hB3 := bt hbw hb3
        have hx3 := Hx1.out _ hB3
        have c0 : w3.cell? ⟨w.heap.size, 0, none⟩ = some (.int .i64 0) := by rw [Lib.cell_of_heap hx3]; rfl
        have c1 : w3.cell? ⟨w.heap.size, 1, none⟩ = some (.string ⟨#[]⟩) := by rw [Lib.cell_of_heap hx3]; rfl
        have f0 : w3.frozen? ⟨w.heap.size, 0, none⟩ = false := Lib.frozen_of_heap hx3 0
        have f1 : w3.frozen? ⟨w.heap.size, 1, none⟩ = false := Lib.frozen_of_heap hx3 1
        have hB := Lib.hid (bt hb0 hB3)
        clear hx3 hbw Hx1 hb0 hx hB3
        go_wp2
        exact bodyPost_ret (v := .tuple #[.agg #[.int .i64 0, .string ⟨#[]⟩], .int .i64 6]) (by simp [results, Tryd.results57, go_sem, c0, c1]) rfl ⟨scV_ret (x := (0, emp)) hR rfl, (hB.out.setCell (p := ⟨w.heap.size, 0, none⟩) (Nat.le_refl _) _).setCell (p := ⟨w.heap.size, 1, none⟩) (Nat.le_refl _) _⟩
      subst hne
      by_cases hlong : 1100 < t.size
      · have hR := Lib.hid (show lineR s = ((0, emp), 3) by rw [hF.out]; unfold feedR; rw [if_pos hp, he.out, if_neg (by decide), ht.out, if_pos hlong])
        clear hp hF
        go_wp2_with fail
        (with_reducible refine (runquote' _ _ hsl hl ht he).mono ?_); rintro e w3 ⟨rfl, hb3⟩
        have hB3 := bt hbw hb3
        have hx3 := Hx1.out _ hB3
        have c0 : w3.cell? ⟨w.heap.size, 0, none⟩ = some (.int .i64 0) := by rw [Lib.cell_of_heap hx3]; rfl
        have c1 : w3.cell? ⟨w.heap.size, 1, none⟩ = some (.string ⟨#[]⟩) := by rw [Lib.cell_of_heap hx3]; rfl
        have f0 : w3.frozen? ⟨w.heap.size, 0, none⟩ = false := Lib.frozen_of_heap hx3 0
        have f1 : w3.frozen? ⟨w.heap.size, 1, none⟩ = false := Lib.frozen_of_heap hx3 1
        have hB := Lib.hid (bt hb0 hB3)
        clear hx3 hbw Hx1 hb0 hx hB3
        go_wp2
        exact bodyPost_ret (v := .tuple #[.agg #[.int .i64 0, .string ⟨#[]⟩], .int .i64 3]) (by simp [results, Tryd.results57, go_sem, c0, c1]) rfl ⟨scV_ret (x := (0, emp)) hR rfl, (hB.out.setCell (p := ⟨w.heap.size, 0, none⟩) (Nat.le_refl _) _).setCell (p := ⟨w.heap.size, 1, none⟩) (Nat.le_refl _) _⟩
      · have hR := Lib.hid (show lineR s = ((1, t), 0) by rw [hF.out]; unfold feedR; rw [if_pos hp, he.out, if_neg (by decide), ht.out, if_neg hlong])
        clear hp hF
        go_wp2_with fail
        (with_reducible refine (runquote' _ _ hsl hl ht he).mono ?_); rintro e w3 ⟨rfl, hb3⟩
        have hB3 := bt hbw hb3
        have hx3 := Hx1.out _ hB3
        have c0 : w3.cell? ⟨w.heap.size, 0, none⟩ = some (.int .i64 0) := by rw [Lib.cell_of_heap hx3]; rfl
        have c1 : w3.cell? ⟨w.heap.size, 1, none⟩ = some (.string ⟨#[]⟩) := by rw [Lib.cell_of_heap hx3]; rfl
        have f0 : w3.frozen? ⟨w.heap.size, 0, none⟩ = false := Lib.frozen_of_heap hx3 0
        have f1 : w3.frozen? ⟨w.heap.size, 1, none⟩ = false := Lib.frozen_of_heap hx3 1
        have hB := Lib.hid (bt hb0 hB3)
        clear hx3 hbw Hx1 hb0 hx hB3
        go_wp2
        exact bodyPost_ret (v := .tuple #[.agg #[.int .i64 1, .string t], .int .i64 0]) (by simp [results, Tryd.results57, go_sem, c0, c1]) rfl ⟨scV_ret (x := (1, t)) hR rfl, (hB.out.setCell (p := ⟨w.heap.size, 0, none⟩) (Nat.le_refl _) _).setCell (p := ⟨w.heap.size, 1, none⟩) (Nat.le_refl _) _⟩
    · have hk4 : (k : Int) ≤ 4 := by omega
      have hk5 : (1 : Int) ≤ (k : Int) := by omega
      by_cases he : s = wordS k
      · have hR := Lib.hid (lineR_plain (plainR_word hk1 hk4 hno he))
        have m1 : (s.toList == (wordS k).toList) = true := by rw [← he]; simp
        clear he hno
        go_wp2_with fail
        (with_reducible refine (rword (k : Int) hk5 hk4 _).mono ?_); rintro e w3 ⟨rfl, hb3⟩
        have hB3 := bt hbw hb3
        have hx3 := Hx1.out _ hB3
        have c0 : w3.cell? ⟨w.heap.size, 0, none⟩ = some (.int .i64 0) := by rw [Lib.cell_of_heap hx3]; rfl
        have c1 : w3.cell? ⟨w.heap.size, 1, none⟩ = some (.string ⟨#[]⟩) := by rw [Lib.cell_of_heap hx3]; rfl
        have f0 : w3.frozen? ⟨w.heap.size, 0, none⟩ = false := Lib.frozen_of_heap hx3 0
        have f1 : w3.frozen? ⟨w.heap.size, 1, none⟩ = false := Lib.frozen_of_heap hx3 1
        have hB := Lib.hid (bt hb0 hB3)
        clear hx3 hbw Hx1 hb0 hx hB3
        go_wp2
        exact bodyPost_ret (v := .tuple #[.agg #[.int .i64 (k : Int), .string ⟨#[]⟩], .int .i64 0]) (by simp [results, Tryd.results57, go_sem, c0, c1]) rfl ⟨scV_ret (x := ((k : Int), emp)) hR rfl, (hB.out.setCell (p := ⟨w.heap.size, 0, none⟩) (Nat.le_refl _) _).setCell (p := ⟨w.heap.size, 1, none⟩) (Nat.le_refl _) _⟩
      · have m1 : (s.toList == (wordS k).toList) = false := by rw [beq_list, decide_eq_false he]
        have hno2 : Hid (∀ j : Int, 2 ≤ j → j < ((k + 1 : Nat) : Int) → s ≠ wordS j) := Lib.hid fun j h1 h2 => by
          rcases (show j < (k : Int) ∨ j = (k : Int) by omega) with h | rfl
          · exact hno.out j h1 h
          · exact he
        clear he
        go_wp2_with fail
        (with_reducible refine (rword (k : Int) hk5 hk4 _).mono ?_); rintro e w3 ⟨rfl, hb3⟩
        have hB3 := bt hbw hb3
        go_wp2
        go_roundw
        case rel => exact ⟨k + 1, by omega, by omega, by go_num, hB3, hno2⟩
        case measure => simp [intOf]; omega
end Go.Proofs.YtoogemdcmnjpnaaDoor
