/- The lines of a script's text: plain, feed, one. -/
import Derived.Test.YtoogemdcmnjpnaaDoorS18
namespace Go.Proofs.YtoogemdcmnjpnaaDoor
open Go.RowKit
def emp : ByteArray := ⟨#[]⟩
def plainR (s : ByteArray) : Int × Int := if s = wordS 2 then (2, 0) else if s = wordS 3 then (3, 0) else if s = wordS 4 then (4, 0) else (0, 6)
def feedP (l : List UInt8) : Bool := Lib.hasPrefix l [102, 101, 101, 100, 32]
def feedR (s : ByteArray) : Sc × Int := if feedP s.data.toList = true then (if uqE (s.data.toList.drop 5) ≠ 0 then ((0, emp), 6) else if 1100 < (uqS (s.data.toList.drop 5)).size then ((0, emp), 3) else ((1, uqS (s.data.toList.drop 5)), 0)) else ((0, emp), 6)
def lineR (s : ByteArray) : Sc × Int := if (plainR s).2 = 0 then (((plainR s).1, emp), 0) else feedR s
def scV (x : Sc) (e : Int) : Ending := .returned (.tuple #[.agg #[.int .i64 x.1, .string x.2], .int .i64 e])
theorem scV_of {x y : Sc} {e f : Int} (h : (x, e) = (y, f)) : scV x e = scV y f := by injection h with h1 h2; rw [h1, h2]
set_option maxRecDepth 100000 in
set_option maxHeartbeats 800000 in
theorem plainF (s : ByteArray) (w : World) :
    Calls Tryd.prog 53 #[.string s] w fun e w' => e = scV ((plainR s).1, emp) (plainR s).2 ∧ Below w.heap.size w w' := by
  have hx := Lib.hid (alloc1_new w (.cells #[.int .i64 0, .string ⟨#[]⟩] 47))
  go_enter Tryd.func53, Tryd.ntmps53
  go_wp2
  go_loop [4] (fun i => ∃ k : Nat, 2 ≤ k ∧ k ≤ 5 ∧ i = .int .i64 k ∧ Hid (∀ j : Int, 2 ≤ j → j < (k : Int) → s ≠ wordS j)) (fun i => 5 - (intOf i).toNat)
  case atStart => exact ⟨2, by omega, by omega, rfl, Lib.hid fun j h1 h2 => by omega⟩
  case round =>
    obtain ⟨k, hk1, hk2, rfl, hno⟩ := hrel
    by_cases hk : k = 5
    · subst hk
      have hR := Lib.hid (show plainR s = (0, 6) by
        unfold plainR
        rw [if_neg (hno.out 2 (by omega) (by omega)), if_neg (hno.out 3 (by omega) (by omega)), if_neg (hno.out 4 (by omega) (by omega))])
      go_wp2
      exact bodyPost_ret (v := .tuple #[.agg #[.int .i64 0, .string ⟨#[]⟩], .int .i64 6]) (by simp [results, Tryd.results53, go_sem]) rfl ⟨by rw [hR.out]; rfl, ba (Below.refl _ _) _⟩
    · have hk4 : (k : Int) ≤ 4 := by omega
      have hk5 : (2 : Int) ≤ (k : Int) := by omega
      by_cases he : s = wordS k
      · have m1 : (s.toList == (wordS k).toList) = true := by rw [← he]; simp
        have hR := Lib.hid (show plainR s = ((k : Int), 0) by
          unfold plainR
          have h2 : (k : Int) = 2 ∨ s ≠ wordS 2 := by
            rcases (show (k : Int) = 2 ∨ 2 < (k : Int) by omega) with h | h
            · exact .inl h
            · exact .inr (hno.out 2 (by omega) h)
          have h3 : (k : Int) = 2 ∨ (k : Int) = 3 ∨ s ≠ wordS 3 := by
            rcases (show (k : Int) = 2 ∨ (k : Int) = 3 ∨ 3 < (k : Int) by omega) with h | h | h
            · exact .inl h
            · exact .inr (.inl h)
            · exact .inr (.inr (hno.out 3 (by omega) h))
          rcases (show (k : Int) = 2 ∨ (k : Int) = 3 ∨ (k : Int) = 4 by omega) with h | h | h
          · rw [h] at he ⊢; rw [if_pos he]
          · rw [h] at he ⊢; rw [if_neg (by rcases h2 with e | e; omega; exact e), if_pos he]
          · rw [h] at he ⊢; rw [if_neg (by rcases h2 with e | e; omega; exact e), if_neg (by rcases h3 with e | e | e; omega; omega; exact e), if_pos he])
        clear he
        go_wp2_with fail
        (with_reducible refine (word (k : Int) (by omega) (by omega) _).mono ?_); rintro e w2 ⟨rfl, rfl⟩
        go_wp2
        exact bodyPost_ret (v := .tuple #[.agg #[.int .i64 (k : Int), .string ⟨#[]⟩], .int .i64 0]) (by simp [results, Tryd.results53, go_sem]) rfl ⟨by rw [hR.out]; rfl, ba (Below.refl _ _) _⟩
      · have m1 : (s.toList == (wordS k).toList) = false := by rw [beq_list, decide_eq_false he]
        have hno2 : Hid (∀ j : Int, 2 ≤ j → j < ((k + 1 : Nat) : Int) → s ≠ wordS j) := Lib.hid fun j h1 h2 => by
          rcases (show j < (k : Int) ∨ j = (k : Int) by omega) with h | rfl
          · exact hno.out j h1 h
          · exact he
        clear he
        go_wp2_with fail
        (with_reducible refine (word (k : Int) (by omega) (by omega) _).mono ?_); rintro e w2 ⟨rfl, rfl⟩
        go_wp2
        go_round
        case rel => exact ⟨k + 1, by omega, by omega, by go_num, hno2⟩
        case measure => simp [intOf]; omega
theorem cutF (s : ByteArray) (w : World) {q : Bool} (hq : Hid (feedP s.data.toList = q)) :
    Calls Tryd.prog 69 #[.string s, .string (wordS 1 ++ ⟨#[32]⟩)] w fun e w' => e = .returned (.tuple #[.string ⟨(if q = true then s.data.toList.drop 5 else s.data.toList).toArray⟩, .bool q]) ∧ w' = w := by
  have h := Tryd.strings_CutPrefix s ⟨#[102, 101, 101, 100, 32]⟩ w
  have e : wordS 1 ++ ⟨#[32]⟩ = (⟨#[102, 101, 101, 100, 32]⟩ : ByteArray) := by decide
  have e2 : Lib.hasPrefix s.data.toList (⟨#[102, 101, 101, 100, 32]⟩ : ByteArray).data.toList = q := hq.out
  rw [e]
  unfold Lib.trimPrefix at h
  rw [e2] at h
  exact h
theorem unquoteW' (s : ByteArray) (w : World) (hE : Esc w) (hsz : s.size ≤ 1099511627776) {l : List UInt8} {t : ByteArray} {e0 : Int} (hl : Hid (s.data.toList = l)) (ht : Hid (uqS l = t)) (he : Hid (uqE l = e0)) :
    Calls Tryd.prog 70 #[.string s] w fun e w' => e = .returned (.tuple #[.string t, .int .i64 e0]) ∧ Below w.heap.size w w' := by
  have := unquoteW s w hE hsz
  rw [hl.out, ht.out, he.out] at this
  exact this
theorem runquote' (s : ByteArray) (w : World) (hsz : s.size ≤ 1099511627776) {l : List UInt8} {t : ByteArray} {e0 : Int} (hl : Hid (s.data.toList = l)) (ht : Hid (uqS l = t)) (he : Hid (uqE l = e0)) :
    Calls Tryd.prog 71 #[.string s] w fun e w' => e = .returned (.tuple #[.string t, .int .i64 e0]) ∧ Below w.heap.size w w' := by
  have := runquote s w hsz
  rw [hl.out, ht.out, he.out] at this
  exact this
theorem scV_ret {x : Sc} {e : Int} {s : ByteArray} {y : Sc × Int} (h : Hid (y = (x, e))) (hs : x.2 = s) : Ending.returned (.tuple #[.agg #[.int .i64 x.1, .string s], .int .i64 e]) = scV y.1 y.2 := by rw [h.out, ← hs]; rfl
set_option maxRecDepth 100000 in
set_option maxHeartbeats 800000 in
theorem feedF (s : ByteArray) (w : World) (hE : Esc w) (hsz : s.size ≤ 1099511627776) :
    Calls Tryd.prog 55 #[.string s] w fun e w' => e = scV (feedR s).1 (feedR s).2 ∧ Below w.heap.size w w' := by
  have hadd : ¬ (9223372036854775807 < (wordS 1).size + 1) := by decide
  have hb0 : Below w.heap.size w (w.alloc (.cells #[.int .i64 0, .string ⟨#[]⟩] 47)) := ba (Below.refl _ _) _
  have hE0 := Lib.hid (hE.below hb0)
  have hx := Lib.hid (alloc1_new w (.cells #[.int .i64 0, .string ⟨#[]⟩] 47))
  by_cases hp : feedP s.data.toList = true
  case neg =>
    have hq : Hid (feedP s.data.toList = false) := Lib.hid (by simpa using hp)
    have hR := Lib.hid (show feedR s = ((0, emp), 6) by unfold feedR; rw [if_neg hp])
    clear hp
    go_enter Tryd.func55, Tryd.ntmps55
    go_wp2_with fail
    (with_reducible refine (word 1 (by omega) (by omega) _).mono ?_); rintro e w2 ⟨rfl, rfl⟩
    go_wp2_with fail
    (with_reducible refine (cutF s _ hq).mono ?_); rintro e w2 ⟨rfl, rfl⟩
    go_wp2
    exact bodyPost_ret (v := .tuple #[.agg #[.int .i64 0, .string ⟨#[]⟩], .int .i64 6]) (by simp [results, Tryd.results55, go_sem]) rfl ⟨scV_ret (x := (0, emp)) hR rfl, ba (Below.refl _ _) _⟩
  have hq := Lib.hid hp
  have hsl : (⟨(s.data.toList.drop 5).toArray⟩ : ByteArray).size ≤ 1099511627776 := by
    show (s.data.toList.drop 5).length ≤ _
    simp
    omega
  obtain ⟨t, ht⟩ : ∃ t, Hid (uqS (s.data.toList.drop 5) = t) := ⟨_, Lib.hid rfl⟩
  obtain ⟨e0, he⟩ : ∃ e0, Hid (uqE (s.data.toList.drop 5) = e0) := ⟨_, Lib.hid rfl⟩
  have hx1 : ∀ w', Below (w.alloc (.cells #[.int .i64 0, .string ⟨#[]⟩] 47)).heap.size (w.alloc (.cells #[.int .i64 0, .string ⟨#[]⟩] 47)) w' → w'.heap[w.heap.size]? = some (.cells #[.int .i64 0, .string ⟨#[]⟩] 47) := fun w' hb => below_blk hb (by simp) hx.out
  have Hx1 := Lib.hid hx1
  clear hx1
  by_cases hne : e0 = 0
  case neg =>
    have m1 : (e0 != 0) = true := by simp [hne]
    have hR := Lib.hid (show feedR s = ((0, emp), 6) by unfold feedR; rw [if_pos hp, he.out, if_pos hne])
    clear hp hne
    go_enter Tryd.func55, Tryd.ntmps55
    go_wp2_with fail
    (with_reducible refine (word 1 (by omega) (by omega) _).mono ?_); rintro e w2 ⟨rfl, rfl⟩
    go_wp2_with fail
    (with_reducible refine (cutF s _ hq).mono ?_); rintro e w2 ⟨rfl, rfl⟩
    go_wp2_with fail
    (with_reducible refine (unquoteW' _ _ hE0.out hsl (Lib.hid rfl) ht he).mono ?_); rintro e w3 ⟨rfl, hb3⟩
    have hx3 := Hx1.out w3 hb3
    have c0 : w3.cell? ⟨w.heap.size, 0, none⟩ = some (.int .i64 0) := by rw [Lib.cell_of_heap hx3]; rfl
    have c1 : w3.cell? ⟨w.heap.size, 1, none⟩ = some (.string ⟨#[]⟩) := by rw [Lib.cell_of_heap hx3]; rfl
    have f0 : w3.frozen? ⟨w.heap.size, 0, none⟩ = false := Lib.frozen_of_heap hx3 0
    have f1 : w3.frozen? ⟨w.heap.size, 1, none⟩ = false := Lib.frozen_of_heap hx3 1
    have hB3 := bt hb0 hb3
    clear hx3
    go_wp2
    refine bodyPost_ret (v := .tuple #[.agg #[.int .i64 0, .string ⟨#[]⟩], .int .i64 6]) (by simp [results, Tryd.results55, go_sem, c0, c1]) rfl ⟨scV_ret (x := (0, emp)) hR rfl, (hB3.setCell (p := ⟨w.heap.size, 0, none⟩) (Nat.le_refl _) _).setCell (p := ⟨w.heap.size, 1, none⟩) (Nat.le_refl _) _⟩
  subst hne
  have ht1 := Lib.hid hp
  by_cases hlong : 1100 < t.size
  · have hR := Lib.hid (show feedR s = ((0, emp), 3) by unfold feedR; rw [if_pos hp, he.out, if_neg (by decide), ht.out, if_pos hlong])
    clear hp
    go_enter Tryd.func55, Tryd.ntmps55
    go_wp2_with fail
    (with_reducible refine (word 1 (by omega) (by omega) _).mono ?_); rintro e w2 ⟨rfl, rfl⟩
    go_wp2_with fail
    (with_reducible refine (cutF s _ hq).mono ?_); rintro e w2 ⟨rfl, rfl⟩
    go_wp2_with fail
    (with_reducible refine (unquoteW' _ _ hE0.out hsl (Lib.hid rfl) ht he).mono ?_); rintro e w3 ⟨rfl, hb3⟩
    have hx3 := Hx1.out w3 hb3
    have c0 : w3.cell? ⟨w.heap.size, 0, none⟩ = some (.int .i64 0) := by rw [Lib.cell_of_heap hx3]; rfl
    have c1 : w3.cell? ⟨w.heap.size, 1, none⟩ = some (.string ⟨#[]⟩) := by rw [Lib.cell_of_heap hx3]; rfl
    have f0 : w3.frozen? ⟨w.heap.size, 0, none⟩ = false := Lib.frozen_of_heap hx3 0
    have f1 : w3.frozen? ⟨w.heap.size, 1, none⟩ = false := Lib.frozen_of_heap hx3 1
    have hB3 := bt hb0 hb3
    clear hx3
    go_wp2
    refine bodyPost_ret (v := .tuple #[.agg #[.int .i64 0, .string ⟨#[]⟩], .int .i64 3]) (by simp [results, Tryd.results55, go_sem, c0, c1]) rfl ⟨scV_ret (x := (0, emp)) hR rfl, (hB3.setCell (p := ⟨w.heap.size, 0, none⟩) (Nat.le_refl _) _).setCell (p := ⟨w.heap.size, 1, none⟩) (Nat.le_refl _) _⟩
  · have hR := Lib.hid (show feedR s = ((1, t), 0) by unfold feedR; rw [if_pos hp, he.out, if_neg (by decide), ht.out, if_neg hlong])
    clear hp
    go_enter Tryd.func55, Tryd.ntmps55
    go_wp2_with fail
    (with_reducible refine (word 1 (by omega) (by omega) _).mono ?_); rintro e w2 ⟨rfl, rfl⟩
    go_wp2_with fail
    (with_reducible refine (cutF s _ hq).mono ?_); rintro e w2 ⟨rfl, rfl⟩
    go_wp2_with fail
    (with_reducible refine (unquoteW' _ _ hE0.out hsl (Lib.hid rfl) ht he).mono ?_); rintro e w3 ⟨rfl, hb3⟩
    have hx3 := Hx1.out w3 hb3
    have c0 : w3.cell? ⟨w.heap.size, 0, none⟩ = some (.int .i64 0) := by rw [Lib.cell_of_heap hx3]; rfl
    have c1 : w3.cell? ⟨w.heap.size, 1, none⟩ = some (.string ⟨#[]⟩) := by rw [Lib.cell_of_heap hx3]; rfl
    have f0 : w3.frozen? ⟨w.heap.size, 0, none⟩ = false := Lib.frozen_of_heap hx3 0
    have f1 : w3.frozen? ⟨w.heap.size, 1, none⟩ = false := Lib.frozen_of_heap hx3 1
    have hB3 := bt hb0 hb3
    have Hx3 := Lib.hid hx3
    clear hx3 c0 c1 f0 f1
    go_wp2_with fail
    (with_reducible refine (sfeed t _).mono ?_); rintro e w4 ⟨rfl, hb4⟩
    have hx4 := below_blk hb4 (heap_lt Hx3.out) Hx3.out
    have c0 : w4.cell? ⟨w.heap.size, 0, none⟩ = some (.int .i64 0) := by rw [Lib.cell_of_heap hx4]; rfl
    have c1 : w4.cell? ⟨w.heap.size, 1, none⟩ = some (.string ⟨#[]⟩) := by rw [Lib.cell_of_heap hx4]; rfl
    have f0 : w4.frozen? ⟨w.heap.size, 0, none⟩ = false := Lib.frozen_of_heap hx4 0
    have f1 : w4.frozen? ⟨w.heap.size, 1, none⟩ = false := Lib.frozen_of_heap hx4 1
    have hB4 := bt hB3 hb4
    clear hx4
    go_wp2
    refine bodyPost_ret (v := .tuple #[.agg #[.int .i64 1, .string t], .int .i64 0]) (by simp [results, Tryd.results55, go_sem, c0, c1]) rfl ⟨scV_ret (x := (1, t)) hR rfl, (hB4.setCell (p := ⟨w.heap.size, 0, none⟩) (Nat.le_refl _) _).setCell (p := ⟨w.heap.size, 1, none⟩) (Nat.le_refl _) _⟩
end Go.Proofs.YtoogemdcmnjpnaaDoor
