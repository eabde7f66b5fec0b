/- Lexer: take of the program, first part: the words, the point, the sets. No condition. -/
import Derived.Test.YtcopnpllaoahaaaGreatDoorJ1
import Derived.Deep.DeepCutAuto
namespace Go.Proofs.YtcopnpllaoahaaaGreatDoor
open Go.RowKit
/-- what take answers -/
def RetTk (w : World) (a : Nat) (r : (Bd × Nat) ⊕ Nat) (e : Ending) (w' : World) : Prop :=
  (match r with
    | .inl (b, n) => e = .returned (.tuple #[tkV (b.1 : Int) (a : Int) ((a + n : Nat) : Int) (b.2.1 : Int) ⟨b.2.2.1.toArray⟩ b.2.2.2, .int .i64 0, .bool true])
    | .inr k => ∃ (K F T N : Int) (S : ByteArray) (f : Nat → Bool), e = .returned (.tuple #[tkV K F T N S f, .int .i64 ((a + k : Nat) : Int), .bool false])) ∧ Below w.heap.size w w'
theorem RetTk.yes {w w' : World} {a n : Nat} {b : Bd} {r : (Bd × Nat) ⊕ Nat} {K F T N : Int} {S : ByteArray} {f : Nat → Bool} (h : r = .inl (b, n)) (hK : K = (b.1 : Int)) (hF : F = (a : Int)) (hT : T = ((a + n : Nat) : Int)) (hN : N = (b.2.1 : Int)) (hS : S = ⟨b.2.2.1.toArray⟩) (hf : stV f = stV b.2.2.2) (hb : Below w.heap.size w w') :
    RetTk w a r (.returned (.tuple #[tkV K F T N S f, .int .i64 0, .bool true])) w' := by
  subst h hK hF hT hN hS
  refine ⟨?_, hb⟩
  show _ = _
  injection hf with hf
  simp only [Array.mk.injEq, List.cons.injEq, and_true] at hf
  obtain ⟨h0, h1, h2, h3⟩ := hf
  unfold tkV
  rw [h0, h1, h2, h3]
theorem RetTk.no {w w' : World} {a k : Nat} {r : (Bd × Nat) ⊕ Nat} {K F T N x : Int} {S : ByteArray} {f : Nat → Bool} (h : r = .inr k) (hx : x = ((a + k : Nat) : Int)) (hb : Below w.heap.size w w') :
    RetTk w a r (.returned (.tuple #[tkV K F T N S f, .int .i64 x, .bool false])) w' := by
  subst h hx
  exact ⟨⟨K, F, T, N, S, f, rfl⟩, hb⟩
abbrev inO (n : Int) : Obj := .cells #[.int .i64 n] 3 (0, 0)
abbrev srO (s : ByteArray) : Obj := .cells #[.string s] 9 (0, 0)
theorem ext_drop (s : ByteArray) (a : Nat) : (s.extract a s.size).data.toList = s.data.toList.drop a := by
  rw [ByteArray.data_extract, Array.toList_extract]
  simp only [List.extract]
  rw [List.take_of_length_le (by simp)]
theorem first_byte {x : ByteArray} {c : UInt8} {t : List UInt8} (h : x.data.toList = c :: t) (h0 : 0 < x.size) : x[0] = c := by
  have := dropB x 0 h0
  rw [List.drop_zero, h] at this
  injection this with h1 _
  exact h1.symm
/-- the set of a token is written -/
theorem tk_setF {w W : World} {K F T N : Int} {S : ByteArray} {f : Nat → Bool} {a b : Nat × Obj} (hF : Fr w [a, (w.heap.size + 1, tkO K F T N S f), b] W) (h : Nat → Bool) (ha : a.1 ≠ w.heap.size + 1 := by simp) (hb : b.1 ≠ w.heap.size + 1 := by simp) :
    Fr w [a, (w.heap.size + 1, tkO K F T N S h), b] ((((W.setCell ⟨w.heap.size + 1, 5, none⟩ (.int .u64 ((wK h 0 : Nat) : Int))).setCell ⟨w.heap.size + 1, 6, none⟩ (.int .u64 ((wK h 1 : Nat) : Int))).setCell ⟨w.heap.size + 1, 7, none⟩ (.int .u64 ((wK h 2 : Nat) : Int))).setCell ⟨w.heap.size + 1, 8, none⟩ (.int .u64 ((wK h 3 : Nat) : Int))) := by
  have h0 := hF.sub (M := [(w.heap.size + 1, tkO K F T N S f), a, b]) (by simp)
  have hL : ∀ p ∈ [a, b], p.1 ≠ w.heap.size + 1 := by
    intro p hp
    simp only [List.mem_cons, List.not_mem_nil, or_false] at hp
    rcases hp with rfl | rfl
    · exact ha
    · exact hb
  have h1 := (((h0.set (by omega) hL 5 (.int .u64 ((wK h 0 : Nat) : Int))).set (by omega) hL 6 (.int .u64 ((wK h 1 : Nat) : Int))).set (by omega) hL 7 (.int .u64 ((wK h 2 : Nat) : Int))).set (by omega) hL 8 (.int .u64 ((wK h 3 : Nat) : Int))
  exact (by simpa using h1 : Fr w [(w.heap.size + 1, tkO K F T N S h), a, b] _).sub (by simp)
/-- the string of a token is written -/
theorem tk_setS {w W : World} {K F T N : Int} {S : ByteArray} {f : Nat → Bool} {a b : Nat × Obj} (hF : Fr w [a, (w.heap.size + 1, tkO K F T N S f), b] W) (S' : ByteArray) (ha : a.1 ≠ w.heap.size + 1 := by simp) (hb : b.1 ≠ w.heap.size + 1 := by simp) :
    Fr w [a, (w.heap.size + 1, tkO K F T N S' f), b] (W.setCell ⟨w.heap.size + 1, 4, none⟩ (.string S')) := by
  have h0 := hF.sub (M := [(w.heap.size + 1, tkO K F T N S f), a, b]) (by simp)
  have hL : ∀ p ∈ [a, b], p.1 ≠ w.heap.size + 1 := by
    intro p hp
    simp only [List.mem_cons, List.not_mem_nil, or_false] at hp
    rcases hp with rfl | rfl
    · exact ha
    · exact hb
  have h1 := h0.set (by omega) hL 4 (.string S')
  exact (by simpa using h1 : Fr w [(w.heap.size + 1, tkO K F T N S' f), a, b] _).sub (by simp)
theorem tk_setN {w W : World} {K F T N : Int} {S : ByteArray} {f : Nat → Bool} {a b : Nat × Obj} (hF : Fr w [a, (w.heap.size + 1, tkO K F T N S f), b] W) (N' : Int) (ha : a.1 ≠ w.heap.size + 1 := by simp) (hb : b.1 ≠ w.heap.size + 1 := by simp) :
    Fr w [a, (w.heap.size + 1, tkO K F T N' S f), b] (W.setCell ⟨w.heap.size + 1, 3, none⟩ (.int .i64 N')) := by
  have h0 := hF.sub (M := [(w.heap.size + 1, tkO K F T N S f), a, b]) (by simp)
  have hL : ∀ p ∈ [a, b], p.1 ≠ w.heap.size + 1 := by
    intro p hp
    simp only [List.mem_cons, List.not_mem_nil, or_false] at hp
    rcases hp with rfl | rfl
    · exact ha
    · exact hb
  have h1 := h0.set (by omega) hL 3 (.int .i64 N')
  exact (by simpa using h1 : Fr w [(w.heap.size + 1, tkO K F T N' S f), a, b] _).sub (by simp)
theorem qd_cases (t : List UInt8) : (∃ k, clK t = some k ∧ uqE (34 :: t.take k) = 0 ∧ qdK t = ((k : Int) + 1, uqS (34 :: t.take k)) ∧ k ≤ t.length) ∨ (qdK t = (-1, ⟨#[]⟩) ∧ (clK t = none ∨ ∃ k, clK t = some k ∧ uqE (34 :: t.take k) ≠ 0)) := by
  rcases hk : clK t with _ | k
  · exact .inr ⟨qdK_none hk, .inl rfl⟩
  · by_cases he : uqE (34 :: t.take k) = 0
    · exact .inl ⟨k, rfl, he, qdK_ok hk he, (clK_loc _ _ _ (Nat.le_refl _) hk).2.1⟩
    · exact .inr ⟨qdK_bad hk he, .inr ⟨k, rfl, he⟩⟩
/-- where the reading of a number stands -/
def NmR (L : List UInt8) (k v : Nat) : Prop := nmK L 0 0 = nmK (L.drop k) k v ∧ v < 10 ^ k
theorem NmR.start (L : List UInt8) : NmR L 0 0 := ⟨by simp, by simp⟩
theorem NmR.step {L t : List UInt8} {k v : Nat} {c : UInt8} (h : NmR L k v) (hd : L.drop k = c :: t) (hc : dgK c = true) (hk : k ≠ 9) : NmR L (k + 1) (10 * v + (c.toNat - 48)) := by
  obtain ⟨h1, h2⟩ := h
  refine ⟨?_, ?_⟩
  · rw [h1, hd, nmK, if_pos hc, if_neg hk, ← List.drop_drop, hd]; rfl
  · have : c.toNat ≤ 57 := by unfold dgK at hc; exact (of_decide_eq_true hc).2
    rw [Nat.pow_succ]; omega
theorem NmR.many {L t : List UInt8} {v : Nat} {c : UInt8} (h : NmR L 9 v) (hd : L.drop 9 = c :: t) (hc : dgK c = true) : nmK L 0 0 = .inr 9 := by
  rw [h.1, hd, nmK, if_pos hc, if_pos rfl]
theorem NmR.stop {x : ByteArray} {k v : Nat} (h : NmR x.data.toList k v) (hd : dgAt x k = false) : nmK x.data.toList 0 0 = .inl (v, k) := by
  rw [h.1]
  unfold dgAt at hd
  rcases hq : x.data.toList.drop k with _ | ⟨c, t⟩
  · rfl
  · rw [hq] at hd
    simp only at hd
    rw [nmK, if_neg (by rw [hd]; simp)]
set_option maxRecDepth 100000 in
set_option maxHeartbeats 8000000 in
theorem take_ (s : ByteArray) (a : Nat) (ha : a < s.size) (hs : s.size ≤ 100000) (r : (Bd × Nat) ⊕ Nat) (hr : Hid (tkK uqK (s.data.toList.drop a) = r)) (w : World) (hE : Esc w) (hM : ML w) :
    Calls Tryz.prog 48 #[.string s, .int .i64 (a : Int)] w (RetTk w a r) := by
  obtain ⟨x, hx⟩ : ∃ x, x = s.extract a s.size := ⟨_, rfl⟩
  have hxl : x.data.toList = s.data.toList.drop a := by rw [hx, ext_drop]
  have hxs : x.size = s.size - a := by rw [hx, ByteArray.size_extract]; omega
  have hr1 := hr.out
  rw [← hxl] at hr1
  have HR := Lib.hid hr1
  have HF0 := Lib.hid (((Fr.start w).newN (g := w.heap.size) rfl (inO (a : Int))).newN (g := w.heap.size + 1) (by simp) tk0O)
  have HX := Lib.hid hx
  have HE := Lib.hid hE
  have HM := Lib.hid hM
  clear hr hr1 hE hM hxl hx
  go_enter Tryz.func48, Tryz.ntmps48
  go_upto_region 1 with fail
  have hs1 : ((w.alloc (inO (a : Int))).alloc tk0O).heap.size = w.heap.size + 2 := by simp
  generalize (w.alloc (inO (a : Int))).alloc tk0O = W1 at *
  have hF1 := HF0.out
  obtain ⟨a0, _, l0⟩ := bx1 (hF1.at (g := w.heap.size) (o := inO (a : Int)) (by simp))
  obtain ⟨⟨c0, c1, c2, c3, c4, c5, c6, c7, c8⟩, ⟨f0, f1, f2, f3, f4, f5, f6, f7, f8⟩, l1⟩ := bx9 (hF1.at (g := w.heap.size + 1) (o := tk0O) (by simp))
  have hF2 : Fr w [(w.heap.size + 2, srO x), (w.heap.size + 1, tkO 0 (a : Int) 0 0 ⟨#[]⟩ fun _ => false), (w.heap.size, inO (a : Int))] ((W1.setCell ⟨w.heap.size + 1, 1, none⟩ (.int .i64 (a : Int))).alloc (srO x)) := by
    have h2 := hF1.set (by omega) (by simp) 1 (.int .i64 (a : Int))
    have e : tkO 0 (a : Int) 0 0 ⟨#[]⟩ (fun _ => false) = .cells ((#[.int .i64 0, .int .i64 0, .int .i64 0, .int .i64 0, .string ⟨#[]⟩, .int .u64 0, .int .u64 0, .int .u64 0, .int .u64 0] : Array Value).setIfInBounds 1 (.int .i64 (a : Int))) 58 (0, 0) := by
      unfold tkO; rw [wK_no, wK_no, wK_no, wK_no]; rfl
    rw [← e] at h2
    exact h2.newN (by simpa [World.setCell] using hs1) (srO x)
  have hs2 : ((W1.setCell ⟨w.heap.size + 1, 1, none⟩ (.int .i64 (a : Int))).alloc (srO x)).heap.size = w.heap.size + 3 := by
    simp [World.setCell, hs1]
  have HF2 := Lib.hid hF2
  clear hF2 hF1 HF0
  go_upto_region 3 with fail
  rw [← HX.out]
  generalize (W1.setCell ⟨w.heap.size + 1, 1, none⟩ (.int .i64 (a : Int))).alloc (srO x) = W2 at *
  clear a0 l0 c0 c1 c2 c3 c4 c5 c6 c7 c8 f0 f1 f2 f3 f4 f5 f6 f7 f8 l1 hs1
  obtain ⟨a0, _, l0⟩ := bx1 (HF2.out.at (g := w.heap.size) (o := inO (a : Int)) (by simp))
  obtain ⟨s0, _, l2⟩ := bx1 (HF2.out.at (g := w.heap.size + 2) (o := srO x) (by simp))
  obtain ⟨⟨c0, c1, c2, c3, c4, c5, c6, c7, c8⟩, ⟨f0, f1, f2, f3, f4, f5, f6, f7, f8⟩, l1⟩ := bx9 (HF2.out.at (g := w.heap.size + 1) (o := tkO 0 (a : Int) 0 0 ⟨#[]⟩ fun _ => false) (by simp))
  have hx0 : 0 < x.size := by omega
  have hxle : x.size ≤ 100000 := by omega
  clear hxs
  have hxi : (0 : Int) < (x.size : Int) := by omega
  go_upto_region 6 with fail
  obtain ⟨c, t, hct⟩ : ∃ c t, x.data.toList = c :: t := ⟨_, _, by rw [← List.drop_zero (l := x.data.toList), dropB x 0 hx0]⟩
  have hx0c := first_byte hct hx0
  rw [hct] at HR
  have HC := Lib.hid hct
  have Hx0 := Lib.hid hx0c
  by_cases h114 : c = 114
  · subst h114
    have e1 : ((x[0].toNat : Int) == 114) = true := by rw [hx0c]; rfl
    have e2 : ((x[0].toNat : Int) == 103) = false := by rw [hx0c]; rfl
    have e3 : ((x[0].toNat : Int) == 46) = false := by rw [hx0c]; rfl
    have e4 : ((x[0].toNat : Int) == 91) = false := by rw [hx0c]; rfl
    have e5 : ((x[0].toNat : Int) == 105) = false := by rw [hx0c]; rfl
    have e6 : ((x[0].toNat : Int) == 34) = false := by rw [hx0c]; rfl
    have hcu := Lib.hid (cutS x W2 (HM.out.below HF2.out.bel) (by omega) ⟨(wdK (114 :: t)).toArray⟩ (Lib.hid (by rw [hct])))
    clear hct hx0c
    by_cases hw1 : wdK (114 :: t) = ruleW
    · have q1 : ((⟨(wdK (114 :: t)).toArray⟩ : ByteArray).toList == [114, 117, 108, 101]) = true := by rw [ByteArray.toList_eq, hw1]; rfl
      have HN := Lib.hid (show r = .inl ((1, 0, [], noK), 4) by rw [← HR.out]; unfold tkK; rw [if_pos hw1])
      generalize (⟨(wdK (114 :: t)).toArray⟩ : ByteArray) = u at *
      clear hw1
      go_wp2_with fail
      (with_reducible refine (hcu.out).mono ?_); rintro e w3 ⟨⟨ca, cb, rfl⟩, hb3⟩
      have HF3 := Lib.hid (HF2.out.go hb3)
      clear hb3 hcu HF2
      clear a0 l0 s0 l2 c0 c1 c2 c3 c4 c5 c6 c7 c8 f0 f1 f2 f3 f4 f5 f6 f7 f8 l1
      obtain ⟨a0, _, l0⟩ := bx1 (HF3.out.at (g := w.heap.size) (o := inO (a : Int)) (by simp))
      obtain ⟨s0, _, l2⟩ := bx1 (HF3.out.at (g := w.heap.size + 2) (o := srO x) (by simp))
      obtain ⟨⟨c0, c1, c2, c3, c4, c5, c6, c7, c8⟩, ⟨f0, f1, f2, f3, f4, f5, f6, f7, f8⟩, l1⟩ := bx9 (HF3.out.at (g := w.heap.size + 1) (o := tkO 0 (a : Int) 0 0 ⟨#[]⟩ (fun _ => false)) (by simp))
      go_wp2_with fail
      (with_reducible refine (done_ w w3 w.heap.size (w.heap.size + 1) 0 (a : Int) 0 0 ⟨#[]⟩ (fun _ => false) HF3.out.bel (by omega) (HF3.out.at (g := w.heap.size) (o := inO (a : Int)) (by simp)) (by omega) (HF3.out.at (g := w.heap.size + 1) (o := tkO 0 (a : Int) 0 0 ⟨#[]⟩ (fun _ => false)) (by simp)) 1 4 (by omega) (by omega)).mono ?_)
      rintro e w9 ⟨rfl, hb9, _, ht9⟩
      clear a0 l0 s0 l2 c0 c1 c2 c3 c4 c5 c6 c7 c8 f0 f1 f2 f3 f4 f5 f6 f7 f8 l1
      obtain ⟨⟨c0, c1, c2, c3, c4, c5, c6, c7, c8⟩, ⟨f0, f1, f2, f3, f4, f5, f6, f7, f8⟩, l1⟩ := bx9 ht9
      clear ht9
      go_wp2
      refine bodyPost_ret (v := .tuple #[tkV 1 (a : Int) ((a : Int) + 4) 0 ⟨#[]⟩ (fun _ => false), .int .i64 0, .bool true]) (by simp [results, go_sem, c0, c1, c2, c3, c4, c5, c6, c7, c8]) rfl (RetTk.yes HN.out rfl rfl (by omega) rfl rfl rfl ?_)
      repeat' (first | with_reducible exact hb9 | with_reducible refine bs ?_ ?_ | (simp only; done) | (simp only; omega))
    have q1 : ((⟨(wdK (114 :: t)).toArray⟩ : ByteArray).toList == [114, 117, 108, 101]) = false := by rw [ByteArray.toList_eq]; simpa [ruleW] using hw1
    by_cases hw2 : wdK (114 :: t) = gapW
    · have q2 : ((⟨(wdK (114 :: t)).toArray⟩ : ByteArray).toList == [103, 97, 112]) = true := by rw [ByteArray.toList_eq, hw2]; rfl
      have HN := Lib.hid (show r = .inl ((2, 0, [], noK), 3) by rw [← HR.out]; unfold tkK; rw [if_neg hw1, if_pos hw2])
      generalize (⟨(wdK (114 :: t)).toArray⟩ : ByteArray) = u at *
      clear hw1 hw2
      go_wp2_with fail
      (with_reducible refine (hcu.out).mono ?_); rintro e w3 ⟨⟨ca, cb, rfl⟩, hb3⟩
      have HF3 := Lib.hid (HF2.out.go hb3)
      clear hb3 hcu HF2
      clear a0 l0 s0 l2 c0 c1 c2 c3 c4 c5 c6 c7 c8 f0 f1 f2 f3 f4 f5 f6 f7 f8 l1
      obtain ⟨a0, _, l0⟩ := bx1 (HF3.out.at (g := w.heap.size) (o := inO (a : Int)) (by simp))
      obtain ⟨s0, _, l2⟩ := bx1 (HF3.out.at (g := w.heap.size + 2) (o := srO x) (by simp))
      obtain ⟨⟨c0, c1, c2, c3, c4, c5, c6, c7, c8⟩, ⟨f0, f1, f2, f3, f4, f5, f6, f7, f8⟩, l1⟩ := bx9 (HF3.out.at (g := w.heap.size + 1) (o := tkO 0 (a : Int) 0 0 ⟨#[]⟩ (fun _ => false)) (by simp))
      go_wp2_with fail
      (with_reducible refine (done_ w w3 w.heap.size (w.heap.size + 1) 0 (a : Int) 0 0 ⟨#[]⟩ (fun _ => false) HF3.out.bel (by omega) (HF3.out.at (g := w.heap.size) (o := inO (a : Int)) (by simp)) (by omega) (HF3.out.at (g := w.heap.size + 1) (o := tkO 0 (a : Int) 0 0 ⟨#[]⟩ (fun _ => false)) (by simp)) 2 3 (by omega) (by omega)).mono ?_)
      rintro e w9 ⟨rfl, hb9, _, ht9⟩
      clear a0 l0 s0 l2 c0 c1 c2 c3 c4 c5 c6 c7 c8 f0 f1 f2 f3 f4 f5 f6 f7 f8 l1
      obtain ⟨⟨c0, c1, c2, c3, c4, c5, c6, c7, c8⟩, ⟨f0, f1, f2, f3, f4, f5, f6, f7, f8⟩, l1⟩ := bx9 ht9
      clear ht9
      go_wp2
      refine bodyPost_ret (v := .tuple #[tkV 2 (a : Int) ((a : Int) + 3) 0 ⟨#[]⟩ (fun _ => false), .int .i64 0, .bool true]) (by simp [results, go_sem, c0, c1, c2, c3, c4, c5, c6, c7, c8]) rfl (RetTk.yes HN.out rfl rfl (by omega) rfl rfl rfl ?_)
      repeat' (first | with_reducible exact hb9 | with_reducible refine bs ?_ ?_ | (simp only; done) | (simp only; omega))
    · have q2 : ((⟨(wdK (114 :: t)).toArray⟩ : ByteArray).toList == [103, 97, 112]) = false := by rw [ByteArray.toList_eq]; simpa [gapW] using hw2
      have HN := Lib.hid (show r = .inr 0 by
        rw [← HR.out]; unfold tkK; rw [if_neg hw1, if_neg hw2, hdK, if_neg (by decide), if_neg (by decide), if_neg (by rintro ⟨e, _⟩; exact absurd e (by decide)), if_neg (by decide), if_neg (by decide)])
      generalize (⟨(wdK (114 :: t)).toArray⟩ : ByteArray) = u at *
      clear hw1 hw2
      go_wp2_with fail
      (with_reducible refine (hcu.out).mono ?_); rintro e w3 ⟨⟨ca, cb, rfl⟩, hb3⟩
      have HF3 := Lib.hid (HF2.out.go hb3)
      clear hb3 hcu HF2
      clear a0 l0 s0 l2 c0 c1 c2 c3 c4 c5 c6 c7 c8 f0 f1 f2 f3 f4 f5 f6 f7 f8 l1
      obtain ⟨a0, _, l0⟩ := bx1 (HF3.out.at (g := w.heap.size) (o := inO (a : Int)) (by simp))
      obtain ⟨s0, _, l2⟩ := bx1 (HF3.out.at (g := w.heap.size + 2) (o := srO x) (by simp))
      obtain ⟨⟨c0, c1, c2, c3, c4, c5, c6, c7, c8⟩, ⟨f0, f1, f2, f3, f4, f5, f6, f7, f8⟩, l1⟩ := bx9 (HF3.out.at (g := w.heap.size + 1) (o := tkO 0 (a : Int) 0 0 ⟨#[]⟩ (fun _ => false)) (by simp))
      have hB := HF3.out.bel
      go_wp2
      go_region
      go_wp2
      refine bodyPost_ret (v := .tuple #[tkV 0 (a : Int) 0 0 ⟨#[]⟩ (fun _ => false), .int .i64 (a : Int), .bool false]) (by simp [results, go_sem, c0, c1, c2, c3, c4, c5, c6, c7, c8]) rfl (RetTk.no HN.out (by omega) ?_)
      repeat' (first | with_reducible exact hB | with_reducible refine Below.drew ?_ | with_reducible refine bs ?_ ?_ | (simp only; done) | (simp only; omega))
  by_cases h103 : c = 103
  · subst h103
    have e1 : ((x[0].toNat : Int) == 114) = false := by rw [hx0c]; rfl
    have e2 : ((x[0].toNat : Int) == 103) = true := by rw [hx0c]; rfl
    have e3 : ((x[0].toNat : Int) == 46) = false := by rw [hx0c]; rfl
    have e4 : ((x[0].toNat : Int) == 91) = false := by rw [hx0c]; rfl
    have e5 : ((x[0].toNat : Int) == 105) = false := by rw [hx0c]; rfl
    have e6 : ((x[0].toNat : Int) == 34) = false := by rw [hx0c]; rfl
    have hcu := Lib.hid (cutS x W2 (HM.out.below HF2.out.bel) (by omega) ⟨(wdK (103 :: t)).toArray⟩ (Lib.hid (by rw [hct])))
    clear hct hx0c
    by_cases hw1 : wdK (103 :: t) = ruleW
    · have q1 : ((⟨(wdK (103 :: t)).toArray⟩ : ByteArray).toList == [114, 117, 108, 101]) = true := by rw [ByteArray.toList_eq, hw1]; rfl
      have HN := Lib.hid (show r = .inl ((1, 0, [], noK), 4) by rw [← HR.out]; unfold tkK; rw [if_pos hw1])
      generalize (⟨(wdK (103 :: t)).toArray⟩ : ByteArray) = u at *
      clear hw1
      go_wp2_with fail
      (with_reducible refine (hcu.out).mono ?_); rintro e w3 ⟨⟨ca, cb, rfl⟩, hb3⟩
      have HF3 := Lib.hid (HF2.out.go hb3)
      clear hb3 hcu HF2
      clear a0 l0 s0 l2 c0 c1 c2 c3 c4 c5 c6 c7 c8 f0 f1 f2 f3 f4 f5 f6 f7 f8 l1
      obtain ⟨a0, _, l0⟩ := bx1 (HF3.out.at (g := w.heap.size) (o := inO (a : Int)) (by simp))
      obtain ⟨s0, _, l2⟩ := bx1 (HF3.out.at (g := w.heap.size + 2) (o := srO x) (by simp))
      obtain ⟨⟨c0, c1, c2, c3, c4, c5, c6, c7, c8⟩, ⟨f0, f1, f2, f3, f4, f5, f6, f7, f8⟩, l1⟩ := bx9 (HF3.out.at (g := w.heap.size + 1) (o := tkO 0 (a : Int) 0 0 ⟨#[]⟩ (fun _ => false)) (by simp))
      go_wp2_with fail
      (with_reducible refine (done_ w w3 w.heap.size (w.heap.size + 1) 0 (a : Int) 0 0 ⟨#[]⟩ (fun _ => false) HF3.out.bel (by omega) (HF3.out.at (g := w.heap.size) (o := inO (a : Int)) (by simp)) (by omega) (HF3.out.at (g := w.heap.size + 1) (o := tkO 0 (a : Int) 0 0 ⟨#[]⟩ (fun _ => false)) (by simp)) 1 4 (by omega) (by omega)).mono ?_)
      rintro e w9 ⟨rfl, hb9, _, ht9⟩
      clear a0 l0 s0 l2 c0 c1 c2 c3 c4 c5 c6 c7 c8 f0 f1 f2 f3 f4 f5 f6 f7 f8 l1
      obtain ⟨⟨c0, c1, c2, c3, c4, c5, c6, c7, c8⟩, ⟨f0, f1, f2, f3, f4, f5, f6, f7, f8⟩, l1⟩ := bx9 ht9
      clear ht9
      go_wp2
      refine bodyPost_ret (v := .tuple #[tkV 1 (a : Int) ((a : Int) + 4) 0 ⟨#[]⟩ (fun _ => false), .int .i64 0, .bool true]) (by simp [results, go_sem, c0, c1, c2, c3, c4, c5, c6, c7, c8]) rfl (RetTk.yes HN.out rfl rfl (by omega) rfl rfl rfl ?_)
      repeat' (first | with_reducible exact hb9 | with_reducible refine bs ?_ ?_ | (simp only; done) | (simp only; omega))
    have q1 : ((⟨(wdK (103 :: t)).toArray⟩ : ByteArray).toList == [114, 117, 108, 101]) = false := by rw [ByteArray.toList_eq]; simpa [ruleW] using hw1
    by_cases hw2 : wdK (103 :: t) = gapW
    · have q2 : ((⟨(wdK (103 :: t)).toArray⟩ : ByteArray).toList == [103, 97, 112]) = true := by rw [ByteArray.toList_eq, hw2]; rfl
      have HN := Lib.hid (show r = .inl ((2, 0, [], noK), 3) by rw [← HR.out]; unfold tkK; rw [if_neg hw1, if_pos hw2])
      generalize (⟨(wdK (103 :: t)).toArray⟩ : ByteArray) = u at *
      clear hw1 hw2
      go_wp2_with fail
      (with_reducible refine (hcu.out).mono ?_); rintro e w3 ⟨⟨ca, cb, rfl⟩, hb3⟩
      have HF3 := Lib.hid (HF2.out.go hb3)
      clear hb3 hcu HF2
      clear a0 l0 s0 l2 c0 c1 c2 c3 c4 c5 c6 c7 c8 f0 f1 f2 f3 f4 f5 f6 f7 f8 l1
      obtain ⟨a0, _, l0⟩ := bx1 (HF3.out.at (g := w.heap.size) (o := inO (a : Int)) (by simp))
      obtain ⟨s0, _, l2⟩ := bx1 (HF3.out.at (g := w.heap.size + 2) (o := srO x) (by simp))
      obtain ⟨⟨c0, c1, c2, c3, c4, c5, c6, c7, c8⟩, ⟨f0, f1, f2, f3, f4, f5, f6, f7, f8⟩, l1⟩ := bx9 (HF3.out.at (g := w.heap.size + 1) (o := tkO 0 (a : Int) 0 0 ⟨#[]⟩ (fun _ => false)) (by simp))
      go_wp2_with fail
      (with_reducible refine (done_ w w3 w.heap.size (w.heap.size + 1) 0 (a : Int) 0 0 ⟨#[]⟩ (fun _ => false) HF3.out.bel (by omega) (HF3.out.at (g := w.heap.size) (o := inO (a : Int)) (by simp)) (by omega) (HF3.out.at (g := w.heap.size + 1) (o := tkO 0 (a : Int) 0 0 ⟨#[]⟩ (fun _ => false)) (by simp)) 2 3 (by omega) (by omega)).mono ?_)
      rintro e w9 ⟨rfl, hb9, _, ht9⟩
      clear a0 l0 s0 l2 c0 c1 c2 c3 c4 c5 c6 c7 c8 f0 f1 f2 f3 f4 f5 f6 f7 f8 l1
      obtain ⟨⟨c0, c1, c2, c3, c4, c5, c6, c7, c8⟩, ⟨f0, f1, f2, f3, f4, f5, f6, f7, f8⟩, l1⟩ := bx9 ht9
      clear ht9
      go_wp2
      refine bodyPost_ret (v := .tuple #[tkV 2 (a : Int) ((a : Int) + 3) 0 ⟨#[]⟩ (fun _ => false), .int .i64 0, .bool true]) (by simp [results, go_sem, c0, c1, c2, c3, c4, c5, c6, c7, c8]) rfl (RetTk.yes HN.out rfl rfl (by omega) rfl rfl rfl ?_)
      repeat' (first | with_reducible exact hb9 | with_reducible refine bs ?_ ?_ | (simp only; done) | (simp only; omega))
    · have q2 : ((⟨(wdK (103 :: t)).toArray⟩ : ByteArray).toList == [103, 97, 112]) = false := by rw [ByteArray.toList_eq]; simpa [gapW] using hw2
      have HN := Lib.hid (show r = .inr 0 by
        rw [← HR.out]; unfold tkK; rw [if_neg hw1, if_neg hw2, hdK, if_neg (by decide), if_neg (by decide), if_neg (by rintro ⟨e, _⟩; exact absurd e (by decide)), if_neg (by decide), if_neg (by decide)])
      generalize (⟨(wdK (103 :: t)).toArray⟩ : ByteArray) = u at *
      clear hw1 hw2
      go_wp2_with fail
      (with_reducible refine (hcu.out).mono ?_); rintro e w3 ⟨⟨ca, cb, rfl⟩, hb3⟩
      have HF3 := Lib.hid (HF2.out.go hb3)
      clear hb3 hcu HF2
      clear a0 l0 s0 l2 c0 c1 c2 c3 c4 c5 c6 c7 c8 f0 f1 f2 f3 f4 f5 f6 f7 f8 l1
      obtain ⟨a0, _, l0⟩ := bx1 (HF3.out.at (g := w.heap.size) (o := inO (a : Int)) (by simp))
      obtain ⟨s0, _, l2⟩ := bx1 (HF3.out.at (g := w.heap.size + 2) (o := srO x) (by simp))
      obtain ⟨⟨c0, c1, c2, c3, c4, c5, c6, c7, c8⟩, ⟨f0, f1, f2, f3, f4, f5, f6, f7, f8⟩, l1⟩ := bx9 (HF3.out.at (g := w.heap.size + 1) (o := tkO 0 (a : Int) 0 0 ⟨#[]⟩ (fun _ => false)) (by simp))
      have hB := HF3.out.bel
      go_wp2
      go_region
      go_wp2
      refine bodyPost_ret (v := .tuple #[tkV 0 (a : Int) 0 0 ⟨#[]⟩ (fun _ => false), .int .i64 (a : Int), .bool false]) (by simp [results, go_sem, c0, c1, c2, c3, c4, c5, c6, c7, c8]) rfl (RetTk.no HN.out (by omega) ?_)
      repeat' (first | with_reducible exact hB | with_reducible refine Below.drew ?_ | with_reducible refine bs ?_ ?_ | (simp only; done) | (simp only; omega))
  have hoth := Lib.hid (tk_other (c := c) (u := t) uqK h114 h103)
  rw [hoth.out] at HR
  by_cases h46 : c = 46
  · subst h46
    have e1 : ((x[0].toNat : Int) == 114) = false := by rw [hx0c]; rfl
    have e2 : ((x[0].toNat : Int) == 103) = false := by rw [hx0c]; rfl
    have e3 : ((x[0].toNat : Int) == 46) = true := by rw [hx0c]; rfl
    have e4 : ((x[0].toNat : Int) == 91) = false := by rw [hx0c]; rfl
    have e5 : ((x[0].toNat : Int) == 105) = false := by rw [hx0c]; rfl
    have e6 : ((x[0].toNat : Int) == 34) = false := by rw [hx0c]; rfl
    have HN := Lib.hid (show r = .inl ((6, 0, [], allK), 1) by
      rw [← HR.out, hdK, if_neg (by decide), if_neg (by decide), if_neg (by rintro ⟨e, _⟩; exact absurd e (by decide)), if_pos rfl])
    clear hct hx0c
    have hal := Lib.hid (all_ W2)
    have hst := Lib.hid (stV_congr (f := fun _ => true) (g := allK) fun i hi => by unfold allK; rw [decide_eq_true hi])
    generalize (fun _ => true : Nat → Bool) = fa at *
    go_wp2_with fail
    (with_reducible refine (hal.out).mono ?_); rintro e w3 ⟨rfl, hb3⟩
    have HF3 := Lib.hid (HF2.out.go hb3)
    clear hb3 hal HF2
    clear a0 l0 s0 l2 c0 c1 c2 c3 c4 c5 c6 c7 c8 f0 f1 f2 f3 f4 f5 f6 f7 f8 l1
    obtain ⟨a0, _, l0⟩ := bx1 (HF3.out.at (g := w.heap.size) (o := inO (a : Int)) (by simp))
    obtain ⟨s0, _, l2⟩ := bx1 (HF3.out.at (g := w.heap.size + 2) (o := srO x) (by simp))
    obtain ⟨⟨c0, c1, c2, c3, c4, c5, c6, c7, c8⟩, ⟨f0, f1, f2, f3, f4, f5, f6, f7, f8⟩, l1⟩ := bx9 (HF3.out.at (g := w.heap.size + 1) (o := tkO 0 (a : Int) 0 0 ⟨#[]⟩ (fun _ => false)) (by simp))
    have HF4 := Lib.hid (tk_setF HF3.out fa)
    clear HF3
    go_upto_region 20 with fail
    generalize (((w3.setCell ⟨w.heap.size + 1, 5, none⟩ (.int .u64 ((wK fa 0 : Nat) : Int))).setCell ⟨w.heap.size + 1, 6, none⟩ (.int .u64 ((wK fa 1 : Nat) : Int))).setCell ⟨w.heap.size + 1, 7, none⟩ (.int .u64 ((wK fa 2 : Nat) : Int))).setCell ⟨w.heap.size + 1, 8, none⟩ (.int .u64 ((wK fa 3 : Nat) : Int)) = w4 at *
    clear a0 l0 s0 l2 c0 c1 c2 c3 c4 c5 c6 c7 c8 f0 f1 f2 f3 f4 f5 f6 f7 f8 l1
    obtain ⟨a0, _, l0⟩ := bx1 (HF4.out.at (g := w.heap.size) (o := inO (a : Int)) (by simp))
    obtain ⟨s0, _, l2⟩ := bx1 (HF4.out.at (g := w.heap.size + 2) (o := srO x) (by simp))
    obtain ⟨⟨c0, c1, c2, c3, c4, c5, c6, c7, c8⟩, ⟨f0, f1, f2, f3, f4, f5, f6, f7, f8⟩, l1⟩ := bx9 (HF4.out.at (g := w.heap.size + 1) (o := tkO 0 (a : Int) 0 0 ⟨#[]⟩ fa) (by simp))
    go_wp2_with fail
    (with_reducible refine (done_ w w4 w.heap.size (w.heap.size + 1) 0 (a : Int) 0 0 ⟨#[]⟩ fa HF4.out.bel (by omega) (HF4.out.at (g := w.heap.size) (o := inO (a : Int)) (by simp)) (by omega) (HF4.out.at (g := w.heap.size + 1) (o := tkO 0 (a : Int) 0 0 ⟨#[]⟩ fa) (by simp)) 6 1 (by omega) (by omega)).mono ?_)
    rintro e w9 ⟨rfl, hb9, _, ht9⟩
    clear a0 l0 s0 l2 c0 c1 c2 c3 c4 c5 c6 c7 c8 f0 f1 f2 f3 f4 f5 f6 f7 f8 l1
    obtain ⟨⟨c0, c1, c2, c3, c4, c5, c6, c7, c8⟩, ⟨f0, f1, f2, f3, f4, f5, f6, f7, f8⟩, l1⟩ := bx9 ht9
    clear ht9
    go_wp2
    refine bodyPost_ret (v := .tuple #[tkV 6 (a : Int) ((a : Int) + 1) 0 ⟨#[]⟩ fa, .int .i64 0, .bool true]) (by simp [results, go_sem, c0, c1, c2, c3, c4, c5, c6, c7, c8]) rfl (RetTk.yes HN.out rfl rfl (by omega) rfl rfl hst.out ?_)
    repeat' (first | with_reducible exact hb9 | with_reducible refine bs ?_ ?_ | (simp only; done) | (simp only; omega))
  by_cases h91 : c = 91
  · subst h91
    have e1 : ((x[0].toNat : Int) == 114) = false := by rw [hx0c]; rfl
    have e2 : ((x[0].toNat : Int) == 103) = false := by rw [hx0c]; rfl
    have e3 : ((x[0].toNat : Int) == 46) = false := by rw [hx0c]; rfl
    have e4 : ((x[0].toNat : Int) == 91) = true := by rw [hx0c]; rfl
    have e5 : ((x[0].toNat : Int) == 105) = false := by rw [hx0c]; rfl
    have e6 : ((x[0].toNat : Int) == 34) = false := by rw [hx0c]; rfl
    rcases hp : pfK (91 :: t) with ⟨g, n, er⟩
    have hpx := Lib.hid (prefix_ x (by omega) (g, n, er) (Lib.hid (by rw [hct]; exact hp)) W2)
    unfold RetPf at hpx
    have hnb : n ≤ x.size := by
      have hxz : x.size = (91 :: t).length := by rw [← hct]; simp
      rw [hxz]
      by_cases he : er = 0
      · subst he; exact (pfK_loc hp).2.1
      · exact pfK_bad hp he
    clear hct hx0c
    by_cases he : er = 0
    · subst he
      have HN := Lib.hid (show r = .inl ((6, 0, [], g), n) by
        rw [← HR.out, hdK, if_neg (by decide), if_neg (by decide), if_neg (by rintro ⟨e, _⟩; exact absurd e (by decide)), if_neg (by decide), if_pos rfl, hp]
        simp)
      clear hp
      go_wp2_with fail
      (with_reducible refine (hpx.out).mono ?_); rintro e w3 ⟨rfl, hb3⟩
      have HF3 := Lib.hid ((HF2.out.go hb3).al (stO g))
      have hn3 := Lib.hid (alloc1_new w3 (stO g))
      have hne3 : w3.heap.size ≠ w.heap.size + 1 := by have := (HF2.out.go hb3).lt (g := w.heap.size + 1) (o := tkO 0 (a : Int) 0 0 ⟨#[]⟩ (fun _ => false)) (by simp); omega
      clear hb3 hpx HF2
      go_upto_region 22 with fail
      generalize w3.alloc (stO g) = w3' at *
      generalize w3.heap.size = g3 at *
      clear a0 l0 s0 l2 c0 c1 c2 c3 c4 c5 c6 c7 c8 f0 f1 f2 f3 f4 f5 f6 f7 f8 l1
      obtain ⟨a0, _, l0⟩ := bx1 (HF3.out.at (g := w.heap.size) (o := inO (a : Int)) (by simp))
      obtain ⟨s0, _, l2⟩ := bx1 (HF3.out.at (g := w.heap.size + 2) (o := srO x) (by simp))
      obtain ⟨⟨c0, c1, c2, c3, c4, c5, c6, c7, c8⟩, ⟨f0, f1, f2, f3, f4, f5, f6, f7, f8⟩, l1⟩ := bx9 (HF3.out.at (g := w.heap.size + 1) (o := tkO 0 (a : Int) 0 0 ⟨#[]⟩ (fun _ => false)) (by simp))
      obtain ⟨⟨d0, d1, d2, d3⟩, _⟩ := bx4 hn3.out
      have HF4 := Lib.hid (tk_setF HF3.out g)
      clear HF3 hn3
      go_upto_region 25 with fail
      generalize (((w3'.setCell ⟨w.heap.size + 1, 5, none⟩ (.int .u64 ((wK g 0 : Nat) : Int))).setCell ⟨w.heap.size + 1, 6, none⟩ (.int .u64 ((wK g 1 : Nat) : Int))).setCell ⟨w.heap.size + 1, 7, none⟩ (.int .u64 ((wK g 2 : Nat) : Int))).setCell ⟨w.heap.size + 1, 8, none⟩ (.int .u64 ((wK g 3 : Nat) : Int)) = w4 at *
      clear d0 d1 d2 d3
      clear a0 l0 s0 l2 c0 c1 c2 c3 c4 c5 c6 c7 c8 f0 f1 f2 f3 f4 f5 f6 f7 f8 l1
      obtain ⟨a0, _, l0⟩ := bx1 (HF4.out.at (g := w.heap.size) (o := inO (a : Int)) (by simp))
      obtain ⟨s0, _, l2⟩ := bx1 (HF4.out.at (g := w.heap.size + 2) (o := srO x) (by simp))
      obtain ⟨⟨c0, c1, c2, c3, c4, c5, c6, c7, c8⟩, ⟨f0, f1, f2, f3, f4, f5, f6, f7, f8⟩, l1⟩ := bx9 (HF4.out.at (g := w.heap.size + 1) (o := tkO 0 (a : Int) 0 0 ⟨#[]⟩ g) (by simp))
      go_wp2_with fail
      (with_reducible refine (done_ w w4 w.heap.size (w.heap.size + 1) 0 (a : Int) 0 0 ⟨#[]⟩ g HF4.out.bel (by omega) (HF4.out.at (g := w.heap.size) (o := inO (a : Int)) (by simp)) (by omega) (HF4.out.at (g := w.heap.size + 1) (o := tkO 0 (a : Int) 0 0 ⟨#[]⟩ g) (by simp)) 6 (n : Int) (by omega) (by omega)).mono ?_)
      rintro e w9 ⟨rfl, hb9, _, ht9⟩
      clear a0 l0 s0 l2 c0 c1 c2 c3 c4 c5 c6 c7 c8 f0 f1 f2 f3 f4 f5 f6 f7 f8 l1
      obtain ⟨⟨c0, c1, c2, c3, c4, c5, c6, c7, c8⟩, ⟨f0, f1, f2, f3, f4, f5, f6, f7, f8⟩, l1⟩ := bx9 ht9
      clear ht9
      go_wp2
      refine bodyPost_ret (v := .tuple #[tkV 6 (a : Int) ((a : Int) + (n : Int)) 0 ⟨#[]⟩ g, .int .i64 0, .bool true]) (by simp [results, go_sem, c0, c1, c2, c3, c4, c5, c6, c7, c8]) rfl (RetTk.yes HN.out rfl rfl (by omega) rfl rfl rfl ?_)
      repeat' (first | with_reducible exact hb9 | with_reducible refine bs ?_ ?_ | (simp only; done) | (simp only; omega))
    · have HN := Lib.hid (show r = .inr n by
        rw [← HR.out, hdK, if_neg (by decide), if_neg (by decide), if_neg (by rintro ⟨e, _⟩; exact absurd e (by decide)), if_neg (by decide), if_pos rfl, hp]
        simp [he])
      have e9 : (er != 0) = true := by simpa using he
      clear hp he
      go_wp2_with fail
      (with_reducible refine (hpx.out).mono ?_); rintro e w3 ⟨rfl, hb3⟩
      have HF3 := Lib.hid ((HF2.out.go hb3).al (stO g))
      clear hb3 hpx HF2
      go_upto_region 22 with fail
      generalize w3.alloc (stO g) = w3' at *
      clear a0 l0 s0 l2 c0 c1 c2 c3 c4 c5 c6 c7 c8 f0 f1 f2 f3 f4 f5 f6 f7 f8 l1
      obtain ⟨a0, _, l0⟩ := bx1 (HF3.out.at (g := w.heap.size) (o := inO (a : Int)) (by simp))
      obtain ⟨s0, _, l2⟩ := bx1 (HF3.out.at (g := w.heap.size + 2) (o := srO x) (by simp))
      obtain ⟨⟨c0, c1, c2, c3, c4, c5, c6, c7, c8⟩, ⟨f0, f1, f2, f3, f4, f5, f6, f7, f8⟩, l1⟩ := bx9 (HF3.out.at (g := w.heap.size + 1) (o := tkO 0 (a : Int) 0 0 ⟨#[]⟩ (fun _ => false)) (by simp))
      have hB := HF3.out.bel
      go_wp2
      go_region
      go_wp2
      refine bodyPost_ret (v := .tuple #[tkV 0 (a : Int) 0 0 ⟨#[]⟩ (fun _ => false), .int .i64 ((a : Int) + n), .bool false]) (by simp [results, go_sem, c0, c1, c2, c3, c4, c5, c6, c7, c8]) rfl (RetTk.no HN.out (by omega) ?_)
      repeat' (first | with_reducible exact hB | with_reducible refine Below.drew ?_ | with_reducible refine bs ?_ ?_ | (simp only; done) | (simp only; omega))
  by_cases h34 : c = 34
  · subst h34
    have e1 : ((x[0].toNat : Int) == 114) = false := by rw [hx0c]; rfl
    have e2 : ((x[0].toNat : Int) == 103) = false := by rw [hx0c]; rfl
    have e3 : ((x[0].toNat : Int) == 46) = false := by rw [hx0c]; rfl
    have e4 : ((x[0].toNat : Int) == 91) = false := by rw [hx0c]; rfl
    have e5 : ((x[0].toNat : Int) == 105) = false := by rw [hx0c]; rfl
    have e6 : ((x[0].toNat : Int) == 34) = true := by rw [hx0c]; rfl
    have hxt : t.length < x.size := by have : x.data.toList.length = x.size := by simp
                                       rw [← this, hct]; simp
    clear hx0c
    rcases qd_cases t with ⟨k, hk, he, hq, hkl⟩ | ⟨hq, hor⟩
    · have HN := Lib.hid (show r = .inl ((4, 0, (uqS (34 :: (t).take k)).data.toList, noK), k + 1) by
        rw [← HR.out, hdK, if_neg (by decide), if_pos rfl, hk]
        simp only
        rw [if_pos (show (uqK (34 :: t.take k)).2 = 0 from he)]
        rfl)
      have hqd := Lib.hid (quoted_ x t hct (by omega) _ _ (Lib.hid hq) W2 (HE.out.below HF2.out.bel))
      generalize uqS (34 :: (t).take k) = str at *
      have j1 : ¬ ((k : Int) + 1 < 0) := by omega
      clear hk he hq
      go_wp2_with fail
      (with_reducible refine (hqd.out).mono ?_); rintro e w3 ⟨rfl, hb3⟩
      have HF3 := Lib.hid (HF2.out.go hb3)
      clear hb3 hqd HF2
      clear a0 l0 s0 l2 c0 c1 c2 c3 c4 c5 c6 c7 c8 f0 f1 f2 f3 f4 f5 f6 f7 f8 l1
      obtain ⟨a0, _, l0⟩ := bx1 (HF3.out.at (g := w.heap.size) (o := inO (a : Int)) (by simp))
      obtain ⟨s0, _, l2⟩ := bx1 (HF3.out.at (g := w.heap.size + 2) (o := srO x) (by simp))
      obtain ⟨⟨c0, c1, c2, c3, c4, c5, c6, c7, c8⟩, ⟨f0, f1, f2, f3, f4, f5, f6, f7, f8⟩, l1⟩ := bx9 (HF3.out.at (g := w.heap.size + 1) (o := tkO 0 (a : Int) 0 0 ⟨#[]⟩ (fun _ => false)) (by simp))
      have HF4 := Lib.hid (tk_setS HF3.out str)
      clear HF3
      go_upto_region 33 with fail
      generalize w3.setCell ⟨w.heap.size + 1, 4, none⟩ (.string str) = w4 at *
      clear a0 l0 s0 l2 c0 c1 c2 c3 c4 c5 c6 c7 c8 f0 f1 f2 f3 f4 f5 f6 f7 f8 l1
      obtain ⟨a0, _, l0⟩ := bx1 (HF4.out.at (g := w.heap.size) (o := inO (a : Int)) (by simp))
      obtain ⟨s0, _, l2⟩ := bx1 (HF4.out.at (g := w.heap.size + 2) (o := srO x) (by simp))
      obtain ⟨⟨c0, c1, c2, c3, c4, c5, c6, c7, c8⟩, ⟨f0, f1, f2, f3, f4, f5, f6, f7, f8⟩, l1⟩ := bx9 (HF4.out.at (g := w.heap.size + 1) (o := tkO 0 (a : Int) 0 0 str (fun _ => false)) (by simp))
      go_wp2_with fail
      (with_reducible refine (done_ w w4 w.heap.size (w.heap.size + 1) 0 (a : Int) 0 0 str (fun _ => false) HF4.out.bel (by omega) (HF4.out.at (g := w.heap.size) (o := inO (a : Int)) (by simp)) (by omega) (HF4.out.at (g := w.heap.size + 1) (o := tkO 0 (a : Int) 0 0 str (fun _ => false)) (by simp)) 4 ((k : Int) + 1) (by omega) (by omega)).mono ?_)
      rintro e w9 ⟨rfl, hb9, _, ht9⟩
      clear a0 l0 s0 l2 c0 c1 c2 c3 c4 c5 c6 c7 c8 f0 f1 f2 f3 f4 f5 f6 f7 f8 l1
      obtain ⟨⟨c0, c1, c2, c3, c4, c5, c6, c7, c8⟩, ⟨f0, f1, f2, f3, f4, f5, f6, f7, f8⟩, l1⟩ := bx9 ht9
      clear ht9
      go_wp2
      refine bodyPost_ret (v := .tuple #[tkV 4 (a : Int) ((a : Int) + ((k : Int) + 1)) 0 str (fun _ => false), .int .i64 0, .bool true]) (by simp [results, go_sem, c0, c1, c2, c3, c4, c5, c6, c7, c8]) rfl (RetTk.yes HN.out rfl rfl (by omega) rfl rfl rfl ?_)
      repeat' (first | with_reducible exact hb9 | with_reducible refine bs ?_ ?_ | (simp only; done) | (simp only; omega))
    · have HN := Lib.hid (show r = .inr 0 by
        rw [← HR.out, hdK, if_neg (by decide), if_pos rfl]
        rcases hor with h | ⟨k, h, he⟩
        · rw [h]
        · rw [h]
          simp only
          rw [if_neg (show (uqK (34 :: t.take k)).2 ≠ 0 from he)])
      have hqd := Lib.hid (quoted_ x t hct (by omega) _ _ (Lib.hid hq) W2 (HE.out.below HF2.out.bel))
      clear hq hor
      go_wp2_with fail
      (with_reducible refine (hqd.out).mono ?_); rintro e w3 ⟨rfl, hb3⟩
      have HF3 := Lib.hid (HF2.out.go hb3)
      clear hb3 hqd HF2
      clear a0 l0 s0 l2 c0 c1 c2 c3 c4 c5 c6 c7 c8 f0 f1 f2 f3 f4 f5 f6 f7 f8 l1
      obtain ⟨a0, _, l0⟩ := bx1 (HF3.out.at (g := w.heap.size) (o := inO (a : Int)) (by simp))
      obtain ⟨s0, _, l2⟩ := bx1 (HF3.out.at (g := w.heap.size + 2) (o := srO x) (by simp))
      obtain ⟨⟨c0, c1, c2, c3, c4, c5, c6, c7, c8⟩, ⟨f0, f1, f2, f3, f4, f5, f6, f7, f8⟩, l1⟩ := bx9 (HF3.out.at (g := w.heap.size + 1) (o := tkO 0 (a : Int) 0 0 ⟨#[]⟩ (fun _ => false)) (by simp))
      have hB := HF3.out.bel
      go_wp2
      go_region
      go_wp2
      refine bodyPost_ret (v := .tuple #[tkV 0 (a : Int) 0 0 ⟨#[]⟩ (fun _ => false), .int .i64 (a : Int), .bool false]) (by simp [results, go_sem, c0, c1, c2, c3, c4, c5, c6, c7, c8]) rfl (RetTk.no HN.out (by omega) ?_)
      repeat' (first | with_reducible exact hB | with_reducible refine Below.drew ?_ | with_reducible refine bs ?_ ?_ | (simp only; done) | (simp only; omega))
  by_cases h105 : c = 105
  · subst h105
    have e1 : ((x[0].toNat : Int) == 114) = false := by rw [hx0c]; rfl
    have e2 : ((x[0].toNat : Int) == 103) = false := by rw [hx0c]; rfl
    have e3 : ((x[0].toNat : Int) == 46) = false := by rw [hx0c]; rfl
    have e4 : ((x[0].toNat : Int) == 91) = false := by rw [hx0c]; rfl
    have e5 : ((x[0].toNat : Int) == 105) = true := by rw [hx0c]; rfl
    have e6 : ((x[0].toNat : Int) == 34) = false := by rw [hx0c]; rfl
    have Hxt := Lib.hid (show x.size = t.length + 1 by have : x.data.toList.length = x.size := by simp
                                                       rw [← this, hct]; rfl)
    by_cases hi : t.head? = some 34
    · obtain ⟨u, rfl⟩ : ∃ u, t = 34 :: u := by
        cases t with
        | nil => cases hi
        | cons d v => exact ⟨v, by simpa using hi⟩
      have hz2 : 2 ≤ x.size := by rw [Hxt.out]; simp
      have hb1 : x[1] = 34 := by
        have := dropB x 1 (by omega)
        rw [hct] at this
        injection this with h1 _
        exact h1.symm
      obtain ⟨y, hy⟩ : ∃ y, y = x.extract 1 x.size := ⟨_, rfl⟩
      have hyl : y.data.toList = 34 :: u := by rw [hy, ext_drop, hct]; rfl
      have hys : y.size + 1 = x.size := by rw [hy, ByteArray.size_extract]; omega
      have hul : u.length < y.size := by have : y.data.toList.length = y.size := by simp
                                         rw [← this, hyl]; simp
      have hyx : y.size ≤ x.size := by omega
      have g1 : ¬ ((x.size : Int) < 2) := by omega
      have g2 : ((x[1].toNat : Int) != 34) = false := by rw [hb1]; rfl
      have g3 : (x.size : Int) - (y.size : Int) = 1 := by omega
      have g4 : (1 : Int) ≤ (x.size : Int) := by omega
      have g5 : (1 : Int) < (x.size : Int) := by omega
      have HY := Lib.hid hy
      clear hct hx0c hb1 hy hi hys Hxt
      go_upto_region 28 with fail
      rw [← HY.out]
      rcases qd_cases u with ⟨k, hk, he, hq, hkl⟩ | ⟨hq, hor⟩
      · have HN := Lib.hid (show r = .inl ((5, 0, (uqS (34 :: (u).take k)).data.toList, noK), k + 2) by
          rw [← HR.out, hdK, if_neg (by decide), if_neg (by decide), if_pos ⟨rfl, rfl⟩]
          simp only [List.drop_succ_cons, List.drop_zero]
          rw [hk]
          simp only
          rw [if_pos (show (uqK (34 :: u.take k)).2 = 0 from he)]
          rfl)
        have hqd := Lib.hid (quoted_ y u hyl (by omega) _ _ (Lib.hid hq) W2 (HE.out.below HF2.out.bel))
        generalize uqS (34 :: (u).take k) = str at *
        have j1 : ¬ ((k : Int) + 1 < 0) := by omega
        clear hk he hq
        go_wp2_with fail
        (with_reducible refine (hqd.out).mono ?_); rintro e w3 ⟨rfl, hb3⟩
        have HF3 := Lib.hid (HF2.out.go hb3)
        clear hb3 hqd HF2
        clear a0 l0 s0 l2 c0 c1 c2 c3 c4 c5 c6 c7 c8 f0 f1 f2 f3 f4 f5 f6 f7 f8 l1
        obtain ⟨a0, _, l0⟩ := bx1 (HF3.out.at (g := w.heap.size) (o := inO (a : Int)) (by simp))
        obtain ⟨s0, _, l2⟩ := bx1 (HF3.out.at (g := w.heap.size + 2) (o := srO x) (by simp))
        obtain ⟨⟨c0, c1, c2, c3, c4, c5, c6, c7, c8⟩, ⟨f0, f1, f2, f3, f4, f5, f6, f7, f8⟩, l1⟩ := bx9 (HF3.out.at (g := w.heap.size + 1) (o := tkO 0 (a : Int) 0 0 ⟨#[]⟩ (fun _ => false)) (by simp))
        have HF4 := Lib.hid (tk_setS HF3.out str)
        clear HF3
        go_upto_region 33 with fail
        generalize w3.setCell ⟨w.heap.size + 1, 4, none⟩ (.string str) = w4 at *
        clear a0 l0 s0 l2 c0 c1 c2 c3 c4 c5 c6 c7 c8 f0 f1 f2 f3 f4 f5 f6 f7 f8 l1
        obtain ⟨a0, _, l0⟩ := bx1 (HF4.out.at (g := w.heap.size) (o := inO (a : Int)) (by simp))
        obtain ⟨s0, _, l2⟩ := bx1 (HF4.out.at (g := w.heap.size + 2) (o := srO x) (by simp))
        obtain ⟨⟨c0, c1, c2, c3, c4, c5, c6, c7, c8⟩, ⟨f0, f1, f2, f3, f4, f5, f6, f7, f8⟩, l1⟩ := bx9 (HF4.out.at (g := w.heap.size + 1) (o := tkO 0 (a : Int) 0 0 str (fun _ => false)) (by simp))
        go_wp2_with fail
        (with_reducible refine (done_ w w4 w.heap.size (w.heap.size + 1) 0 (a : Int) 0 0 str (fun _ => false) HF4.out.bel (by omega) (HF4.out.at (g := w.heap.size) (o := inO (a : Int)) (by simp)) (by omega) (HF4.out.at (g := w.heap.size + 1) (o := tkO 0 (a : Int) 0 0 str (fun _ => false)) (by simp)) 5 ((k : Int) + 1 + 1) (by omega) (by omega)).mono ?_)
        rintro e w9 ⟨rfl, hb9, _, ht9⟩
        clear a0 l0 s0 l2 c0 c1 c2 c3 c4 c5 c6 c7 c8 f0 f1 f2 f3 f4 f5 f6 f7 f8 l1
        obtain ⟨⟨c0, c1, c2, c3, c4, c5, c6, c7, c8⟩, ⟨f0, f1, f2, f3, f4, f5, f6, f7, f8⟩, l1⟩ := bx9 ht9
        clear ht9
        go_wp2
        refine bodyPost_ret (v := .tuple #[tkV 5 (a : Int) ((a : Int) + ((k : Int) + 1 + 1)) 0 str (fun _ => false), .int .i64 0, .bool true]) (by simp [results, go_sem, c0, c1, c2, c3, c4, c5, c6, c7, c8]) rfl (RetTk.yes HN.out rfl rfl (by omega) rfl rfl rfl ?_)
        repeat' (first | with_reducible exact hb9 | with_reducible refine bs ?_ ?_ | (simp only; done) | (simp only; omega))
      · have HN := Lib.hid (show r = .inr 1 by
          rw [← HR.out, hdK, if_neg (by decide), if_neg (by decide), if_pos ⟨rfl, rfl⟩]
          simp only [List.drop_succ_cons, List.drop_zero]
          rcases hor with h | ⟨k, h, he⟩
          · rw [h]
          · rw [h]
            simp only
            rw [if_neg (show (uqK (34 :: u.take k)).2 ≠ 0 from he)])
        have hqd := Lib.hid (quoted_ y u hyl (by omega) _ _ (Lib.hid hq) W2 (HE.out.below HF2.out.bel))
        clear hq hor
        go_wp2_with fail
        (with_reducible refine (hqd.out).mono ?_); rintro e w3 ⟨rfl, hb3⟩
        have HF3 := Lib.hid (HF2.out.go hb3)
        clear hb3 hqd HF2
        clear a0 l0 s0 l2 c0 c1 c2 c3 c4 c5 c6 c7 c8 f0 f1 f2 f3 f4 f5 f6 f7 f8 l1
        obtain ⟨a0, _, l0⟩ := bx1 (HF3.out.at (g := w.heap.size) (o := inO (a : Int)) (by simp))
        obtain ⟨s0, _, l2⟩ := bx1 (HF3.out.at (g := w.heap.size + 2) (o := srO x) (by simp))
        obtain ⟨⟨c0, c1, c2, c3, c4, c5, c6, c7, c8⟩, ⟨f0, f1, f2, f3, f4, f5, f6, f7, f8⟩, l1⟩ := bx9 (HF3.out.at (g := w.heap.size + 1) (o := tkO 0 (a : Int) 0 0 ⟨#[]⟩ (fun _ => false)) (by simp))
        have hB := HF3.out.bel
        go_wp2
        go_region
        go_wp2
        refine bodyPost_ret (v := .tuple #[tkV 0 (a : Int) 0 0 ⟨#[]⟩ (fun _ => false), .int .i64 ((a : Int) + 1), .bool false]) (by simp [results, go_sem, c0, c1, c2, c3, c4, c5, c6, c7, c8]) rfl (RetTk.no HN.out (by omega) ?_)
        repeat' (first | with_reducible exact hB | with_reducible refine Below.drew ?_ | with_reducible refine bs ?_ ?_ | (simp only; done) | (simp only; omega))
    have HN := Lib.hid (show r = .inr 0 by
      rw [← HR.out, hdK, if_neg (by decide), if_neg (by decide), if_neg (by rintro ⟨_, e⟩; exact hi e), if_neg (by decide), if_neg (by decide)])
    by_cases hz2 : x.size < 2
    · have g1 : (x.size : Int) < 2 := by omega
      clear hct hx0c hi
      have hB := HF2.out.bel
      go_wp2
      go_region
      go_wp2
      refine bodyPost_ret (v := .tuple #[tkV 0 (a : Int) 0 0 ⟨#[]⟩ (fun _ => false), .int .i64 (a : Int), .bool false]) (by simp [results, go_sem, c0, c1, c2, c3, c4, c5, c6, c7, c8]) rfl (RetTk.no HN.out (by omega) ?_)
      repeat' (first | with_reducible exact hB | with_reducible refine Below.drew ?_ | with_reducible refine bs ?_ ?_ | (simp only; done) | (simp only; omega))
    · have g1 : ¬ ((x.size : Int) < 2) := by omega
      have g5 : (1 : Int) < (x.size : Int) := by omega
      have g2 : ((x[1].toNat : Int) != 34) = true := by
        have h2 := dropB x 1 (by omega)
        rw [hct] at h2
        have h2 : t = x[1] :: (105 :: t).drop (1 + 1) := h2
        rw [bne_iff_ne]
        intro e
        have h3 : x[1] = 34 := UInt8.toNat_inj.1 (by have : x[1].toNat = 34 := by omega
                                                     rw [this]; rfl)
        exact hi (by rw [h2, h3]; rfl)
      clear hct hx0c hi
      have hB := HF2.out.bel
      go_wp2
      go_region
      go_wp2
      refine bodyPost_ret (v := .tuple #[tkV 0 (a : Int) 0 0 ⟨#[]⟩ (fun _ => false), .int .i64 (a : Int), .bool false]) (by simp [results, go_sem, c0, c1, c2, c3, c4, c5, c6, c7, c8]) rfl (RetTk.no HN.out (by omega) ?_)
      repeat' (first | with_reducible exact hB | with_reducible refine Below.drew ?_ | with_reducible refine bs ?_ ?_ | (simp only; done) | (simp only; omega))
  have e1 : ((x[0].toNat : Int) == 114) = false := by rw [hx0c]; exact u8ne (d := 114) h114
  have e2 : ((x[0].toNat : Int) == 103) = false := by rw [hx0c]; exact u8ne (d := 103) h103
  have e3 : ((x[0].toNat : Int) == 46) = false := by rw [hx0c]; exact u8ne (d := 46) h46
  have e4 : ((x[0].toNat : Int) == 91) = false := by rw [hx0c]; exact u8ne (d := 91) h91
  have e5 : ((x[0].toNat : Int) == 105) = false := by rw [hx0c]; exact u8ne (d := 105) h105
  have e6 : ((x[0].toNat : Int) == 34) = false := by rw [hx0c]; exact u8ne (d := 34) h34
  have hz : hdK uqK (c :: t) = if dgK c = true then (match nmK (c :: t) 0 0 with
      | .inl (v, n) => .inl ((3, v, [], noK), n)
      | .inr f => .inr f) else .inr 0 := by
    rw [hdK]
    by_cases hd : dgK c = true
    · rw [if_pos hd, if_pos hd]
      rcases nmK (c :: t) 0 0 with ⟨v, n⟩ | f <;> rfl
    · rw [if_neg hd, if_neg hd, if_neg h34, if_neg (fun e => h105 e.1), if_neg h46, if_neg h91]
  rw [hz, ← hct] at HR
  have hdc : dgAt x 0 = dgK c := by unfold dgAt; rw [List.drop_zero, hct]
  rw [← hdc] at HR
  have hxl : x.data.toList.length = x.size := by simp
  clear hct hx0c hz hdc
  go_wp2
  go_loopw [21] (fun i wr => ∃ k v : Nat, k ≤ 9 ∧ i = .int .i64 (k : Int) ∧ Fr w [(w.heap.size + 2, srO x), (w.heap.size + 1, tkO 0 (a : Int) 0 (v : Int) ⟨#[]⟩ (fun _ => false)), (w.heap.size, inO (a : Int))] wr ∧ Hid (NmR x.data.toList k v) ∧ Hid (k ≠ 0 → dgAt x 0 = true) ∧ k ≤ x.size) (fun i _ => 10 - (intOf i).toNat)
  case atStart => exact ⟨0, 0, by omega, rfl, HF2.out, Lib.hid (NmR.start _), Lib.hid (fun h => absurd rfl h), by omega⟩
  case round =>
    obtain ⟨k, v, hk, rfl, hF, hn, h0d, hkx⟩ := hrel
    have HFk := Lib.hid hF
    clear hF HF2
    clear a0 l0 s0 l2 c0 c1 c2 c3 c4 c5 c6 c7 c8 f0 f1 f2 f3 f4 f5 f6 f7 f8 l1
    obtain ⟨a0, _, l0⟩ := bx1 (HFk.out.at (g := w.heap.size) (o := inO (a : Int)) (by simp))
    obtain ⟨s0, _, l2⟩ := bx1 (HFk.out.at (g := w.heap.size + 2) (o := srO x) (by simp))
    obtain ⟨⟨c0, c1, c2, c3, c4, c5, c6, c7, c8⟩, ⟨f0, f1, f2, f3, f4, f5, f6, f7, f8⟩, l1⟩ := bx9 (HFk.out.at (g := w.heap.size + 1) (o := tkO 0 (a : Int) 0 (v : Int) ⟨#[]⟩ (fun _ => false)) (by simp))
    have hv := hn.out.2
    rcases hd : dgAt x k with _ | _
    · have HD := Lib.hid hd
      by_cases hk0 : k = 0
      · subst hk0
        have HN := Lib.hid (show r = .inr 0 by rw [← HR.out, hd, if_neg (by decide)])
        clear hd hn h0d HR
        go_wp2_with fail
        (with_reducible refine (digit0 x wr (w.heap.size + 2) s0 false HD).mono ?_); rintro e w3 ⟨rfl, hw3⟩; subst w3
        have hB := HFk.out.bel
        go_wp2
        go_region
        go_wp2
        refine bodyPost_ret (v := .tuple #[tkV 0 (a : Int) 0 ((v : Nat) : Int) ⟨#[]⟩ (fun _ => false), .int .i64 (a : Int), .bool false]) (by simp [results, go_sem, c0, c1, c2, c3, c4, c5, c6, c7, c8]) rfl (RetTk.no HN.out (by omega) ?_)
        repeat' (first | with_reducible exact hB | with_reducible refine Below.drew ?_ | with_reducible refine bs ?_ ?_ | (simp only; done) | (simp only; omega))
      · have HN := Lib.hid (show r = .inl ((3, v, [], noK), k) by rw [← HR.out, if_pos (h0d.out hk0), hn.out.stop hd])
        have g1 : (0 : Int) < (k : Int) := by omega
        clear hd hn h0d HR hk0
        go_wp2_with fail
        (with_reducible refine (digit_ x k wr (w.heap.size + 2) s0 false HD).mono ?_); rintro e w3 ⟨rfl, hw3⟩; subst w3
        go_wp2_with fail
        (with_reducible refine (done_ w wr w.heap.size (w.heap.size + 1) 0 (a : Int) 0 ((v : Nat) : Int) ⟨#[]⟩ (fun _ => false) HFk.out.bel (by omega) (HFk.out.at (g := w.heap.size) (o := inO (a : Int)) (by simp)) (by omega) (HFk.out.at (g := w.heap.size + 1) (o := tkO 0 (a : Int) 0 ((v : Nat) : Int) ⟨#[]⟩ (fun _ => false)) (by simp)) 3 (k : Int) (by omega) (by omega)).mono ?_)
        rintro e w9 ⟨rfl, hb9, _, ht9⟩
        clear a0 l0 s0 l2 c0 c1 c2 c3 c4 c5 c6 c7 c8 f0 f1 f2 f3 f4 f5 f6 f7 f8 l1
        obtain ⟨⟨c0, c1, c2, c3, c4, c5, c6, c7, c8⟩, ⟨f0, f1, f2, f3, f4, f5, f6, f7, f8⟩, l1⟩ := bx9 ht9
        clear ht9
        go_wp2
        refine bodyPost_ret (v := .tuple #[tkV 3 (a : Int) ((a : Int) + (k : Int)) ((v : Nat) : Int) ⟨#[]⟩ (fun _ => false), .int .i64 0, .bool true]) (by simp [results, go_sem, c0, c1, c2, c3, c4, c5, c6, c7, c8]) rfl (RetTk.yes HN.out rfl rfl (by omega) rfl rfl rfl ?_)
        repeat' (first | with_reducible exact hb9 | with_reducible refine bs ?_ ?_ | (simp only; done) | (simp only; omega))
    · have HD := Lib.hid hd
      have hlt : k < x.size := by
        rcases Nat.lt_or_ge k x.size with h | h
        · exact h
        · exfalso
          unfold dgAt at hd
          rw [List.drop_of_length_le (by omega)] at hd
          cases hd
      have hdd := dropB x k hlt
      have hdg : dgK x[k] = true := by unfold dgAt at hd; rw [hdd] at hd; exact hd
      have hc1 : 48 ≤ x[k].toNat ∧ x[k].toNat ≤ 57 := by unfold dgK at hdg; exact of_decide_eq_true hdg
      obtain ⟨hc48, hc57⟩ := hc1
      by_cases hk9 : k = 9
      · subst hk9
        have HN := Lib.hid (show r = .inr 9 by rw [← HR.out, if_pos (h0d.out (by decide)), hn.out.many hdd hdg])
        clear hd hn h0d HR hdd hdg
        go_wp2_with fail
        (with_reducible refine (digit9 x wr (w.heap.size + 2) s0 true HD).mono ?_); rintro e w3 ⟨rfl, hw3⟩; subst w3
        have hB := HFk.out.bel
        go_wp2
        go_region
        go_wp2
        refine bodyPost_ret (v := .tuple #[tkV 0 (a : Int) 0 ((v : Nat) : Int) ⟨#[]⟩ (fun _ => false), .int .i64 ((a : Int) + 9), .bool false]) (by simp [results, go_sem, c0, c1, c2, c3, c4, c5, c6, c7, c8]) rfl (RetTk.no HN.out (by omega) ?_)
        repeat' (first | with_reducible exact hB | with_reducible refine Below.drew ?_ | with_reducible refine bs ?_ ?_ | (simp only; done) | (simp only; omega))
      · have HNm := Lib.hid (hn.out.step hdd hdg hk9)
        have H0 := Lib.hid (show k + 1 ≠ 0 → dgAt x 0 = true by
          intro _
          by_cases hk0 : k = 0
          · subst hk0; exact hd
          · exact h0d.out hk0)
        have hv8 : v ≤ 99999999 := by
          have : 10 ^ k ≤ 10 ^ 8 := Nat.pow_le_pow_right (by decide) (by omega)
          omega
        have hk8 : k ≤ 8 := by omega
        have j9 : ((k : Int) == 9) = false := by rw [beq_eq_false_iff_ne]; omega
        have j0 : (k : Int) < (x.size : Int) := by omega
        have hci : (x[k].toNat : Int) = ((x[k].toNat - 48 : Nat) : Int) + 48 := by omega
        have HF4 := Lib.hid (tk_setN HFk.out ((10 * v + (x[k].toNat - 48) : Nat) : Int))
        have hnew : 10 * (v : Int) + ((x[k].toNat : Int) - 48) = ((10 * v + (x[k].toNat - 48) : Nat) : Int) := by omega
        have HNew := Lib.hid hnew
        clear hd hn h0d HR hdd hdg hk9 hv hci hnew
        go_wp2_with fail
        (with_reducible refine (digit_ x k wr (w.heap.size + 2) s0 true HD).mono ?_); rintro e w3 ⟨rfl, hw3⟩; subst w3
        have w1 : IntKind.i64.wrap (10 * (v : Int)) = 10 * (v : Int) := IntWalk.i64_in _ (by omega)
        have w2 : IntKind.u8.wrap ((x[k].toNat : Int) - 48) = (x[k].toNat : Int) - 48 := by simp [IntKind.wrap, IntKind.bits, IntKind.signed]; omega
        have w4 : IntKind.i64.wrap ((x[k].toNat : Int) - 48) = (x[k].toNat : Int) - 48 := IntWalk.i64_in _ (by omega)
        have w5 : IntKind.i64.wrap (10 * (v : Int) + ((x[k].toNat : Int) - 48)) = 10 * (v : Int) + ((x[k].toNat : Int) - 48) := IntWalk.i64_in _ (by omega)
        go_wp2
        go_region
        all_goals
          rw [HNew.out]
          have HF5 : Hid (Fr w [(w.heap.size + 2, srO x), (w.heap.size + 1, tkO 0 (a : Int) 0 ((10 * v + (x[k].toNat - 48) : Nat) : Int) ⟨#[]⟩ (fun _ => false)), (w.heap.size, inO (a : Int))] (wr.setCell ⟨w.heap.size + 1, 3, none⟩ (.int .i64 ((10 * v + (x[k].toNat - 48) : Nat) : Int))).drew) := Lib.hid HF4.out.drew
          clear HF4 HNew w1 w2 w4 w5
          generalize 10 * v + (x[k].toNat - 48) = v2 at *
          go_wp2
          go_roundw
          case rel => exact ⟨k + 1, v2, by omega, by go_num, HF5.out, HNm, H0, by omega⟩
          case measure => (simp [intOf]) <;> omega
end Go.Proofs.YtcopnpllaoahaaaGreatDoor
