/- Lexer: quoted of the program. No condition. Lexer: tokens in memory; the closures of take; strings.Cut at a space. No condition. -/
import Derived.Test.YtcopnpllaoahaaaGreatDoorK4
import Derived.Test.YtcopnpllaoahaaaGreatDoorG8
import Derived.Test.YtcopnpllaoahaaaGreatDoorG10
import Derived.Test.YtcopnpllaoahaaaGreatDoorMem
import Derived.Test.YtcopnpllaoahaaaGreatDoorOwn
import Derived.RegionTactic
namespace Go.Proofs.YtcopnpllaoahaaaGreatDoor
open Go.RowKit
theorem clK_cons (c : UInt8) (t : List UInt8) : clK (c :: t) = if c = 34 then some 1 else if c = 92 then (clK (t.drop 1)).map (· + 2) else (clK t).map (· + 1) := by
  cases t with
  | nil =>
    show (if c = 34 then some 1 else none) = _
    by_cases h : c = 34
    · rw [if_pos h, if_pos h]
    · rw [if_neg h, if_neg h]; simp [clK]
  | cons d r => rw [clK]; rfl
/-- where the search for the closing quote stands -/
def ClR (r : List UInt8) (j : Nat) : Prop := clK r = (clK (r.drop j)).map (· + j)
theorem ClR.start (r : List UInt8) : ClR r 0 := by unfold ClR; simp
section
variable {r t : List UInt8} {j : Nat} {c : UInt8}
theorem ClR.over (h : ClR r j) (hj : r.length ≤ j) : clK r = none := by
  unfold ClR at h
  rw [h, List.drop_of_length_le hj]; rfl
theorem ClR.hit (h : ClR r j) (hd : r.drop j = 34 :: t) : clK r = some (j + 1) := by
  unfold ClR at h
  rw [h, hd, clK_cons, if_pos rfl]
  simp; omega
theorem ClR.esc (h : ClR r j) (hd : r.drop j = 92 :: t) : ClR r (j + 2) := by
  unfold ClR at h ⊢
  rw [h, hd, clK_cons, if_neg (by decide), if_pos rfl, Option.map_map]
  rw [show j + 2 = j + (1 + 1) by omega, ← List.drop_drop, hd]
  rw [show (92 :: t).drop (1 + 1) = t.drop 1 from rfl]
  congr 1
  funext x
  simp only [Function.comp]
  omega
theorem ClR.plain (h : ClR r j) (hd : r.drop j = c :: t) (h1 : c ≠ 34) (h2 : c ≠ 92) : ClR r (j + 1) := by
  unfold ClR at h ⊢
  rw [h, hd, clK_cons, if_neg h1, if_neg h2, Option.map_map, ← List.drop_drop, hd]
  rw [show (c :: t).drop 1 = t from rfl]
  congr 1
  funext x
  simp only [Function.comp]
  omega
end
/-- what quoted answers of a text behind its opening quote -/
def qdK (r : List UInt8) : Int × ByteArray := match clK r with
  | some k => if uqE (34 :: r.take k) = 0 then ((k : Int) + 1, uqS (34 :: r.take k)) else (-1, ⟨#[]⟩)
  | none => (-1, ⟨#[]⟩)
theorem qdK_none {r : List UInt8} (h : clK r = none) : qdK r = (-1, ⟨#[]⟩) := by unfold qdK; rw [h]
theorem qdK_bad {r : List UInt8} {k : Nat} (h : clK r = some k) (he : uqE (34 :: r.take k) ≠ 0) : qdK r = (-1, ⟨#[]⟩) := by unfold qdK; rw [h]; exact if_neg he
theorem qdK_ok {r : List UInt8} {k : Nat} (h : clK r = some k) (he : uqE (34 :: r.take k) = 0) : qdK r = ((k : Int) + 1, uqS (34 :: r.take k)) := by unfold qdK; rw [h]; exact if_pos he
theorem u8ne {c d : UInt8} (h : c ≠ d) : ((c.toNat : Int) == (d.toNat : Int)) = false := by
  rw [beq_eq_false_iff_ne]; intro e; exact h (UInt8.toNat_inj.1 (by omega))
set_option maxRecDepth 100000 in
set_option maxHeartbeats 4000000 in
theorem quoted_ (s : ByteArray) (r : List UInt8) (hL : s.data.toList = 34 :: r) (hs : s.size ≤ 1000000) (n : Int) (t : ByteArray) (hq : Hid (qdK r = (n, t))) (w : World) (hE : Esc w) :
    Calls Tryz.prog 64 #[.string s] w fun e w' => e = .returned (.tuple #[.int .i64 n, .string t]) ∧ Below w.heap.size w w' := by
  have hsz : s.size = r.length + 1 := by have : s.data.toList.length = s.size := by simp
                                         rw [← this, hL]; rfl
  have HL := Lib.hid hL
  have HE := Lib.hid hE
  have Hsz := Lib.hid hsz
  clear hL hE hsz
  go_enter Tryz.func64, Tryz.ntmps64
  go_wp2
  go_loop [4] (fun i => ∃ j : Nat, j ≤ s.size ∧ i = .int .i64 ((j : Int) + 1) ∧ Hid (ClR r j)) (fun i => s.size + 1 - (intOf i).toNat)
  case atStart => exact ⟨0, Nat.zero_le _, rfl, Lib.hid (ClR.start r)⟩
  case round =>
    obtain ⟨j, hj, rfl, hc⟩ := hrel
    by_cases hlt : j + 1 < s.size
    case neg =>
      have i1 : ¬ ((j : Int) + 1 < (s.size : Int)) := by omega
      have HQ := Lib.hid (show (n, t) = (-1, ⟨#[]⟩) by rw [← hq.out]; exact qdK_none (hc.out.over (by have := Hsz.out; omega)))
      clear hc hlt
      go_wp2
      go_ret2
      obtain ⟨rfl, rfl⟩ := Prod.mk.inj HQ.out
      exact ⟨rfl, Below.refl _ _⟩
    have i1 : (j : Int) + 1 < (s.size : Int) := by omega
    have hd : r.drop j = s[j + 1] :: r.drop (j + 1) := by
      have := dropB s (j + 1) hlt
      rw [HL.out] at this
      exact this
    by_cases h92 : s[j + 1] = 92
    · have m1 : ((s[j + 1].toNat : Int) == 92) = true := by rw [h92]; rfl
      rw [h92] at hd
      have HC := Lib.hid (hc.out.esc hd)
      clear hc h92 hd
      go_wp2
      go_round
      case rel => exact ⟨j + 2, by omega, by go_num, HC⟩
      case measure => (simp [intOf]) <;> omega
    have m1 : ((s[j + 1].toNat : Int) == 92) = false := u8ne h92
    by_cases h34 : s[j + 1] = 34
    case neg =>
      have m2 : ((s[j + 1].toNat : Int) == 34) = false := u8ne h34
      have HC := Lib.hid (hc.out.plain hd h34 h92)
      clear hc h92 hd h34
      go_wp2
      go_round
      case rel => exact ⟨j + 1, by omega, by go_num, HC⟩
      case measure => (simp [intOf]) <;> omega
    have m2 : ((s[j + 1].toNat : Int) == 34) = true := by rw [h34]; rfl
    rw [h34] at hd
    have hk := hc.out.hit hd
    have hx : (s.extract 0 (j + 1 + 1)).data.toList = 34 :: r.take (j + 1) := by
      rw [ByteArray.data_extract, Array.toList_extract, HL.out]
      simp [List.extract]
    have HU := Lib.hid (fun W (hW : Esc W) => unquoteW (s.extract 0 (j + 1 + 1)) W hW (by rw [ByteArray.size_extract]; omega))
    rw [hx] at HU
    by_cases he : uqE (34 :: r.take (j + 1)) = 0
    · have HQ := Lib.hid (show (n, t) = (((j + 1 : Nat) : Int) + 1, uqS (34 :: r.take (j + 1))) by rw [← hq.out]; exact qdK_ok hk he)
      rw [he] at HU
      generalize uqS (34 :: r.take (j + 1)) = u at *
      clear hc h92 hd h34 hk hx he
      go_wp2_with fail
      (with_reducible refine (HU.out _ HE.out).mono ?_); rintro e w1 ⟨rfl, hb1⟩
      go_wp2
      go_ret2
      obtain ⟨rfl, rfl⟩ := Prod.mk.inj HQ.out
      exact ⟨rfl, hb1⟩
    · have HQ := Lib.hid (show (n, t) = (-1, ⟨#[]⟩) by rw [← hq.out]; exact qdK_bad hk he)
      have e1 : (uqE (34 :: r.take (j + 1)) != 0) = true := by simpa using he
      generalize uqE (34 :: r.take (j + 1)) = ue at *
      generalize uqS (34 :: r.take (j + 1)) = u at *
      clear hc h92 hd h34 hk hx he
      go_wp2_with fail
      (with_reducible refine (HU.out _ HE.out).mono ?_); rintro e w1 ⟨rfl, hb1⟩
      go_wp2
      go_ret2
      obtain ⟨rfl, rfl⟩ := Prod.mk.inj HQ.out
      exact ⟨rfl, hb1⟩
end Go.Proofs.YtcopnpllaoahaaaGreatDoor
namespace Go.Proofs.YtcopnpllaoahaaaGreatDoor
open Go.RowKit
/-- a token: kind, from, to, number, string, set -/
abbrev tkV (K F T N : Int) (S : ByteArray) (f : Nat → Bool) : Value := .agg #[.int .i64 K, .int .i64 F, .int .i64 T, .int .i64 N, .string S, .int .u64 ((wK f 0 : Nat) : Int), .int .u64 ((wK f 1 : Nat) : Int), .int .u64 ((wK f 2 : Nat) : Int), .int .u64 ((wK f 3 : Nat) : Int)]
abbrev tkO (K F T N : Int) (S : ByteArray) (f : Nat → Bool) : Obj := .cells #[.int .i64 K, .int .i64 F, .int .i64 T, .int .i64 N, .string S, .int .u64 ((wK f 0 : Nat) : Int), .int .u64 ((wK f 1 : Nat) : Int), .int .u64 ((wK f 2 : Nat) : Int), .int .u64 ((wK f 3 : Nat) : Int)] 58 (0, 0)
abbrev tk0O : Obj := .cells #[.int .i64 0, .int .i64 0, .int .i64 0, .int .i64 0, .string ⟨#[]⟩, .int .u64 0, .int .u64 0, .int .u64 0, .int .u64 0] 58 (0, 0)
theorem tk0_eq : tk0O = tkO 0 0 0 0 ⟨#[]⟩ fun _ => false := by unfold tkO; rw [wK_no, wK_no, wK_no, wK_no]; rfl
theorem bx9 {w : World} {g : Nat} {a b c d e f h i j : Value} {t : TypeId} (hh : w.heap[g]? = some (.cells #[a, b, c, d, e, f, h, i, j] t (0, 0))) :
    (w.cell? ⟨g, 0, none⟩ = some a ∧ w.cell? ⟨g, 1, none⟩ = some b ∧ w.cell? ⟨g, 2, none⟩ = some c ∧ w.cell? ⟨g, 3, none⟩ = some d ∧ w.cell? ⟨g, 4, none⟩ = some e ∧ w.cell? ⟨g, 5, none⟩ = some f ∧ w.cell? ⟨g, 6, none⟩ = some h ∧ w.cell? ⟨g, 7, none⟩ = some i ∧ w.cell? ⟨g, 8, none⟩ = some j) ∧
    (w.frozen? ⟨g, 0, none⟩ = false ∧ w.frozen? ⟨g, 1, none⟩ = false ∧ w.frozen? ⟨g, 2, none⟩ = false ∧ w.frozen? ⟨g, 3, none⟩ = false ∧ w.frozen? ⟨g, 4, none⟩ = false ∧ w.frozen? ⟨g, 5, none⟩ = false ∧ w.frozen? ⟨g, 6, none⟩ = false ∧ w.frozen? ⟨g, 7, none⟩ = false ∧ w.frozen? ⟨g, 8, none⟩ = false) ∧ g < w.heap.size :=
  ⟨⟨Lib.cell_of_heap hh 0, Lib.cell_of_heap hh 1, Lib.cell_of_heap hh 2, Lib.cell_of_heap hh 3, Lib.cell_of_heap hh 4, Lib.cell_of_heap hh 5, Lib.cell_of_heap hh 6, Lib.cell_of_heap hh 7, Lib.cell_of_heap hh 8⟩,
    ⟨Lib.frozen_of_heap hh 0, Lib.frozen_of_heap hh 1, Lib.frozen_of_heap hh 2, Lib.frozen_of_heap hh 3, Lib.frozen_of_heap hh 4, Lib.frozen_of_heap hh 5, Lib.frozen_of_heap hh 6, Lib.frozen_of_heap hh 7, Lib.frozen_of_heap hh 8⟩, heap_lt hh⟩
theorem bx1 {w : World} {g : Nat} {a : Value} {t : TypeId} (h : w.heap[g]? = some (.cells #[a] t (0, 0))) : w.cell? ⟨g, 0, none⟩ = some a ∧ w.frozen? ⟨g, 0, none⟩ = false ∧ g < w.heap.size :=
  ⟨Lib.cell_of_heap h 0, Lib.frozen_of_heap h 0, heap_lt h⟩
theorem takeW_self {p : UInt8 → Bool} : ∀ (l : List UInt8), (∀ c ∈ l, p c = true) → l.takeWhile p = l
  | [], _ => rfl
  | c :: t, h => by rw [List.takeWhile_cons, if_pos (h c List.mem_cons_self), takeW_self t fun d hd => h d (List.mem_cons_of_mem _ hd)]
theorem wd_cut (l : List UInt8) : (Lib.cut l [32]).1 = wdK l := by
  rcases cut_cases 32 l with ⟨h, e⟩ | ⟨a, t, rfl, h, e⟩
  · rw [e]
    unfold wdK
    exact (takeW_self _ fun c hc => by have h9 : c ≠ 32 := by { rintro rfl; exact h hc }; simpa using h9).symm
  · rw [e, wd_app _ _ (.inr rfl)]
    unfold wdK
    exact (takeW_self _ fun c hc => by have h9 : c ≠ 32 := by { rintro rfl; exact h hc }; simpa using h9).symm
theorem cutS (s : ByteArray) (w : World) (hM : ML w) (hs : s.size ≤ 1000000) (u : ByteArray) (hu : Hid ((⟨(wdK s.data.toList).toArray⟩ : ByteArray) = u)) :
    Calls Tryz.prog 61 #[.string s, .string ⟨#[32]⟩] w fun e w' => (∃ a b, e = .returned (.tuple #[.string u, .string a, .bool b])) ∧ Below w.heap.size w w' := by
  obtain ⟨m, hm⟩ := hM
  refine (Tryz.strings_Cut s ⟨#[32]⟩ m w (by omega) hm).mono ?_
  rintro e w' ⟨rfl, n, rfl⟩
  refine ⟨⟨⟨(Lib.cut s.data.toList [32]).2.1.toArray⟩, (Lib.cut s.data.toList [32]).2.2, ?_⟩, drewN_below _ _⟩
  rw [← hu.out, ← wd_cut]
theorem gnew {W W2 : World} {g R i : Nat} {v : Value} (h : W.grownBy W2 (some g)) (hR : W.heap.size ≤ R) : W.grownBy (W2.setCell ⟨R, i, none⟩ v) (some g) :=
  h.andThen (grownSet W2 R i v) (fun j e => .inl (by injection e with e; omega))
/-- the closure done: kind and end of the token -/
def DoneR (w W : World) (g : Nat) (K F T N : Int) (S : ByteArray) (f : Nat → Bool) (e : Ending) (w' : World) : Prop :=
  e = .returned (.tuple #[tkV K F T N S f, .int .i64 0, .bool true]) ∧ Below w.heap.size w w' ∧ W.grownBy w' (some g) ∧ w'.heap[g]? = some (tkO K F T N S f)
set_option maxRecDepth 100000 in
set_option maxHeartbeats 4000000 in
theorem done_ (w W : World) (g0 g : Nat) (K0 F T0 N : Int) (S : ByteArray) (f : Nat → Bool) (hb : Below w.heap.size w W) (hg : w.heap.size ≤ g) (h0 : W.heap[g0]? = some (.cells #[.int .i64 F] 3 (0, 0))) (hne : g0 ≠ g) (h1 : W.heap[g]? = some (tkO K0 F T0 N S f)) (K n : Int)
    (hF : 0 ≤ F ∧ F ≤ 1000000) (hn : 0 ≤ n ∧ n ≤ 1000000) :
    Calls Tryz.prog 60 #[.int .i64 K, .int .i64 n, .pointer (some ⟨g0, 0, none⟩), .pointer (some ⟨g, 0, none⟩)] W (DoneR w W g K F (F + n) N S f) := by
  obtain ⟨hF0, hF1⟩ := hF
  obtain ⟨hn0, hn1⟩ := hn
  have i1 : IntKind.i64.wrap (F + n) = F + n := IntWalk.i64_in _ (by omega)
  have hal := World.grownBy_alloc W tk0O (some g)
  have hF0 : Fr w [(g, tkO K0 F T0 N S f), (g0, .cells #[.int .i64 F] 3 (0, 0))] (W.alloc tk0O) := ((Fr.nil hb).cons h0 |>.cons h1).al _
  have hr0 : (W.alloc tk0O).heap[W.heap.size]? = some tk0O := alloc1_new _ _
  have hgs := heap_lt h1
  obtain ⟨R, hR⟩ : ∃ R, R = W.heap.size := ⟨_, rfl⟩
  have hgR : g ≠ R := by omega
  have hRw : w.heap.size ≤ R := by have := hb.size; omega
  rw [← hR] at hr0
  have HR := Lib.hid hR
  have Hal := Lib.hid hal
  clear h0 h1 hb hR hal
  go_enter Tryz.func60, Tryz.ntmps60
  go_upto_region 1 with fail
  rw [← HR.out]
  generalize W.alloc tk0O = W1 at *
  obtain ⟨a0, _, l0⟩ := bx1 (hF0.at (g := g0) (o := .cells #[.int .i64 F] 3 (0, 0)) (by simp))
  obtain ⟨⟨c0, c1, c2, c3, c4, c5, c6, c7, c8⟩, ⟨f0, f1, f2, f3, f4, f5, f6, f7, f8⟩, l1⟩ := bx9 (hF0.at (g := g) (o := tkO K0 F T0 N S f) (by simp))
  obtain ⟨⟨r0, r1, r2, r3, r4, r5, r6, r7, r8⟩, ⟨q0, q1, q2, q3, q4, q5, q6, q7, q8⟩, l2⟩ := bx9 hr0
  go_region
  have hF2 : Fr w [(g, tkO K F (F + n) N S f), (g0, .cells #[.int .i64 F] 3 (0, 0))] ((W1.setCell ⟨g, 0, none⟩ (.int .i64 K)).setCell ⟨g, 2, none⟩ (.int .i64 (F + n))).drew := by
    have := ((hF0.set hg (by simpa using hne) 0 (.int .i64 K)).set hg (by simpa using hne) 2 (.int .i64 (F + n))).drew
    simpa using this
  have hG2 : W.grownBy ((W1.setCell ⟨g, 0, none⟩ (.int .i64 K)).setCell ⟨g, 2, none⟩ (.int .i64 (F + n))).drew (some g) := by
    have := (Hal.out.trans (grownSet W1 g 0 (.int .i64 K))).trans (grownSet _ g 2 (.int .i64 (F + n)))
    exact ⟨this.os, this.tape, this.output, this.size, this.block⟩
  have hr2 : ((W1.setCell ⟨g, 0, none⟩ (.int .i64 K)).setCell ⟨g, 2, none⟩ (.int .i64 (F + n))).drew.heap[R]? = some tk0O := set_blk (set_blk hr0 _ _ hgR) _ _ hgR
  clear hF0 a0 l0 c0 c1 c2 c3 c4 c5 c6 c7 c8 f0 f1 f2 f3 f4 f5 f6 f7 f8 l1 r0 r1 r2 r3 r4 r5 r6 r7 r8 q0 q1 q2 q3 q4 q5 q6 q7 q8 l2 Hal hr0
  generalize ((W1.setCell ⟨g, 0, none⟩ (.int .i64 K)).setCell ⟨g, 2, none⟩ (.int .i64 (F + n))).drew = W2 at *
  have ht2 := hF2.at (g := g) (o := tkO K F (F + n) N S f) (by simp)
  obtain ⟨⟨c0, c1, c2, c3, c4, c5, c6, c7, c8⟩, _, l1⟩ := bx9 ht2
  obtain ⟨⟨r0, r1, r2, r3, r4, r5, r6, r7, r8⟩, ⟨q0, q1, q2, q3, q4, q5, q6, q7, q8⟩, l2⟩ := bx9 hr2
  have HF2 := Lib.hid hF2
  have HG2 := Lib.hid hG2
  have Ht2 := Lib.hid ht2
  clear hF2 hG2 ht2
  go_wp2
  refine bodyPost_ret (v := .tuple #[tkV K F (F + n) N S f, .int .i64 0, .bool true]) (by simp [results, go_sem, r0, r1, r2, r3, r4, r5, r6, r7, r8]) rfl ⟨rfl, ?_, ?_, ?_⟩
  · have hB := HF2.out.bel
    repeat' (first | with_reducible exact hB | with_reducible refine bs ?_ ?_ | (simp only; done) | (simp only; omega))
  · have hG := HG2.out
    have hRW : W.heap.size ≤ R := Nat.le_of_eq HR.out.symm
    repeat' (first | with_reducible exact hG | with_reducible exact hRW | with_reducible refine gnew ?_ ?_)
  · have hT := Ht2.out
    repeat' (first | with_reducible exact hT | with_reducible refine set_blk ?_ _ _ ?_ | (simp only; exact hgR.symm))
/-- the closure digit -/
def dgAt (x : ByteArray) (k : Nat) : Bool := match x.data.toList.drop k with
  | [] => false
  | c :: _ => dgK c
set_option maxHeartbeats 1000000 in
theorem digit_ (x : ByteArray) (k : Nat) (W : World) (g : Nat) (hc : W.cell? ⟨g, 0, none⟩ = some (.string x)) (b : Bool) (hb : Hid (dgAt x k = b)) :
    Calls Tryz.prog 65 #[.int .i64 (k : Int), .pointer (some ⟨g, 0, none⟩)] W fun e w' => e = .returned (.bool b) ∧ W = w' := by
  have hb1 := hb.out
  unfold dgAt at hb1
  by_cases hlt : k < x.size
  case neg =>
    have i1 : ¬ ((k : Int) < (x.size : Int)) := by omega
    have HB := Lib.hid (show b = false by rw [← hb1, List.drop_of_length_le (by simp; omega)])
    clear hb1 hlt hb
    go_enter Tryz.func65, Tryz.ntmps65
    go_wp2
    go_ret
    exact ⟨by rw [HB.out]; rfl, rfl⟩
  have i1 : (k : Int) < (x.size : Int) := by omega
  rw [dropB x k hlt] at hb1
  simp only at hb1
  unfold dgK at hb1
  have hc8 : x[k].toNat < 256 := x[k].toNat_lt
  by_cases h48 : 48 ≤ x[k].toNat
  · have i2 : IntKind.u8.wrap ((x[k].toNat : Int) - 48) = (x[k].toNat : Int) - 48 := by simp [IntKind.wrap, IntKind.bits, IntKind.signed]; omega
    by_cases h57 : x[k].toNat ≤ 57
    · have i3 : (x[k].toNat : Int) - 48 < 10 := by omega
      have HB := Lib.hid (show b = true by rw [← hb1]; simp; omega)
      clear hb1 hb h48 h57
      go_enter Tryz.func65, Tryz.ntmps65
      go_wp2
      go_ret
      exact ⟨by rw [HB.out]; rfl, rfl⟩
    · have i3 : ¬ ((x[k].toNat : Int) - 48 < 10) := by omega
      have HB := Lib.hid (show b = false by rw [← hb1]; simp; omega)
      clear hb1 hb h48 h57
      go_enter Tryz.func65, Tryz.ntmps65
      go_wp2
      go_ret
      exact ⟨by rw [HB.out]; rfl, rfl⟩
  · have i2 : IntKind.u8.wrap ((x[k].toNat : Int) - 48) = (x[k].toNat : Int) + 208 := by simp [IntKind.wrap, IntKind.bits, IntKind.signed]; omega
    have i3 : ¬ ((x[k].toNat : Int) + 208 < 10) := by omega
    have HB := Lib.hid (show b = false by rw [← hb1]; simp; omega)
    clear hb1 hb h48
    go_enter Tryz.func65, Tryz.ntmps65
    go_wp2
    go_ret
    exact ⟨by rw [HB.out]; rfl, rfl⟩
theorem digit0 (x : ByteArray) (W : World) (g : Nat) (hc : W.cell? ⟨g, 0, none⟩ = some (.string x)) (b : Bool) (hb : Hid (dgAt x 0 = b)) :
    Calls Tryz.prog 65 #[.int .i64 0, .pointer (some ⟨g, 0, none⟩)] W fun e w' => e = .returned (.bool b) ∧ W = w' := digit_ x 0 W g hc b hb
theorem digit9 (x : ByteArray) (W : World) (g : Nat) (hc : W.cell? ⟨g, 0, none⟩ = some (.string x)) (b : Bool) (hb : Hid (dgAt x 9 = b)) :
    Calls Tryz.prog 65 #[.int .i64 9, .pointer (some ⟨g, 0, none⟩)] W fun e w' => e = .returned (.bool b) ∧ W = w' := digit_ x 9 W g hc b hb
end Go.Proofs.YtcopnpllaoahaaaGreatDoor
