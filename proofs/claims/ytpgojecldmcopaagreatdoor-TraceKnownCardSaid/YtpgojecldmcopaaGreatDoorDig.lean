/- Decimal forms: words.Digits. words: plain words of lists of numbers. No condition. Small decimal forms. No condition. words: Digits of the reference. No condition. Pieces of a string, byte by byte: plain laws. No condition. -/
import Derived.Test.YtpgojecldmcopaaGreatDoorMem
import Derived.Test.YtpgojecldmcopaaGreatDoorShelf
import Derived.Lib.ItoaLen
import Derived.WalkSmall
import Derived.RegionTactic
import Derived.Deep.RegionHeld3
import Derived.Test.YtpgojecldmcopaaGreatDoorPt
namespace Go.Proofs.YtpgojecldmcopaaGreatDoor
open Go.RowKit
/-- the table of powers of ten is as laid -/
def Pow (w : World) : Prop := Lib.TabIs Tryz.prog w "internal/strconv.uint64pow10" .u64 Lib.pow10Tab
theorem pow_global : Tryz.prog.globalNamed "internal/strconv.uint64pow10" = some 1 := by kernel_rfl
theorem var_lt {P : Program} {w : World} {n : String} {g : Nat} {cs : Array Value} (hg : P.globalNamed n = some g) (h : w.var? P n = some cs) : g < w.heap.size := by
  unfold World.var? at h
  simp only [hg, Option.bind_some] at h
  rcases Nat.lt_or_ge g w.heap.size with h' | h'
  · exact h'
  · rw [Array.getElem?_eq_none h'] at h; simp at h
theorem Pow.below {w0 w : World} (h : Pow w0) (hb : Below w0.heap.size w0 w) : Pow w := var?_below hb pow_global (var_lt pow_global h) h
theorem Pow.drew {w : World} (h : Pow w) : Pow w.drew := h
theorem grow_below (w : World) (k : Nat) (os : Array Obj) : Below w.heap.size w (Sort.grow (w.drewN k) os) := by
  refine ⟨rfl, rfl, rfl, ?_, fun b hb => ?_⟩
  · show w.heap.size ≤ (w.heap ++ os).size
    rw [Array.size_append]; omega
  · show (w.heap ++ os)[b]? = w.heap[b]?
    rw [Array.getElem?_append_left hb]
abbrev Dg (n : Int) : ByteArray := ⟨(Lib.itoa n).toArray⟩
theorem Dg_size (n : Int) (h0 : -9223372036854775808 ≤ n) (h1 : n ≤ 9223372036854775807) : (Dg n).size ≤ 21 := by
  show (Lib.itoa n).toArray.size ≤ 21
  rw [List.size_toArray]
  exact Lib.itoa_length_le n h0 h1
set_option maxRecDepth 100000 in
theorem digits_ (n : Int) (x : ByteArray) (hx : Hid (x = Dg n)) (h0 : -9223372036854775808 ≤ n) (h1 : n ≤ 9223372036854775807) (w : World) (hP : Pow w) :
    Calls Tryz.prog 23 #[.int .i64 n] w fun e w' => e = .returned (.string x) ∧ Below w.heap.size w w' := by
  have hP' : Lib.TabIs Tryz.prog w "internal/strconv.uint64pow10" .u64 Lib.pow10Tab := hP
  go_enter Tryz.func23, Tryz.ntmps23
  go_wp2_with fail
  (with_reducible refine (Tryz.strconv_FormatInt_10 n h0 h1 w hP').mono ?_); rintro e w' ⟨rfl, k, os, rfl⟩
  go_wp2
  go_ret
  exact ⟨by rw [hx.out]; rfl, grow_below _ _ _⟩
end Go.Proofs.YtpgojecldmcopaaGreatDoor
namespace Go.Proofs.YtpgojecldmcopaaGreatDoor
open Go.RowKit
--BEGIN
def dgL (n : Int) : List UInt8 := Lib.itoa n
/-- how many numbers go on behind a without a gap -/
def runN (a : Int) : List Int → Nat
  | [] => 0
  | x :: r => if x = a + 1 then runN x r + 1 else 0
theorem runN_le (l : List Int) : ∀ a, runN a l ≤ l.length := by
  induction l with
  | nil => intro a; exact Nat.le_refl _
  | cons x r ih =>
    intro a
    unfold runN
    have := ih x
    split <;> simp <;> omega
def runTx (out : List UInt8) (a : Int) (m : Nat) : List UInt8 := out ++ (if out = [] then [] else [44]) ++ dgL a ++ (if m = 0 then [] else 45 :: dgL (a + m))
def lsT : Nat → List UInt8 → List Int → List UInt8
  | 0, out, _ => out
  | _ + 1, out, [] => out
  | n + 1, out, a :: r => lsT n (runTx out a (runN a r)) (r.drop (runN a r))
theorem lsT_fuel : ∀ (n k : Nat) (out : List UInt8) (l : List Int), l.length ≤ n → l.length ≤ k → lsT n out l = lsT k out l := by
  intro n
  induction n with
  | zero =>
    intro k out l h _
    cases l with
    | nil => cases k <;> rfl
    | cons x r => simp at h
  | succ n ih =>
    intro k out l h h2
    cases l with
    | nil => cases k <;> rfl
    | cons x r =>
      obtain ⟨k, rfl⟩ : ∃ k', k = k' + 1 := ⟨k - 1, by simp at h2; omega⟩
      simp only [lsT]
      exact ih _ _ _ (by simp at h ⊢; omega) (by simp at h2 ⊢; omega)
/-- the text of the rest behind what is written -/
def lsL (out : List UInt8) (l : List Int) : List UInt8 := lsT l.length out l
theorem lsL_nil (out : List UInt8) : lsL out [] = out := rfl
theorem lsL_cons (out : List UInt8) (a : Int) (r : List Int) : lsL out (a :: r) = lsL (runTx out a (runN a r)) (r.drop (runN a r)) := by
  show lsT (r.length + 1) out (a :: r) = _
  simp only [lsT]
  exact lsT_fuel _ _ _ _ (by simp) (Nat.le_refl _)
def ascB : List Int → Bool
  | a :: b :: r => decide (a < b) && ascB (b :: r)
  | _ => true
def rngB (l : List Int) : Bool := l.all fun x => decide (0 ≤ x ∧ x ≤ 1000000000)
def listL (l : List Int) : List UInt8 × Int :=
  if 500 < l.length then ([], 3) else if rngB l = false then ([], 7) else if ascB l = false then ([], 6) else if l = [] then ([45], 0) else (lsL [] l, 0)
theorem ascB_snoc (l : List Int) (y x : Int) : ascB (l ++ [y] ++ [x]) = (ascB (l ++ [y]) && decide (y < x)) := by
  induction l with
  | nil => simp [ascB]
  | cons a r ih =>
    cases r with
    | nil => simp [ascB]
    | cons b t =>
      simp only [List.cons_append, ascB] at ih ⊢
      rw [ih, Bool.and_assoc]
theorem ascB_one (l : List Int) (h : l.length ≤ 1) : ascB l = true := by
  match l with
  | [] => rfl
  | [_] => rfl
  | _ :: _ :: _ => simp at h
/-- the step of the test at place k -/
theorem ascB_take {l : List Int} {k : Nat} {y x : Int} (hk : l[k]? = some y) (hk1 : l[k + 1]? = some x) : ascB (l.take (k + 2)) = (ascB (l.take (k + 1)) && decide (y < x)) := by
  have h1 : l.take (k + 1) = l.take k ++ [y] := by rw [List.take_add_one, hk]; rfl
  have h2 : l.take (k + 2) = l.take k ++ [y] ++ [x] := by rw [List.take_add_one, hk1, h1]; rfl
  rw [h2, h1, ascB_snoc]
theorem ascB_mono {l : List Int} {k : Nat} (h : ascB l = true) : ascB (l.take k) = true := by
  induction l generalizing k with
  | nil => simp [ascB]
  | cons a r ih =>
    cases k with
    | zero => rfl
    | succ k =>
      cases r with
      | nil => simp [ascB]
      | cons b t =>
        cases k with
        | zero => rfl
        | succ k =>
          simp only [ascB, Bool.and_eq_true] at h
          have := ih (k := k + 1) h.2
          simp only [List.take_succ_cons, ascB] at this ⊢
          rw [h.1, this]; rfl
theorem rngB_at {l : List Int} (h : rngB l = true) {k : Nat} {x : Int} (hk : l[k]? = some x) : 0 ≤ x ∧ x ≤ 1000000000 := by
  have := List.all_eq_true.1 h x (List.mem_of_getElem? hk)
  simpa using this
theorem rngB_no {l : List Int} {k : Nat} {x : Int} (hk : l[k]? = some x) (hx : ¬ (0 ≤ x ∧ x ≤ 1000000000)) : rngB l = false := by
  unfold rngB
  rw [List.all_eq_false]
  exact ⟨x, List.mem_of_getElem? hk, by simpa using hx⟩
theorem rngB_step {l : List Int} {k : Nat} {x : Int} (h : rngB (l.take k) = true) (hk : l[k]? = some x) (hx : 0 ≤ x ∧ x ≤ 1000000000) : rngB (l.take (k + 1)) = true := by
  unfold rngB at h ⊢
  rw [List.take_add_one, hk, List.all_append, h]
  simp [hx]
/-- m numbers go on behind the one at place q -/
def RunAt (l : List Int) (q m : Nat) (a : Int) : Prop := l[q]? = some a ∧ q + m < l.length ∧ l[q + m]? = some (a + m) ∧ runN a (l.drop (q + 1)) = m + runN (a + m) (l.drop (q + m + 1))
theorem RunAt.start {l : List Int} {q : Nat} {a : Int} (h : l[q]? = some a) : RunAt l q 0 a := by
  have := (List.getElem?_eq_some_iff.1 h).1
  exact ⟨h, by omega, by simpa using h, by simp⟩
theorem RunAt.next {l : List Int} {q m : Nat} {a : Int} (h : RunAt l q m a) {x : Int} (hx : l[q + m + 1]? = some x) (he : x = a + m + 1) : RunAt l q (m + 1) a := by
  subst he
  have hl := (List.getElem?_eq_some_iff.1 hx).1
  obtain ⟨h1, h2, h3, h4⟩ := h
  refine ⟨h1, by omega, ?_, ?_⟩
  · have e : q + (m + 1) = q + m + 1 := by omega
    rw [e, hx]; congr 1; push_cast; omega
  · rw [h4]
    have hd : l.drop (q + m + 1) = (a + m + 1) :: l.drop (q + m + 2) := by
      rw [List.drop_eq_getElem_cons hl, (List.getElem?_eq_some_iff.1 hx).2]
    rw [hd]
    have e : q + (m + 1) + 1 = q + m + 2 := by omega
    rw [e]
    conv => lhs; unfold runN
    rw [if_pos rfl]
    have e2 : a + (m : Int) + 1 = a + ((m + 1 : Nat) : Int) := by push_cast; omega
    rw [e2]
    omega
theorem RunAt.stop {l : List Int} {q m : Nat} {a : Int} (h : RunAt l q m a) (hx : ∀ x, l[q + m + 1]? = some x → x ≠ a + m + 1) : runN a (l.drop (q + 1)) = m := by
  rw [h.2.2.2]
  rcases hd : l[q + m + 1]? with _ | x
  · rw [List.drop_eq_nil_of_le (by simpa using hd)]; rfl
  · have hl := (List.getElem?_eq_some_iff.1 hd).1
    rw [List.drop_eq_getElem_cons hl, (List.getElem?_eq_some_iff.1 hd).2]
    unfold runN
    rw [if_neg (hx x hd)]; rfl
/-- behind a run the text goes on behind it -/
theorem lsL_run {l : List Int} {q m : Nat} {a : Int} {out : List UInt8} (h : RunAt l q m a) (hm : runN a (l.drop (q + 1)) = m) : lsL out (l.drop q) = lsL (runTx out a m) (l.drop (q + m + 1)) := by
  have hl := (List.getElem?_eq_some_iff.1 h.1)
  rw [List.drop_eq_getElem_cons hl.1, hl.2, lsL_cons, hm, List.drop_drop]
  congr 2; omega
theorem runTx_len (out : List UInt8) (a : Int) (m : Nat) (D : Nat) (h1 : (dgL a).length ≤ D) (h2 : (dgL (a + m)).length ≤ D) : (runTx out a m).length ≤ out.length + 2 * D + 2 := by
  unfold runTx
  simp only [List.length_append]
  split <;> split <;> simp <;> omega
theorem runTx_ne (out : List UInt8) (a : Int) (m : Nat) (h : dgL a ≠ []) : runTx out a m ≠ [] := by
  unfold runTx
  intro e
  simp only [List.append_eq_nil_iff] at e
  exact h e.1.2
theorem listL_long {l : List Int} (h : 500 < l.length) : listL l = ([], 3) := if_pos h
theorem listL_rng {l : List Int} (h : ¬ 500 < l.length) (h2 : rngB l = false) : listL l = ([], 7) := by unfold listL; rw [if_neg h, if_pos h2]
theorem listL_asc {l : List Int} (h : ¬ 500 < l.length) (h2 : rngB l = true) (h3 : ascB l = false) : listL l = ([], 6) := by unfold listL; rw [if_neg h, if_neg (by simp [h2]), if_pos h3]
theorem listL_nil : listL [] = ([45], 0) := by decide
theorem listL_ok {l : List Int} (h : ¬ 500 < l.length) (h2 : rngB l = true) (h3 : ascB l = true) (h4 : l ≠ []) : listL l = (lsL [] l, 0) := by unfold listL; rw [if_neg h, if_neg (by simp [h2]), if_neg (by simp [h3]), if_neg h4]
--END
end Go.Proofs.YtpgojecldmcopaaGreatDoor
namespace Go.Proofs.YtpgojecldmcopaaGreatDoor
open Go.RowKit
theorem itoa_one (i : Nat) (h : i < 10) : dgL (i : Int) = [UInt8.ofNat (48 + i)] := by
  unfold dgL; rw [Lib.itoa_nonneg, Lib.decDigits_one h]
end Go.Proofs.YtpgojecldmcopaaGreatDoor
namespace Go.Proofs.YtpgojecldmcopaaGreatDoor
open Go.RowKit
theorem conv1 (W : World) (g : Nat) (x : Int) (d : Nat) (hx : x = (d : Int)) (hd : d < 256) (hg : W.heap[g]? = some (.cells #[.int .u8 x] 5 (0, 0))) :
    (convert 49 9 (.slice (some ⟨g, 0, none⟩) 1 1)).run Tryz.prog W = .ok (.string ⟨#[UInt8.ofNat d]⟩) W := by
  subst hx
  have h1 : (bs8 [UInt8.ofNat d]) = [.int .u8 (d : Int)] := by simp [bs8]; omega
  have hr := reads_blk (cs := [.int .u8 (d : Int)]) hg
  rw [← h1] at hr
  exact run_conv Tryz.underlying49 Tryz.underlying5 Tryz.underlying9 (l := [UInt8.ofNat d]) hr
theorem cf_dig (vs : Array Value) (W : World) : (callFunc 27 vs).run Tryz.prog W = .ok (.enter 27 vs) W := cf_of Tryz.func27 (by kernel_rfl) (by kernel_rfl) vs W
theorem itoa_big (N : Nat) (h : ¬ N < 10) : Lib.itoa (N : Int) = Lib.itoa ((N / 10 : Nat) : Int) ++ [UInt8.ofNat (48 + N % 10)] := by
  rw [Lib.itoa_nonneg, Lib.itoa_nonneg]
  conv => lhs; rw [Lib.decDigits]
  rw [dif_neg h]
theorem Dg_big (N : Nat) (h : ¬ N < 10) : Dg (N : Int) = Dg ((N / 10 : Nat) : Int) ++ ⟨#[UInt8.ofNat (48 + N % 10)]⟩ := by
  apply ByteArray.ext
  apply Array.toList_inj.1
  rw [ByteArray.data_append, Array.toList_append]
  exact itoa_big N h
set_option maxRecDepth 100000 in
set_option maxHeartbeats 2000000 in
theorem rdig_pos : ∀ N : Nat, N ≤ 9223372036854775807 → ∀ w : World,
    Calls Tryz.prog 27 #[.int .i64 (N : Int)] w fun e w' => e = .returned (.string (Dg (N : Int))) ∧ Below w.heap.size w w' := by
  intro N
  induction N using Nat.strongRecOn with
  | _ N ih =>
  intro hN w
  by_cases h9 : N < 10
  · have i1 : ¬ ((9 : Int) < (N : Int)) := by omega
    have i2 : ¬ ((N : Int) < -9) := by omega
    have i3 : ¬ ((N : Int) < 0) := by omega
    have hcv := conv1 (w.alloc (.cells #[.int .u8 (48 + (N : Int))] 5 (0, 0))) w.heap.size (48 + (N : Int)) (48 + N) (by omega) (by omega) (alloc1_new _ _)
    have hD0 : Dg (N : Int) = ⟨#[UInt8.ofNat (48 + N)]⟩ := by show (⟨(Lib.itoa (N : Int)).toArray⟩ : ByteArray) = _; have := itoa_one N h9; unfold dgL at this; rw [this]
    obtain ⟨b8, hb8⟩ : ∃ b8, b8 = UInt8.ofNat (48 + N) := ⟨_, rfl⟩
    rw [← hb8] at hD0 hcv
    have hD := Lib.hid hD0
    clear hb8 hD0
    clear ih
    go_enter Tryz.func27, Tryz.ntmps27
    go_wp2
    go_ret
    exact ⟨ret_str (by rw [hD.out]), ba (Below.refl _ _) _⟩
  · have i1 : (9 : Int) < (N : Int) := by omega
    have ht : Int.tdiv (N : Int) 10 = ((N / 10 : Nat) : Int) := by rfl
    have hm : Int.tmod (N : Int) 10 = ((N % 10 : Nat) : Int) := by rfl
    have hI := Lib.hid (ih (N / 10) (by omega) (by omega))
    have hD := Lib.hid (Dg_big N h9)
    have hm9 : N % 10 < 10 := Nat.mod_lt _ (by omega)
    clear ih
    obtain ⟨m, hmm⟩ : ∃ m, m = N % 10 := ⟨_, rfl⟩
    obtain ⟨q, hqq⟩ : ∃ q, q = N / 10 := ⟨_, rfl⟩
    rw [← hmm] at hm hm9 hD
    rw [← hqq] at ht hI hD
    have i3 : ¬ ((m : Int) < 0) := by omega
    have hq9 : q ≤ N := by omega
    have w1 : IntKind.i64.wrap (q : Int) = (q : Int) := IntWalk.i64_in _ (by omega)
    have w2 : IntKind.i64.wrap (48 + (m : Int)) = 48 + (m : Int) := IntWalk.i64_in _ (by omega)
    have w3 : IntKind.u8.wrap (48 + (m : Int)) = 48 + (m : Int) := IntWalk.u8_in _ (by omega)
    clear hmm hqq
    obtain ⟨b8, hb8⟩ : ∃ b8, b8 = UInt8.ofNat (48 + m) := ⟨_, rfl⟩
    rw [← hb8] at hD
    have hcC : ∀ (W : World) (g : Nat), W.heap[g]? = some (.cells #[.int .u8 (48 + (m : Int))] 5 (0, 0)) → (convert 49 9 (.slice (some ⟨g, 0, none⟩) 1 1)).run Tryz.prog W = .ok (.string ⟨#[b8]⟩) W := fun W g hg => by rw [hb8]; exact conv1 W g (48 + (m : Int)) (48 + m) (by omega) (by omega) hg
    have HcC := Lib.hid hcC
    have hcA := Lib.hid (fun W : World => hcC (W.alloc (.cells #[.int .u8 (48 + (m : Int))] 5 (0, 0))) W.heap.size (alloc1_new _ _))
    have hDs := Dg_size (q : Int) (by omega) (by omega)
    obtain ⟨D, hDD⟩ : ∃ D, D = Dg (q : Int) := ⟨_, rfl⟩
    rw [← hDD] at hDs hD hI
    have j1 : ¬ (9223372036854775807 < D.size + 1) := by omega
    have hcA2 := hcA.out
    have hcD := hcC (w.alloc (.cells #[.int .u8 (48 + (m : Int))] 5 (0, 0))).drew w.heap.size (alloc1_new w _)
    clear hDD hcC hb8
    go_enter Tryz.func27, Tryz.ntmps27
    go_wp2
    go_region_law ((first
      | (refine step_fn1 27 (.int .i64 (q : Int)) cf_dig (hI.out _) ?_; intro e w' hh; obtain ⟨rfl, hb⟩ := hh; (try (have hcB := HcC.out w' w.heap.size (below_blk hb (by simp) (alloc1_new w _)))); refine ⟨_, rfl, ?_⟩)))
    all_goals
      go_wp2
      go_ret
      exact ⟨ret_str (by rw [hD.out]), by first | exact ba (bt (below_drewN' _ 1) hb) _ | exact bt (bd (ba (Below.refl _ _) _) 1) hb⟩
theorem itoa_bigN (N : Nat) (h : ¬ N < 10) : Lib.itoa (-(N : Int)) = Lib.itoa (-((N / 10 : Nat) : Int)) ++ [UInt8.ofNat (48 + N % 10)] := by
  rw [Lib.itoa_neg N (by omega), Lib.itoa_neg (N / 10) (by omega)]
  conv => lhs; rw [Lib.decDigits]
  rw [dif_neg h]; rfl
theorem Dg_bigN (N : Nat) (h : ¬ N < 10) : Dg (-(N : Int)) = Dg (-((N / 10 : Nat) : Int)) ++ ⟨#[UInt8.ofNat (48 + N % 10)]⟩ := by
  apply ByteArray.ext
  apply Array.toList_inj.1
  rw [ByteArray.data_append, Array.toList_append]
  exact itoa_bigN N h
theorem Dg_neg (N : Nat) (h : 1 ≤ N) : Dg (-(N : Int)) = ⟨#[45]⟩ ++ Dg (N : Int) := by
  apply ByteArray.ext
  apply Array.toList_inj.1
  rw [ByteArray.data_append, Array.toList_append]
  show Lib.itoa (-(N : Int)) = [45] ++ Lib.itoa (N : Int)
  rw [Lib.itoa_neg N h, Lib.itoa_nonneg]; rfl
set_option maxRecDepth 100000 in
set_option maxHeartbeats 2000000 in
theorem rdig_neg : ∀ N : Nat, 1 ≤ N → N ≤ 9223372036854775808 → ∀ w : World,
    Calls Tryz.prog 27 #[.int .i64 (-(N : Int))] w fun e w' => e = .returned (.string (Dg (-(N : Int)))) ∧ Below w.heap.size w w' := by
  intro N
  induction N using Nat.strongRecOn with
  | _ N ih =>
  intro hN0 hN w
  by_cases h9 : N < 10
  · have i1 : ¬ ((9 : Int) < -(N : Int)) := by omega
    have i2 : ¬ (-(N : Int) < -9) := by omega
    have i3 : -(N : Int) < 0 := by omega
    have e1 : IntKind.i64.wrap (- -(N : Int)) = (N : Int) := by rw [Int.neg_neg]; exact IntWalk.i64_in _ (by omega)
    have e2 : - -(N : Int) = (N : Int) := Int.neg_neg _
    have hD := Lib.hid (Dg_neg N hN0)
    have hs := Dg_size (N : Int) (by omega) (by omega)
    have hC := Lib.hid (rdig_pos N (by omega))
    obtain ⟨D, hDD⟩ : ∃ D, D = Dg (N : Int) := ⟨_, rfl⟩
    rw [← hDD] at hD hs hC
    have j1 : ¬ (9223372036854775807 < (⟨#[45]⟩ : ByteArray).size + D.size) := by show ¬ (9223372036854775807 < 1 + D.size); omega
    clear ih hDD
    go_enter Tryz.func27, Tryz.ntmps27
    go_wp2_with fail
    (with_reducible refine (hC.out _).mono ?_); rintro e w1 ⟨rfl, hb1⟩
    go_wp2
    go_ret
    exact ⟨ret_str (by rw [hD.out]), hb1⟩
  · have i1 : ¬ ((9 : Int) < -(N : Int)) := by omega
    have i2 : -(N : Int) < -9 := by omega
    have ht : Int.tdiv (-(N : Int)) 10 = -((N / 10 : Nat) : Int) := by rw [Int.neg_tdiv]; rfl
    have hm : Int.tmod (-(N : Int)) 10 = -((N % 10 : Nat) : Int) := by rw [Int.neg_tmod]; rfl
    have hI := Lib.hid (ih (N / 10) (by omega) (by omega) (by omega))
    have hD := Lib.hid (Dg_bigN N h9)
    have hm9 : N % 10 < 10 := Nat.mod_lt _ (by omega)
    clear ih
    obtain ⟨m, hmm⟩ : ∃ m, m = N % 10 := ⟨_, rfl⟩
    obtain ⟨q, hqq⟩ : ∃ q, q = N / 10 := ⟨_, rfl⟩
    rw [← hmm] at hm hm9 hD
    rw [← hqq] at ht hI hD
    have hq9 : q ≤ N := by omega
    have w1 : IntKind.i64.wrap (-(q : Int)) = -(q : Int) := IntWalk.i64_in _ (by omega)
    have w2 : IntKind.i64.wrap (48 + (m : Int)) = 48 + (m : Int) := IntWalk.i64_in _ (by omega)
    have w3 : IntKind.u8.wrap (48 + (m : Int)) = 48 + (m : Int) := IntWalk.u8_in _ (by omega)
    have w5 : IntKind.i64.wrap (- -(m : Int)) = (m : Int) := by rw [Int.neg_neg]; exact IntWalk.i64_in _ (by omega)
    have w6 : - -(m : Int) = (m : Int) := Int.neg_neg _
    clear hmm hqq
    obtain ⟨b8, hb8⟩ : ∃ b8, b8 = UInt8.ofNat (48 + m) := ⟨_, rfl⟩
    rw [← hb8] at hD
    have hcC : ∀ (W : World) (g : Nat), W.heap[g]? = some (.cells #[.int .u8 (48 + (m : Int))] 5 (0, 0)) → (convert 49 9 (.slice (some ⟨g, 0, none⟩) 1 1)).run Tryz.prog W = .ok (.string ⟨#[b8]⟩) W := fun W g hg => by rw [hb8]; exact conv1 W g (48 + (m : Int)) (48 + m) (by omega) (by omega) hg
    have HcC := Lib.hid hcC
    have hcA := Lib.hid (fun W : World => hcC (W.alloc (.cells #[.int .u8 (48 + (m : Int))] 5 (0, 0))) W.heap.size (alloc1_new _ _))
    have hDs := Dg_size (-(q : Int)) (by omega) (by omega)
    obtain ⟨D, hDD⟩ : ∃ D, D = Dg (-(q : Int)) := ⟨_, rfl⟩
    rw [← hDD] at hDs hD hI
    have j1 : ¬ (9223372036854775807 < D.size + 1) := by omega
    have hcA2 := hcA.out
    have hcD := hcC (w.alloc (.cells #[.int .u8 (48 + (m : Int))] 5 (0, 0))).drew w.heap.size (alloc1_new w _)
    clear hDD hcC hb8
    by_cases hm0 : m = 0
    · have i3 : ¬ (-(m : Int) < 0) := by omega
      have w7 : IntKind.i64.wrap (48 + -(m : Int)) = 48 + (m : Int) := by rw [hm0]; rfl
      have hm1 := Lib.hid hm0
      clear hm0
      go_enter Tryz.func27, Tryz.ntmps27
      go_wp2
      go_region_law ((first
        | (refine step_fn1 27 (.int .i64 (-(q : Int))) cf_dig (hI.out _) ?_; intro e w' hh; obtain ⟨rfl, hb⟩ := hh; (try (have hcB := HcC.out w' w.heap.size (below_blk hb (by simp) (alloc1_new w _)))); refine ⟨_, rfl, ?_⟩)))
      all_goals
        go_wp2
        go_ret
        exact ⟨ret_str (by rw [hD.out]), by first | exact ba (bt (below_drewN' _ 1) hb) _ | exact bt (bd (ba (Below.refl _ _) _) 1) hb⟩
    · have i3 : -(m : Int) < 0 := by omega
      go_enter Tryz.func27, Tryz.ntmps27
      go_wp2
      go_region_law ((first
        | (refine step_fn1 27 (.int .i64 (-(q : Int))) cf_dig (hI.out _) ?_; intro e w' hh; obtain ⟨rfl, hb⟩ := hh; (try (have hcB := HcC.out w' w.heap.size (below_blk hb (by simp) (alloc1_new w _)))); refine ⟨_, rfl, ?_⟩)))
      all_goals
        go_wp2
        go_ret
        exact ⟨ret_str (by rw [hD.out]), by first | exact ba (bt (below_drewN' _ 1) hb) _ | exact bt (bd (ba (Below.refl _ _) _) 1) hb⟩
end Go.Proofs.YtpgojecldmcopaaGreatDoor
namespace Go.Proofs.YtpgojecldmcopaaGreatDoor
open Go.RowKit
theorem strE3 : Elem Tryz.prog 68 9 (.string ⟨#[]⟩) 1 16 := ⟨Tryz.underlying68, by kernel_rfl, rfl, by decide⟩
/-- pieces while a string is walked byte by byte -/
def PbRel (d : UInt8) (s : ByteArray) (k : Nat) (U : ByteArray) (out : List ByteArray) : Prop := ptsB d s = out ++ (pts d U.data.toList (s.data.toList.drop k)).map mkB
theorem PbRel.start (d : UInt8) (s : ByteArray) : PbRel d s 0 ⟨#[]⟩ [] := rfl
theorem PbRel.hit {d : UInt8} {s U : ByteArray} {k : Nat} {out : List ByteArray} (h : PbRel d s k U out) (hk : k < s.size) (hc : s[k] = d) : PbRel d s (k + 1) ⟨#[]⟩ (out ++ [U]) := by
  unfold PbRel at h ⊢
  rw [h, dropByte hk, hc, pts_hit, List.map_cons, mkB_back, List.append_assoc]
  rfl
theorem PbRel.other {d : UInt8} {s U : ByteArray} {k : Nat} {out : List ByteArray} (h : PbRel d s k U out) (hk : k < s.size) (hc : s[k] ≠ d) : PbRel d s (k + 1) (U ++ ⟨#[s[k]]⟩) out := by
  unfold PbRel at h ⊢
  rw [h, dropByte hk, pts_other hc, ByteArray.data_append, Array.toList_append]
theorem PbRel.done {d : UInt8} {s U : ByteArray} {k : Nat} {out : List ByteArray} (h : PbRel d s k U out) (hk : s.size ≤ k) : ptsB d s = out ++ [U] := by
  unfold PbRel at h
  have hl : s.data.toList.length = s.size := rfl
  rw [h, List.drop_eq_nil_of_le (by omega)]
  show out ++ [mkB _] = _
  rw [mkB_back]
theorem u8eqJ {c d : UInt8} : ((c.toNat : Int) == (d.toNat : Int)) = decide (c = d) := by
  rw [Bool.eq_iff_iff, beq_iff_eq, decide_eq_true_eq]
  constructor
  · intro h; apply UInt8.toNat_inj.1; omega
  · intro h; subst h; rfl
end Go.Proofs.YtpgojecldmcopaaGreatDoor
