/- Traces' texts: Parse of the program. No condition. -/
import Derived.Test.YtpgojecldmcopaaGreatDoorT22
import Derived.Test.YtpgojecldmcopaaGreatDoorT5
import Derived.Test.YtpgojecldmcopaaGreatDoorMem
import Derived.Deep.DeepCutAuto
import Derived.BigQuiet
import Derived.WalkMore
namespace Go.Proofs.YtpgojecldmcopaaGreatDoor
open Go.RowKit
theorem suf10 (l : List UInt8) : Lib.hasSuffix l [10] = decide (l.getLast? = some 10) := by
  unfold Lib.hasSuffix
  rw [Bool.eq_iff_iff, List.isSuffixOf_iff_suffix, decide_eq_true_eq]
  constructor
  · rintro ⟨t, rfl⟩; simp
  · intro h
    obtain ⟨i, hi⟩ := List.getLast?_eq_some_iff.1 h
    exact ⟨i, hi.symm⟩
theorem trim10 {s : ByteArray} (h : s.data.toList.getLast? = some 10) : (⟨(Lib.trimSuffix s.data.toList [10]).toArray⟩ : ByteArray) = s.extract 0 (s.size - 1) := by
  apply ByteArray.ext
  apply Array.toList_inj.1
  rw [ext_last]
  unfold Lib.trimSuffix
  rw [suf10, if_pos (decide_eq_true h), List.dropLast_eq_take]
  simp
theorem psT_long {s : ByteArray} (h : 1048576 < s.size) : psT s = ([], 0, 3) := by unfold psT; rw [if_pos h]
theorem psT_nil {s : ByteArray} (h : s.size = 0) : psT s = ([], 0, 0) := by unfold psT; rw [if_neg (by omega), if_pos h]
theorem psT_suf {s : ByteArray} (h : s.size ≤ 1048576) (h0 : s.size ≠ 0) (h1 : s.data.toList.getLast? ≠ some 10) : psT s = ([], 0, 6) := by unfold psT; rw [if_neg (by omega), if_neg h0, if_pos h1]
theorem psT_many {s : ByteArray} (h : s.size ≤ 1048576) (h0 : s.size ≠ 0) (h1 : s.data.toList.getLast? = some 10) (h2 : 5000 < s.data.toList.count 10) : psT s = ([], 0, 3) := by
  unfold psT; rw [if_neg (by omega), if_neg h0, if_neg (by simpa using h1), if_pos (by rw [lnS_count h1]; exact h2)]
theorem psT_go {s : ByteArray} (h : s.size ≤ 1048576) (h0 : s.size ≠ 0) (h1 : s.data.toList.getLast? = some 10) (h2 : s.data.toList.count 10 ≤ 5000) : psT s = trF (lnS s) [] 0 := by
  unfold psT; rw [if_neg (by omega), if_neg h0, if_neg (by simpa using h1), if_neg (by rw [lnS_count h1]; omega)]
def RetTr (w : World) (q : List Ev × Nat × Int) (e : Ending) (w' : World) : Prop :=
  ∃ A c, e = .returned (.tuple #[.slice A q.1.length c, .int .i64 (q.2.1 : Int), .int .i64 q.2.2]) ∧ Below w.heap.size w w' ∧ Reads w' w'.heap.size 2 A q.1.length (evs q.1) ∧ q.1.length ≤ c ∧ c ≤ 9223372036854775807
theorem RetTr.no {w w' : World} {q : List Ev × Nat × Int} {n er : Int} {k : Nat} (hn : n = (k : Int)) (hq : q = ([], k, er)) (hb : Below w.heap.size w w') : RetTr w q (.returned (.tuple #[.slice none 0 0, .int .i64 n, .int .i64 er])) w' := by
  subst hq hn; exact ⟨none, 0, rfl, hb, Reads.none_, Nat.le_refl _, by omega⟩
theorem RetTr.yes {w w' : World} {q : List Ev × Nat × Int} {acc : List Ev} {v : Value} {base : Nat} (hq : q = (acc, 0, 0)) (hb : Below w.heap.size w w') (hO : w'.ownsRow base 39 2 v acc.length (evs acc)) : RetTr w q (.returned (.tuple #[v, .int .i64 0, .int .i64 0])) w' := by
  subst hq
  obtain ⟨A, c, rfl, h1, h2, h3⟩ := own_sl hO
  exact ⟨A, c, rfl, hb, h1, h2, h3⟩
/-- the lines so far -/
def TrRel (L : List ByteArray) (k : Nat) (acc : List Ev) : Prop := trF L [] 0 = trF (L.drop k) acc k
theorem TrRel.start (L : List ByteArray) : TrRel L 0 [] := rfl
theorem TrRel.done {L : List ByteArray} {k : Nat} {acc : List Ev} (h : TrRel L k acc) (hk : L.length ≤ k) : trF L [] 0 = (acc, 0, 0) := by
  unfold TrRel at h; rw [h, List.drop_eq_nil_of_le hk]; rfl
section
variable {L : List ByteArray} {k : Nat} {acc : List Ev} {x : ByteArray} {K a : Int} {m : Nat} {er : Int}
theorem TrRel.err (h : TrRel L k acc) (hd : L.drop k = x :: L.drop (k + 1)) (hx : rnL x.data.toList = (((K, a), m), er)) (he : er ≠ 0) : trF L [] 0 = ([], k + 1, er) := by
  unfold TrRel at h; rw [h, hd, trF, hx, if_pos he]
theorem TrRel.big (h : TrRel L k acc) (hd : L.drop k = x :: L.drop (k + 1)) (hx : rnL x.data.toList = (((K, a), m), 0)) (hb : 8388608 < acc.length + m) : trF L [] 0 = ([], k + 1, 3) := by
  unfold TrRel at h; rw [h, hd, trF, hx, if_neg (by simp), if_pos hb]
theorem TrRel.dup (h : TrRel L k acc) (hd : L.drop k = x :: L.drop (k + 1)) (hx : rnL x.data.toList = (((K, a), m), 0)) (hb : ¬ 8388608 < acc.length + m) (hl : acc.getLast? = some (K, a - 1)) : trF L [] 0 = ([], k + 1, 6) := by
  unfold TrRel at h; rw [h, hd, trF, hx, if_neg (by simp), if_neg hb, if_pos hl]
theorem TrRel.step (h : TrRel L k acc) (hd : L.drop k = x :: L.drop (k + 1)) (hx : rnL x.data.toList = (((K, a), m), 0)) (hb : ¬ 8388608 < acc.length + m) (hl : acc.getLast? ≠ some (K, a - 1)) : TrRel L (k + 1) (acc ++ expd K a m) := by
  unfold TrRel at *; rw [h, hd, trF, hx, if_neg (by simp), if_neg hb, if_neg hl]
end
/-- the run of the line before -/
def LastR (acc : List Ev) (K a : Int) (m : Nat) : Prop := (acc = [] ∧ K = 0 ∧ a = 0 ∧ m = 0) ∨ (1 ≤ m ∧ acc.getLast? = some (K, a + m - 1) ∧ 0 ≤ a ∧ a + m ≤ 65536)
theorem LastR.next {acc : List Ev} {K a : Int} {m : Nat} (hm : 1 ≤ m) (h0 : 0 ≤ a) (h1 : a + m ≤ 65536) : LastR (acc ++ expd K a m) K a m :=
  .inr ⟨hm, last_app (expd_last' (x := ((K, a), m)) hm), h0, h1⟩
theorem LastR.dup {acc : List Ev} {K a : Int} {m : Nat} (h : LastR acc K a m) (hm : 1 ≤ m) (K' a' : Int) : acc.getLast? = some (K', a' - 1) ↔ (K = K' ∧ a + m = a') := by
  rcases h with ⟨_, _, _, h⟩ | ⟨_, h, _, _⟩
  · omega
  rw [h]
  constructor
  · intro e; injection e with e; injection e with e1 e2; exact ⟨e1, by omega⟩
  · rintro ⟨rfl, rfl⟩; congr 2
abbrev lnO0 (L : List ByteArray) : Obj := .cells (Ssb L).toArray 9 (0, 0)
theorem split10 (s : ByteArray) (w : World) (hM : ML w) (hs : s.size ≤ 1048576) {L : List ByteArray} (hL : Hid (ptsB 10 s = L)) :
    Calls Tryz.prog 30 #[.string s, .string ⟨#[10]⟩] w fun e w' => e = .returned (.slice (some ⟨w.heap.size, 0, none⟩) L.length L.length) ∧ w' = w.alloc (lnO0 L) := by
  obtain ⟨m, hm⟩ := hM
  obtain ⟨h1, h2⟩ := splitB_pts 10 s
  refine (Tryz.strings_Split s ⟨#[10]⟩ m w (by omega) hm (by show 0 < 1; decide)).mono ?_
  rintro e w' ⟨rfl, rfl⟩
  rw [h1, h2, hL.out]
  exact ⟨rfl, rfl⟩
theorem expd_snoc' (acc : List Ev) (K a : Int) (j : Nat) : acc ++ expd K a (j + 1) = (acc ++ expd K a j) ++ [(K, a + j)] := by rw [expd_snoc, List.append_assoc]
theorem evs_snoc (l : List Ev) (K a : Int) : evs (l ++ [(K, a)]) = evs l ++ [.int .i32 K, .int .i32 a] := flat2_append l [(K, a)]
abbrev PaT (w wi : World) (g : Nat) (L : List ByteArray) (K a : Int) (m : Nat) (K' a' : Int) (m' : Nat) : Prop :=
  Fr w [(g, runO K' a' m'), (w.heap.size + 1, lnO0 L), (w.heap.size, runO K a m)] wi ∧ wi.cell? ⟨w.heap.size, 0, none⟩ = some (.int .i32 K) ∧ wi.cell? ⟨w.heap.size, 1, none⟩ = some (.int .i32 a) ∧ wi.cell? ⟨w.heap.size, 2, none⟩ = some (.int .i64 (m : Int)) ∧
    wi.cell? ⟨g, 0, none⟩ = some (.int .i32 K') ∧ wi.cell? ⟨g, 1, none⟩ = some (.int .i32 a') ∧ wi.cell? ⟨g, 2, none⟩ = some (.int .i64 (m' : Int))
section
variable {w wi wj : World} {g : Nat} {L : List ByteArray} {K a : Int} {m : Nat} {K' a' : Int} {m' : Nat}
theorem last_set (h : Fr w [(g, runO K' a' m'), (w.heap.size + 1, lnO0 L), (w.heap.size, runO K a m)] wi) (hg : g ≠ w.heap.size) :
    Fr w [(g, runO K' a' m'), (w.heap.size + 1, lnO0 L), (w.heap.size, runO K' a' m')] (((wi.setCell ⟨w.heap.size, 0, none⟩ (.int .i32 K')).setCell ⟨w.heap.size, 1, none⟩ (.int .i32 a')).setCell ⟨w.heap.size, 2, none⟩ (.int .i64 (m' : Int))) := by
  have h0 : Fr w [(w.heap.size, runO K a m), (g, runO K' a' m'), (w.heap.size + 1, lnO0 L)] wi := h.sub (by intro p hp; simp only [List.mem_cons, List.not_mem_nil, or_false] at hp ⊢; rcases hp with rfl | rfl | rfl <;> simp)
  have hn : ∀ p ∈ [((g, runO K' a' m') : Nat × Obj), (w.heap.size + 1, lnO0 L)], p.1 ≠ w.heap.size := by
    intro p hp
    simp only [List.mem_cons, List.not_mem_nil, or_false] at hp
    rcases hp with rfl | rfl
    · exact hg
    · simp
  have h1 := ((h0.set (Nat.le_refl _) hn 0 (.int .i32 K')).set (Nat.le_refl _) hn 1 (.int .i32 a')).set (Nat.le_refl _) hn 2 (.int .i64 (m' : Int))
  exact h1.sub (by intro p hp; simp only [List.mem_cons, List.not_mem_nil, or_false] at hp ⊢; rcases hp with rfl | rfl | rfl <;> simp)
theorem own_set3' {W : World} {base size n z : Nat} {e : TypeId} {v : Value} {xs : List Value} (h : W.ownsRow base e size v n xs) (hz : v.ownBlock ≠ some z) (u0 u1 u2 : Value) : (((W.setCell ⟨z, 0, none⟩ u0).setCell ⟨z, 1, none⟩ u1).setCell ⟨z, 2, none⟩ u2).ownsRow base e size v n xs :=
  own_set (own_set (own_set h ⟨z, 0, none⟩ u0 hz) ⟨z, 1, none⟩ u1 hz) ⟨z, 2, none⟩ u2 hz
theorem PaT.of (h : Fr w [(g, runO K' a' m'), (w.heap.size + 1, lnO0 L), (w.heap.size, runO K a m)] wi) : PaT w wi g L K a m K' a' m' := by
  have h1 := h.at (g := w.heap.size) (o := runO K a m) (by simp)
  have h2 := h.at (g := g) (o := runO K' a' m') (by simp)
  exact ⟨h, Lib.cell_of_heap h1 0, Lib.cell_of_heap h1 1, Lib.cell_of_heap h1 2, Lib.cell_of_heap h2 0, Lib.cell_of_heap h2 1, Lib.cell_of_heap h2 2⟩
theorem PaT.drew (h : PaT w wi g L K a m K' a' m') : PaT w wi.drew g L K a m K' a' m' := .of h.1.drew
theorem PaT.go (h : PaT w wi g L K a m K' a' m') (hb : Below wi.heap.size wi wj) : PaT w wj g L K a m K' a' m' := .of (h.1.go hb)
end
theorem ev_ne {w wi : World} {v : Value} {n : Nat} {xs : List Value} {g : Nat} {L : List ByteArray} {K a : Int} {m : Nat} {K' a' : Int} {m' : Nat} (hO : wi.ownsRow w.heap.size 39 2 v n xs) (hF : Fr w [(g, runO K' a' m'), (w.heap.size + 1, lnO0 L), (w.heap.size, runO K a m)] wi)
    {p : Nat × Obj} (hp : p ∈ [((g, runO K' a' m') : Nat × Obj), (w.heap.size + 1, lnO0 L), (w.heap.size, runO K a m)]) : v.ownBlock ≠ some p.1 := by
  have h := hF.blk p hp
  simp only [List.mem_cons, List.not_mem_nil, or_false] at hp
  rcases hp with rfl | rfl | rfl
  · exact own_blk_ne hO h (by decide)
  · exact own_blk_ne hO h (by decide)
  · exact own_blk_ne hO h (by decide)
theorem run_step {w wi : World} {g : Nat} {L : List ByteArray} {K a : Int} {m : Nat} {K' a' : Int} {m' j : Nat} (h : Fr w [(g, runO K' (a' + (j : Int)) m'), (w.heap.size + 1, lnO0 L), (w.heap.size, runO K a m)] wi) (hg : w.heap.size + 1 < g) :
    Fr w [(g, runO K' (a' + ((j + 1 : Nat) : Int)) m'), (w.heap.size + 1, lnO0 L), (w.heap.size, runO K a m)] (wi.setCell ⟨g, 1, none⟩ (.int .i32 (a' + (j : Int) + 1))) := by
  have h1 := h.set (by omega) (by
    intro p hp
    simp only [List.mem_cons, List.not_mem_nil, or_false] at hp
    rcases hp with rfl | rfl <;> simp only <;> omega) 1 (.int .i32 (a' + (j : Int) + 1))
  have e : (a' + ((j + 1 : Nat) : Int)) = a' + (j : Int) + 1 := by omega
  rw [e]
  exact h1
theorem line_ok (x : ByteArray) : (rnL x.data.toList).2 = 0 → OkRn (rnL x.data.toList).1 := fun h => (rnL_some h).2
set_option maxRecDepth 100000 in
set_option maxHeartbeats 4000000 in
theorem tparse (s : ByteArray) (w : World) (hM : ML w) (hR : ER w) (hs : s.size ≤ 1000000) :
    Calls Tryz.prog 10 #[.string s] w (RetTr w (psT s)) := by
  have i1 : ¬ ((1048576 : Int) < (s.size : Int)) := by omega
  by_cases hz : s.size = 0
  · have hz2 : s.toList.isEmpty = true := List.isEmpty_iff.2 (by rw [ByteArray.toList_eq]; exact List.eq_nil_of_length_eq_zero hz)
    have Hq := Lib.hid (psT_nil hz)
    go_enter Tryz.func10, Tryz.ntmps10
    go_wp2
    go_step3
    go_wp2
    try rw [Exit.noGoto_ret]
    refine bodyPost_ret (v := .tuple #[.slice none 0 0, .int .i64 0, .int .i64 0]) (by simp [results, go_sem]) rfl (RetTr.no (k := 0) rfl Hq.out (Below.refl _ _))
  have hz2 : s.toList.isEmpty = false := by rw [List.isEmpty_eq_false_iff, ByteArray.toList_eq]; intro e; exact hz (by rw [show s.size = s.data.toList.length from rfl, e]; rfl)
  have hsuf : Calls Tryz.prog 28 #[.string s, .string ⟨#[10]⟩] w fun e w' => e = .returned (.bool (decide (s.data.toList.getLast? = some 10))) ∧ w' = w := by
    have := Tryz.strings_HasSuffix s ⟨#[10]⟩ w (by omega)
    rw [show (⟨#[10]⟩ : ByteArray).data.toList = [10] from rfl, suf10] at this
    exact this
  by_cases hl : s.data.toList.getLast? = some 10
  case neg =>
    have Hq := Lib.hid (psT_suf (by omega) hz hl)
    rw [decide_eq_false hl] at hsuf
    have Hsuf := Lib.hid hsuf
    clear hsuf hl
    go_enter Tryz.func10, Tryz.ntmps10
    go_wp2
    go_step3
    go_wp2_with fail
    (with_reducible refine Hsuf.out.mono ?_); rintro e w ⟨rfl, hw⟩; subst hw
    go_wp2
    try rw [Exit.noGoto_ret]
    refine bodyPost_ret (v := .tuple #[.slice none 0 0, .int .i64 0, .int .i64 6]) (by simp [results, go_sem]) rfl (RetTr.no (k := 0) rfl Hq.out (Below.refl _ _))
  rw [decide_eq_true hl] at hsuf
  have Hsuf := Lib.hid hsuf
  have Hcnt := Lib.hid (Tryz.strings_Count_one s 10 w)
  by_cases hc : 5000 < s.data.toList.count 10
  · have Hq := Lib.hid (psT_many (by omega) hz hl hc)
    have i2 : (5000 : Int) < ((Lib.countByte s.data.toList 10 : Nat) : Int) := by unfold Lib.countByte; omega
    clear hsuf hl hc
    go_enter Tryz.func10, Tryz.ntmps10
    go_wp2
    go_step3
    go_wp2_with fail
    (with_reducible refine Hsuf.out.mono ?_); rintro e w ⟨rfl, hw⟩; subst hw
    go_wp2_with fail
    (with_reducible refine Hcnt.out.mono ?_); rintro e w ⟨rfl, hw⟩; subst hw
    go_wp2
    try rw [Exit.noGoto_ret]
    refine bodyPost_ret (v := .tuple #[.slice none 0 0, .int .i64 0, .int .i64 3]) (by simp [results, go_sem]) rfl (RetTr.no (k := 0) rfl Hq.out (Below.refl _ _))
  have i2 : ¬ ((5000 : Int) < ((Lib.countByte s.data.toList 10 : Nat) : Int)) := by unfold Lib.countByte; omega
  have hq := psT_go (by omega) hz hl (Nat.le_of_not_lt hc)
  have htrim : Calls Tryz.prog 31 #[.string s, .string ⟨#[10]⟩] (w.alloc rnO0) fun e w' => e = .returned (.string (s.extract 0 (s.size - 1))) ∧ w' = w.alloc rnO0 := by
    have := Tryz.strings_TrimSuffix s ⟨#[10]⟩ (w.alloc rnO0) (by omega)
    rw [show (⟨#[10]⟩ : ByteArray).data.toList = [10] from rfl, trim10 hl] at this
    exact this
  have hlz : ∀ x ∈ lnS s, x.size ≤ 1000000 := fun x hx => by have := lnS_sz hx; omega
  have hLl : (lnS s).length ≤ 5000 := by rw [lnS_count hl]; omega
  obtain ⟨L, hL⟩ : ∃ L, lnS s = L := ⟨_, rfl⟩
  have HL : Hid (ptsB 10 (s.extract 0 (s.size - 1)) = L) := Lib.hid hL
  rw [hL] at hq hlz hLl
  have Htrim := Lib.hid htrim
  have Hq := Lib.hid hq
  have Hlz := Lib.hid hlz
  have hF0 := (Fr.start w).newN rfl rnO0
  have HF0 := Lib.hid ((hF0.newN (g := w.heap.size + 1) (by simp) (lnO0 L)))
  have HM0 := Lib.hid (hM.below hF0.bel)
  have Hsp := Lib.hid (split10 (s.extract 0 (s.size - 1)) (w.alloc rnO0) HM0.out (by rw [ByteArray.size_extract]; omega) HL)
  have hLz0 : (w.alloc rnO0).heap.size = w.heap.size + 1 := by simp
  rw [hLz0] at Hsp
  clear hsuf hl hc htrim hq hlz hL hF0 hLz0 HL
  go_enter Tryz.func10, Tryz.ntmps10
  go_wp2
  go_step3
  go_wp2_with fail
  (with_reducible refine Hsuf.out.mono ?_); rintro e w ⟨rfl, hw⟩; subst hw
  go_wp2_with fail
  (with_reducible refine Hcnt.out.mono ?_); rintro e w ⟨rfl, hw⟩; subst hw
  go_wp2
  go_step3
  go_wp2_with fail
  (with_reducible refine Htrim.out.mono ?_); rintro e w2 ⟨rfl, hw⟩; subst w2
  go_wp2_with fail
  (with_reducible refine Hsp.out.mono ?_); rintro e w1 ⟨rfl, hw⟩
  have HF1 : Hid (Fr w [(w.heap.size + 1, lnO0 L), (w.heap.size, rnO0)] w1) := Lib.hid (by rw [hw]; exact HF0.out)
  clear hw HF0
  go_wp2
  go_loopw [2, 3, 4, 29] (fun v ln e i wr => ∃ (k : Nat) (acc : List Ev) (K a : Int) (m : Nat), k ≤ L.length ∧ i = .int .i64 k ∧ ln = .int .i64 k ∧ e = .int .i64 0 ∧ wr.ownsRow w.heap.size 39 2 v acc.length (evs acc) ∧ acc.length ≤ 8388608 ∧ Fr w [(w.heap.size + 1, lnO0 L), (w.heap.size, runO K a m)] wr ∧ Hid (TrRel L k acc) ∧ Hid (LastR acc K a m)) (fun _ _ _ i _ => L.length - (intOf i).toNat)
  case atStart => exact ⟨0, [], 0, 0, 0, Nat.zero_le _, rfl, rfl, rfl, World.ownsRow_nil _ _ _ _, Nat.zero_le _, HF1.out, Lib.hid (TrRel.start L), Lib.hid (.inl ⟨rfl, rfl, rfl, rfl⟩)⟩
  case round =>
    obtain ⟨k, acc, K, a, m, hk, rfl, rfl, rfl, hown, hac, hF, hr, hlast⟩ := hrel
    by_cases hlt : k < L.length
    case neg =>
      have j1 : ¬ ((k : Int) < (L.length : Int)) := by omega
      have Hq2 := Lib.hid (Hq.out.trans (hr.out.done (by omega)))
      have hB := hF.bel
      clear hr hF hlast Hq
      go_wp2
      try rw [Exit.noGoto_ret]
      exact bodyPost_ret (v := .tuple #[_, .int .i64 0, .int .i64 0]) (by simp [results, go_sem]) rfl (RetTr.yes Hq2.out hB hown)
    case pos =>
    have j1 : (k : Int) < (L.length : Int) := by omega
    have j0 : (0 : Int) ≤ (k : Int) := by omega
    have hd : L.drop k = L[k] :: L.drop (k + 1) := List.drop_eq_getElem_cons hlt
    have hxz := Hlz.out L[k] (List.getElem_mem hlt)
    have hcx : wr.cell? ⟨w.heap.size + 1, k, none⟩ = some (.string L[k]) := by
      rw [Lib.cell_of_heap (hF.at (g := w.heap.size + 1) (o := lnO0 L) (by simp))]
      simp [hlt]
    generalize L[k] = x at *
    have hln := line_ x wr (hM.below hF.bel) (hR.below hF.bel) hxz
    have hb0 := line_ok x
    rcases hxr : rnL x.data.toList with ⟨⟨⟨K', a'⟩, m'⟩, er⟩
    rw [hxr] at hln hb0
    have hdrop := hd
    have Hln := Lib.hid hln
    have w1k : IntKind.i64.wrap ((k : Int) + 1) = (k : Int) + 1 := IntWalk.i64_in _ (by omega)
    have Hd := Lib.hid hd
    have Hxr := Lib.hid hxr
    have HF := Lib.hid hF
    have Hown := Lib.hid hown
    clear hln hd hdrop hxr hF hown hxz
    by_cases her : er = 0
    case neg =>
      have Hq2 := Lib.hid (Hq.out.trans (hr.out.err Hd.out Hxr.out her))
      have e1 : (er != 0) = true := by simpa using her
      clear Hq hr her hb0 hlast
      go_wp2_with fail
      (with_reducible refine (Hln.out).mono ?_); rintro e w3 ⟨rfl, hb3⟩
      have HF3 := Lib.hid (HF.out.go hb3)
      clear hb3 Hln hcx
      go_wp2
      try rw [Exit.noGoto_ret]
      refine bodyPost_ret (v := .tuple #[.slice none 0 0, .int .i64 ((k : Int) + 1), .int .i64 er]) (by simp [results, go_sem]) rfl (RetTr.no (k := k + 1) (by simp) Hq2.out ?_)
      exact ba HF3.out.bel _
    subst her
    obtain ⟨o1, o2, o3, o4⟩ := hb0 rfl
    simp only at o1 o2 o3 o4
    by_cases hbig : 8388608 < acc.length + m'
    case pos =>
      have Hq2 := Lib.hid (Hq.out.trans (hr.out.big Hd.out Hxr.out hbig))
      have wb : IntKind.i64.wrap (8388608 - (acc.length : Int)) = 8388608 - (acc.length : Int) := IntWalk.i64_in _ (by omega)
      have e1 : (8388608 - (acc.length : Int)) < (m' : Int) := by omega
      obtain ⟨A9, c9, rfl, _⟩ := own_sl Hown.out
      clear Hq hr hbig hlast
      go_wp2_with fail
      (with_reducible refine (Hln.out).mono ?_); rintro e w3 ⟨rfl, hb3⟩
      have HF3 := Lib.hid (HF.out.go hb3)
      clear hb3 Hln hcx
      go_wp2
      try rw [Exit.noGoto_ret]
      refine bodyPost_ret (v := .tuple #[.slice none 0 0, .int .i64 ((k : Int) + 1), .int .i64 3]) (by simp [results, go_sem]) rfl (RetTr.no (k := k + 1) (by simp) Hq2.out ?_)
      exact ba HF3.out.bel _
    case neg =>
    have wb : IntKind.i64.wrap (8388608 - (acc.length : Int)) = 8388608 - (acc.length : Int) := IntWalk.i64_in _ (by omega)
    have e1 : ¬ ((8388608 - (acc.length : Int)) < (m' : Int)) := by omega
    obtain ⟨A9, c9, rfl, _⟩ := own_sl Hown.out
    go_wp2_with fail
    (with_reducible refine (Hln.out).mono ?_); rintro e w3 ⟨rfl, hb3⟩
    have HF3 := Lib.hid (HF.out.go hb3)
    have HO3 := Lib.hid (own_below Hown.out hb3)
    clear hb3 Hln hcx Hown HF
    have hT := PaT.of (HF3.out.new (runO K' a' m'))
    have hO4 := HO3.out.alloc (runO K' a' m')
    go_upto_region 19 with fail
    generalize w3.alloc (.cells #[.int .i32 K', .int .i32 a', .int .i64 (m' : Int)] 56) = W4 at *
    have hgw : w.heap.size + 1 < w3.heap.size := HF3.out.lt (g := w.heap.size + 1) (o := lnO0 L) (by simp)
    generalize w3.heap.size = g at *
    have HO4 := Lib.hid hO4
    clear hO4 HO3 HF3
    go_cut [51] (fun s51 wx => s51 = .bool (decide (acc.getLast? = some (K', a' - 1))) ∧ PaT w wx g L K a m K' a' m' ∧ wx.ownsRow w.heap.size 39 2 (.slice A9 acc.length c9) acc.length (evs acc))
    case first =>
      by_cases hm : 1 ≤ m
      case neg =>
        have hl0 : acc.getLast? = none := by
          rcases hlast.out with ⟨rfl, _⟩ | ⟨h, _⟩
          · rfl
          · exact absurd h hm
        have g1 : decide ((0 : Int) < (m : Int)) = false := by simp; omega
        have g3 : decide (0 < m) = false := by simp; omega
        have g4 : ¬ (0 < m) := hm
        have g5 : ¬ ((0 : Int) < (m : Int)) := by omega
        clear hm
        obtain ⟨hF4, o0, o1, o2, p0, p1, p2⟩ := hT
        have HT := Lib.hid hF4
        clear hF4
        go_wp2
        go_region
        go_wp2
        go_meet
        exact ⟨by rw [hl0]; rfl, PaT.of HT.out.drew, HO4.out⟩
      case pos =>
        have g1 : decide ((0 : Int) < (m : Int)) = true := by simp; omega
        have g2 : (0 : Int) < (m : Int) := by omega
        have g3 : 0 < m := by omega
        have hnx : a + m ≤ 2147483647 ∧ 0 ≤ a := by
          rcases hlast.out with ⟨_, _, _, h⟩ | ⟨_, _, h2, h3⟩
          · omega
          · omega
        have hdp := Lib.hid (hlast.out.dup hm K' a')
        go_region_held3 (fun w' => PaT w w' g L K a m K' a' m')
          (with_reducible (first | exact PaT.drew hT | exact PaT.go (by assumption) hb2 | assumption))
          ((first | (go_at_call 33; refine (next_ K a m hnx.2 hnx.1 _).mono ?_; rintro e w2 ⟨rfl, hb2⟩)))
        obtain ⟨_, hTz⟩ : ∃ u, PaT w w2 g L K a m K' a' m' := ⟨0, by assumption⟩
        have hOz : w2.ownsRow w.heap.size 39 2 (.slice A9 acc.length c9) acc.length (evs acc) := own_below (show W4.drew.ownsRow w.heap.size 39 2 (.slice A9 acc.length c9) acc.length (evs acc) from HO4.out) (by assumption)
        have HTz := Lib.hid hTz
        clear hTz hT
        go_wp2
        go_meet
        refine ⟨?_, HTz.out, hOz⟩
        congr 1
        rw [Bool.eq_iff_iff, Bool.and_eq_true, decide_eq_true_eq, decide_eq_true_eq, decide_eq_true_eq]
        exact hdp.out.symm
    case rest =>
    obtain ⟨rfl, hT5, hO5⟩ := hcut
    clear HO4 hT
    have HF5 := Lib.hid hT5.1
    have HO5 := Lib.hid hO5
    clear hT5 hO5
    by_cases hdup : acc.getLast? = some (K', a' - 1)
    case pos =>
      have Hq2 := Lib.hid (Hq.out.trans (hr.out.dup Hd.out Hxr.out hbig hdup))
      rw [decide_eq_true hdup]
      have hB := HF5.out.bel
      clear hdup Hq hr hbig hlast
      go_wp2
      try rw [Exit.noGoto_ret]
      exact bodyPost_ret (v := .tuple #[.slice none 0 0, .int .i64 ((k : Int) + 1), .int .i64 6]) (by simp [results, go_sem]) rfl (RetTr.no (k := k + 1) (by simp) Hq2.out hB)
    case neg =>
    have Hr2 := Lib.hid (hr.out.step Hd.out Hxr.out hbig hdup)
    have Hl2 := Lib.hid (LastR.next (acc := acc) (K := K') o3 o2 o4)
    rw [decide_eq_false hdup]
    clear hdup hr hlast
    have b1 := HF5.out.at (g := w.heap.size) (o := runO K a m) (by simp)
    have b2 := HF5.out.at (g := g) (o := runO K' a' m') (by simp)
    obtain ⟨p0, p1, p2⟩ : _ ∧ _ ∧ _ := ⟨Lib.cell_of_heap b2 0, Lib.cell_of_heap b2 1, Lib.cell_of_heap b2 2⟩
    obtain ⟨f0, f1, f2⟩ : _ ∧ _ ∧ _ := ⟨Lib.frozen_of_heap b1 0, Lib.frozen_of_heap b1 1, Lib.frozen_of_heap b1 2⟩
    obtain ⟨q0, q1, q2⟩ : _ ∧ _ ∧ _ := ⟨Lib.cell_of_heap b1 0, Lib.cell_of_heap b1 1, Lib.cell_of_heap b1 2⟩
    have l1 := heap_lt b1
    have l2 := heap_lt b2
    clear b1 b2
    have hgne : g ≠ w.heap.size := by omega
    go_upto_region 23 with fail
    have HF6 := Lib.hid (last_set HF5.out hgne)
    have HO6 := Lib.hid (own_set3' HO5.out (fun e => by have := own_blk_ne HO5.out (HF5.out.at (g := w.heap.size) (o := runO K a m) (by simp)) (by decide); exact this e) (.int .i32 K') (.int .i32 a') (.int .i64 (m' : Int)))
    clear p0 p1 p2 f0 f1 f2 q0 q1 q2 HF5 HO5 l1 l2
    generalize (((wc.setCell ⟨w.heap.size, 0, none⟩ (.int .i32 K')).setCell ⟨w.heap.size, 1, none⟩ (.int .i32 a')).setCell ⟨w.heap.size, 2, none⟩ (.int .i64 (m' : Int))) = W6 at *
    have b2 := HF6.out.at (g := g) (o := runO K' a' m') (by simp)
    have p2 := Lib.cell_of_heap b2 2
    clear b2
    go_wp2
    have hbg := Lib.hid (Nat.le_of_not_lt hbig)
    clear hbig
    go_loopw [2, 67] (fun v u wi => ∃ j : Nat, j ≤ m' ∧ u = .int .i64 (j : Int) ∧ Fr w [(g, runO K' (a' + (j : Int)) m'), (w.heap.size + 1, lnO0 L), (w.heap.size, runO K' a' m')] wi ∧ wi.ownsRow w.heap.size 39 2 v (acc.length + j) (evs (acc ++ expd K' a' j))) (fun _ u _ => m' - (intOf u).toNat)
    case atStart => exact ⟨0, Nat.zero_le _, rfl, by simpa using HF6.out, by simpa [expd] using HO6.out⟩
    case round =>
      clear p2 HF6 HO6
      obtain ⟨j, hj, rfl, hFi, hOi⟩ := hrel
      have bg := hFi.at (g := g) (o := runO K' (a' + (j : Int)) m') (by simp)
      have hne := Lib.hid (fun (p : Nat × Obj) (hp : p ∈ [((g, runO K' (a' + (j : Int)) m') : Nat × Obj), (w.heap.size + 1, lnO0 L), (w.heap.size, runO K' a' m')]) => ev_ne hOi hFi hp)
      have HFi := Lib.hid hFi
      by_cases hjm : j < m'
      case pos =>
        have c1 : (j : Int) < (m' : Int) := by omega
        have p0 := Lib.cell_of_heap bg 0
        have p1 := Lib.cell_of_heap bg 1
        have HOi := Lib.hid hOi
        clear bg hFi hOi
        go_wp2_with (at_builtin; refine wpList_ap evEl (w0 := w) (by exact HOi.out.alloc _) (by exact ba HFi.out.bel _) [.int .i32 K', .int .i32 (a' + (j : Int))] (by exact alloc1_new _ _) ?_ (hbytes := by have := hbg.out; omega) (h63 := by have := hbg.out; omega))
        intro g4 cap4 w4 hO4 hb4 hg4
        have hF4 := Fr.grown (HFi.out.al _) hb4 hg4 hne.out
        have b4 := hF4.at (g := g) (o := runO K' (a' + (j : Int)) m') (by simp)
        have q1 := Lib.cell_of_heap b4 1
        have f1 := Lib.frozen_of_heap b4 1
        have lt4 := heap_lt b4
        have wk : IntKind.i32.wrap (a' + (j : Int) + 1) = a' + (j : Int) + 1 := by simp [IntKind.wrap, IntKind.bits, IntKind.signed]; omega
        have HF4 := Lib.hid hF4
        have HO4 := Lib.hid hO4
        clear hF4 hO4 hb4 hg4 b4 hne HFi HOi p0 p1
        go_wp2
        go_roundw
        case rel => exact ⟨j + 1, by omega, by go_num, run_step HF4.out hgw, by
          rw [expd_snoc', evs_snoc, show acc.length + (j + 1) = acc.length + j + 1 from rfl]
          exact own_set HO4.out _ _ (fun e => by have := own_blk_ne HO4.out (HF4.out.at (g := g) (o := runO K' (a' + (j : Int)) m') (by simp)) (by decide); exact this e)⟩
        case measure => (simp [intOf]) <;> omega
      case neg =>
        have c1 : ¬ ((j : Int) < (m' : Int)) := by omega
        obtain rfl : j = m' := by omega
        clear bg hjm hne
        go_wp2
        go_roundw
        case rel => exact ⟨k + 1, acc ++ expd K' a' j, K', a', j, by omega, by go_num, by go_num, rfl, by rw [List.length_append, expd_len]; exact hOi, by rw [List.length_append, expd_len]; exact hbg.out, hFi.sub (by intro p hp; exact List.mem_cons_of_mem _ hp), Hr2, Hl2⟩
        case measure => (simp [intOf]) <;> omega
end Go.Proofs.YtpgojecldmcopaaGreatDoor
