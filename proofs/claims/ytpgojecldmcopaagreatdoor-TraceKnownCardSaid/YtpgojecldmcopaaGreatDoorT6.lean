/- Traces: Digest of the program and of its reference. Traces: regions, and the steps in each: plain words. No condition. -/
import Derived.Test.YtpgojecldmcopaaGreatDoorT5
import Derived.Laws.MakeOwn
namespace Go.Proofs.YtpgojecldmcopaaGreatDoor
open Go.RowKit
def byE (x : Ev) : List Int := [x.1 % 256, x.2 % 256, x.2 % 4294967296 / 256 % 256, x.2 % 4294967296 / 65536 % 256, x.2 % 4294967296 / 16777216]
def dgR (n b : Int) : Int := IntKind.u64.wrap (bits .xor .u64 n b * 1099511628211)
def dgE (n : Int) (x : Ev) : Int := (byE x).foldl dgR n
def dg (l : List Ev) : Int := l.foldl dgE 14695981039346656037
def dgP (n : Int) (x : Ev) (j : Nat) : Int := ((byE x).take j).foldl dgR n
theorem dgP_all (n : Int) (x : Ev) : dgP n x 5 = dgE n x := by
  show ((byE x).take 5).foldl dgR n = (byE x).foldl dgR n
  rw [List.take_of_length_le (by simp [byE])]
theorem dg_step {l : List Ev} {k : Nat} {x : Ev} (hd : Hid (l.drop k = x :: l.drop (k + 1))) : dg (l.take (k + 1)) = dgE (dg (l.take k)) x := by
  unfold dg
  rw [take_of_drop hd.out, List.foldl_append, List.foldl_cons, List.foldl_nil]
set_option maxRecDepth 100000 in
theorem wrap_u8 {b : Int} (h0 : 0 ≤ b) (h1 : b < 256) : IntKind.u64.wrap b = b := by
  simp only [IntKind.wrap, IntKind.bits, IntKind.signed]
  simp
  omega
theorem ixA0 (x0 x1 x2 x3 x4 : Int) (w : World) : (Instr.index 79 (.agg #[.int .u8 x0, .int .u8 x1, .int .u8 x2, .int .u8 x3, .int .u8 x4]) (.int .i64 0)).run Tryz.prog w = .ok (.int .u8 x0) w := by kernel_rfl
theorem ixA1 (x0 x1 x2 x3 x4 : Int) (w : World) : (Instr.index 79 (.agg #[.int .u8 x0, .int .u8 x1, .int .u8 x2, .int .u8 x3, .int .u8 x4]) (.int .i64 1)).run Tryz.prog w = .ok (.int .u8 x1) w := by kernel_rfl
theorem ixA2 (x0 x1 x2 x3 x4 : Int) (w : World) : (Instr.index 79 (.agg #[.int .u8 x0, .int .u8 x1, .int .u8 x2, .int .u8 x3, .int .u8 x4]) (.int .i64 2)).run Tryz.prog w = .ok (.int .u8 x2) w := by kernel_rfl
theorem ixA3 (x0 x1 x2 x3 x4 : Int) (w : World) : (Instr.index 79 (.agg #[.int .u8 x0, .int .u8 x1, .int .u8 x2, .int .u8 x3, .int .u8 x4]) (.int .i64 3)).run Tryz.prog w = .ok (.int .u8 x3) w := by kernel_rfl
theorem ixA4 (x0 x1 x2 x3 x4 : Int) (w : World) : (Instr.index 79 (.agg #[.int .u8 x0, .int .u8 x1, .int .u8 x2, .int .u8 x3, .int .u8 x4]) (.int .i64 4)).run Tryz.prog w = .ok (.int .u8 x4) w := by kernel_rfl
set_option maxRecDepth 100000 in
set_option maxHeartbeats 2000000 in
theorem digest_ (w : World) (A : Option Addr) (c : Nat) (l : List Ev) (h : Reads w w.heap.size 2 A l.length (evs l)) (hl : l.length ≤ 140737488355328) :
    Calls Tryz.prog 15 #[.slice A l.length c] w fun e w' => e = .returned (.int .u64 (dg l)) ∧ Below w.heap.size w w' := by
  go_enter Tryz.func15, Tryz.ntmps15
  go_wp2
  go_loopw [11, 3] (fun i n wr => ∃ k : Nat, k ≤ l.length ∧ i = .int .i64 k ∧ n = .int .u64 (dg (l.take k)) ∧ Below w.heap.size w wr) (fun i _ _ => l.length - (intOf i).toNat)
  case atStart => exact ⟨0, Nat.zero_le _, rfl, rfl, Below.refl _ _⟩
  case round =>
    obtain ⟨k, hk, rfl, rfl, hbl⟩ := hrel
    by_cases hlt : k < l.length
    · have hR := h.go hbl
      obtain ⟨b, off, K, a, rfl, hb, d1, d2, hd⟩ := evAt hR hlt
      have hB := ba hbl (evO (K, a))
      have hst := Lib.hid (dg_step hd)
      generalize dg (l.take k) = N at *
      clear hd
      go_wp2
      generalize wr.alloc (.cells #[.int .i32 K, .int .i32 a] 39 (0, 0)) = wq at *
      go_loopw [33, 3] (fun i n wi => ∃ j : Nat, j ≤ 5 ∧ i = .int .i64 j ∧ n = .int .u64 (dgP N (K, a) j) ∧ wi = wq) (fun i _ _ => 5 - (intOf i).toNat)
      case atStart => exact ⟨0, by omega, rfl, rfl, rfl⟩
      case round =>
        obtain ⟨j, hj, rfl, rfl, rfl⟩ := hrel
        clear d1 d2 hR h
        rcases (show j = 0 ∨ j = 1 ∨ j = 2 ∨ j = 3 ∨ j = 4 ∨ j = 5 by omega) with rfl | rfl | rfl | rfl | rfl | rfl
        · have hix := ixA0 (K % 256) (a % 256) (a % 4294967296 / 256 % 256) (a % 4294967296 / 65536 % 256) (a % 4294967296 / 16777216)
          have hst2 := Lib.hid (show dgP N (K, a) 1 = dgR (dgP N (K, a) 0) (K % 256) from rfl)
          generalize dgP N (K, a) 0 = M at *
          have hw := wrap_u8 (b := K % 256) (by omega) (by omega)
          go_wp2
          go_roundw
          case rel => exact ⟨1, by omega, rfl, by rw [hst2.out]; rfl, trivial⟩
          case measure => simp [intOf]
        · have hix := ixA1 (K % 256) (a % 256) (a % 4294967296 / 256 % 256) (a % 4294967296 / 65536 % 256) (a % 4294967296 / 16777216)
          have hst2 := Lib.hid (show dgP N (K, a) 2 = dgR (dgP N (K, a) 1) (a % 256) from rfl)
          generalize dgP N (K, a) 1 = M at *
          have hw := wrap_u8 (b := a % 256) (by omega) (by omega)
          go_wp2
          go_roundw
          case rel => exact ⟨2, by omega, rfl, by rw [hst2.out]; rfl, trivial⟩
          case measure => simp [intOf]
        · have hix := ixA2 (K % 256) (a % 256) (a % 4294967296 / 256 % 256) (a % 4294967296 / 65536 % 256) (a % 4294967296 / 16777216)
          have hst2 := Lib.hid (show dgP N (K, a) 3 = dgR (dgP N (K, a) 2) (a % 4294967296 / 256 % 256) from rfl)
          generalize dgP N (K, a) 2 = M at *
          have hw := wrap_u8 (b := a % 4294967296 / 256 % 256) (by omega) (by omega)
          go_wp2
          go_roundw
          case rel => exact ⟨3, by omega, rfl, by rw [hst2.out]; rfl, trivial⟩
          case measure => simp [intOf]
        · have hix := ixA3 (K % 256) (a % 256) (a % 4294967296 / 256 % 256) (a % 4294967296 / 65536 % 256) (a % 4294967296 / 16777216)
          have hst2 := Lib.hid (show dgP N (K, a) 4 = dgR (dgP N (K, a) 3) (a % 4294967296 / 65536 % 256) from rfl)
          generalize dgP N (K, a) 3 = M at *
          have hw := wrap_u8 (b := a % 4294967296 / 65536 % 256) (by omega) (by omega)
          go_wp2
          go_roundw
          case rel => exact ⟨4, by omega, rfl, by rw [hst2.out]; rfl, trivial⟩
          case measure => simp [intOf]
        · have hix := ixA4 (K % 256) (a % 256) (a % 4294967296 / 256 % 256) (a % 4294967296 / 65536 % 256) (a % 4294967296 / 16777216)
          have hst2 := Lib.hid (show dgP N (K, a) 5 = dgR (dgP N (K, a) 4) (a % 4294967296 / 16777216) from rfl)
          generalize dgP N (K, a) 4 = M at *
          have hw := wrap_u8 (b := a % 4294967296 / 16777216) (by omega) (by omega)
          go_wp2
          go_roundw
          case rel => exact ⟨5, by omega, rfl, by rw [hst2.out]; rfl, trivial⟩
          case measure => simp [intOf]
        · rw [dgP_all, ← hst.out]
          go_wp2
          go_roundw
          case rel => exact ⟨k + 1, by omega, by go_num, rfl, hB⟩
          case measure => simp [intOf]; omega
    · obtain rfl : k = l.length := by omega
      rw [List.take_of_length_le (Nat.le_refl _)] at *
      go_wp2
      go_ret
      exact ⟨rfl, hbl⟩
theorem shr8 (a : Int) : a % 4294967296 / 65536 = a % 4294967296 / 256 / 256 ∧ a % 4294967296 / 16777216 = a % 4294967296 / 256 / 256 / 256 := by omega
def shN (a : Int) : Nat → Int
  | 0 => a % 4294967296
  | j + 1 => shN a j / 256
theorem shN_bd (a : Int) (j : Nat) : 0 ≤ shN a j ∧ shN a j ≤ 4294967295 := by
  induction j with
  | zero => show 0 ≤ a % 4294967296 ∧ a % 4294967296 ≤ 4294967295; omega
  | succ j ih => show 0 ≤ shN a j / 256 ∧ shN a j / 256 ≤ 4294967295; omega
def shP (n : Int) (x : Ev) : Nat → Int
  | 0 => dgR n (x.1 % 256)
  | j + 1 => dgR (shP n x j) (shN x.2 j % 256)
theorem shP_all (n : Int) (x : Ev) : shP n x 4 = dgE n x := by
  obtain ⟨K, a⟩ := x
  have h1 : a % 4294967296 / 65536 = a % 4294967296 / 256 / 256 := by omega
  have h2 : a % 4294967296 / 16777216 = a % 4294967296 / 256 / 256 / 256 % 256 := by omega
  have h3 : a % 256 = a % 4294967296 % 256 := by omega
  show dgR (dgR (dgR (dgR (dgR n (K % 256)) (a % 4294967296 % 256)) (a % 4294967296 / 256 % 256)) (a % 4294967296 / 256 / 256 % 256)) (a % 4294967296 / 256 / 256 / 256 % 256) =
    dgR (dgR (dgR (dgR (dgR n (K % 256)) (a % 256)) (a % 4294967296 / 256 % 256)) (a % 4294967296 / 65536 % 256)) (a % 4294967296 / 16777216)
  rw [h1, h2, h3]
end Go.Proofs.YtpgojecldmcopaaGreatDoor
namespace Go.Proofs.YtpgojecldmcopaaGreatDoor
open Go.RowKit
abbrev Rg := ByteArray × Int × Int
def rIn (a : Int) (y : Rg) : Bool := decide (y.2.1 ≤ a) && decide (a < y.2.1 + y.2.2)
def badRg (y : Rg) : Bool := decide (y.2.1 < 0) || decide (y.2.2 < 1) || decide (65536 < y.2.1) || decide (65536 - y.2.1 < y.2.2)
def lap (y z : Rg) : Bool := decide (y.2.1 < z.2.1 + z.2.2) && decide (z.2.1 < y.2.1 + y.2.2)
/-- no later one meets an earlier one -/
def Free (r : List Rg) : Prop := ∀ i k (hi : i < r.length) (hk : k < i), lap r[i] (r[k]'(Nat.lt_trans hk hi)) = false
theorem lap_comm (y z : Rg) : lap y z = lap z y := by unfold lap; rw [Bool.and_comm]
theorem Free.at {r : List Rg} (h : Free r) {i k : Nat} (hi : i < r.length) (hk : k < r.length) (hne : i ≠ k) : lap r[i] r[k] = false := by
  rcases Nat.lt_or_ge k i with h1 | h1
  · exact h i k hi h1
  · rw [lap_comm]; exact h k i hk (by omega)
def idxR (r : List Rg) (a : Int) : Nat := r.findIdx (rIn a)
theorem idxR_le (r : List Rg) (a : Int) : idxR r a ≤ r.length := List.findIdx_le_length
/-- the last one that holds a: the reference's way -/
def lastR (r : List Rg) (a : Int) (k : Nat) : Nat := (List.range k).foldl (fun at_ j => if (r[j]?.map (rIn a)).getD false then j else at_) r.length
theorem lastR_succ (r : List Rg) (a : Int) (k : Nat) (hk : k < r.length) : lastR r a (k + 1) = if rIn a r[k] then k else lastR r a k := by
  unfold lastR
  rw [List.range_succ, List.foldl_append]
  simp [List.getElem?_eq_getElem hk]
theorem rIn_lap {a : Int} {y z : Rg} (h1 : rIn a y = true) (h2 : rIn a z = true) : lap y z = true := by
  unfold rIn at h1 h2; unfold lap
  simp only [Bool.and_eq_true, decide_eq_true_eq] at *
  omega
theorem lastR_lt {r : List Rg} {a : Int} (hF : Free r) : ∀ k, k ≤ r.length → lastR r a k = if idxR r a < k then idxR r a else r.length
  | 0, _ => by simp [lastR]
  | k + 1, hk => by
    rw [lastR_succ r a k (by omega), lastR_lt hF k (by omega)]
    by_cases h : rIn a r[k] = true
    · rw [if_pos h]
      have hle : idxR r a ≤ k := by
        rcases Nat.lt_or_ge k (idxR r a) with h1 | h1
        · have := List.not_of_lt_findIdx h1
          rw [h] at this; cases this
        · exact h1
      have hlt : idxR r a < r.length := by omega
      have hat : rIn a r[idxR r a] = true := List.findIdx_getElem (w := hlt)
      have : idxR r a = k := by
        rcases Nat.lt_or_ge (idxR r a) k with h1 | h1
        · have := hF.at hlt (show k < r.length by omega) (by omega)
          rw [rIn_lap hat h] at this; cases this
        · omega
      rw [if_pos (by omega), this]
    · have hne : idxR r a ≠ k := by
        intro e
        have hat : rIn a (r[idxR r a]'(by omega)) = true := List.findIdx_getElem (w := by show idxR r a < _; omega)
        simp only [e] at hat
        exact h hat
      rw [if_neg h]
      by_cases h2 : idxR r a < k
      · rw [if_pos h2, if_pos (by omega)]
      · rw [if_neg h2, if_neg (by omega)]
theorem lastR_all {r : List Rg} {a : Int} (hF : Free r) : lastR r a r.length = idxR r a := by
  rw [lastR_lt hF _ (Nat.le_refl _)]
  have := idxR_le r a
  split <;> omega
/-- how many steps are in each region, and in none -/
def cnts (l : List Ev) (r : List Rg) : List Int := (List.range (r.length + 1)).map fun k => ((l.countP fun x => decide (idxR r x.2 = k) : Nat) : Int)
theorem cnts_len (l : List Ev) (r : List Rg) : (cnts l r).length = r.length + 1 := by simp [cnts]
theorem cnts_nil (r : List Rg) : cnts [] r = List.replicate (r.length + 1) 0 := by
  apply List.ext_getElem
  · simp [cnts]
  · intro i h1 h2; simp [cnts]
theorem cnts_snoc (l : List Ev) (r : List Rg) (x : Ev) : cnts (l ++ [x]) r = (cnts l r).set (idxR r x.2) ((cnts l r).getD (idxR r x.2) 0 + 1) := by
  have hle := idxR_le r x.2
  apply List.ext_getElem
  · simp [cnts]
  · intro i h1 h2
    have hi : i < r.length + 1 := by simpa [cnts] using h1
    rw [List.getElem_set]
    simp only [cnts, List.getElem_map, List.getElem_range, List.countP_append, List.countP_singleton]
    by_cases h : idxR r x.2 = i
    · rw [if_pos h]
      subst h
      simp [List.getD, List.getElem?_range hi]
    · rw [if_neg h]; simp [h]
/-- sorted by base: those that stand next to each other are enough -/
theorem free_of_sorted {r : List Rg} (hb : ∀ y ∈ r, badRg y = false) {o : List Nat} (hp : o.Perm (List.range r.length))
    (hs : ∀ i j (hi : i < j) (hj : j < o.length), (r.getD (o[i]'(Nat.lt_trans hi hj)) (⟨#[]⟩, 0, 0)).2.1 ≤ (r.getD o[j] (⟨#[]⟩, 0, 0)).2.1)
    (ha : ∀ n (h0 : 0 < n) (hn : n < o.length), ¬ ((r.getD o[n] (⟨#[]⟩, 0, 0)).2.1 < (r.getD (o[n - 1]'(by omega)) (⟨#[]⟩, 0, 0)).2.1 + (r.getD (o[n - 1]'(by omega)) (⟨#[]⟩, 0, 0)).2.2)) : Free r := by
  have hlen : o.length = r.length := by simpa using hp.length_eq
  have hsz : ∀ k, k < r.length → 1 ≤ (r.getD k (⟨#[]⟩, 0, 0)).2.2 := by
    intro k hk
    have := hb _ (List.getElem_mem hk)
    rw [List.getD_eq_getElem?_getD, List.getElem?_eq_getElem hk]
    unfold badRg at this
    simp only [Bool.or_eq_false_iff, decide_eq_false_iff_not] at this
    simp only [Option.getD_some]
    omega
  have hol : ∀ i (hi : i < o.length), o[i] < r.length := by
    intro i hi
    have := hp.subset (List.getElem_mem hi)
    simpa using this
  have chain : ∀ i j (hi : i < j) (hj : j < o.length), (r.getD (o[i]'(Nat.lt_trans hi hj)) (⟨#[]⟩, 0, 0)).2.1 + (r.getD (o[i]'(Nat.lt_trans hi hj)) (⟨#[]⟩, 0, 0)).2.2 ≤ (r.getD o[j] (⟨#[]⟩, 0, 0)).2.1 := by
    intro i j hi hj
    have h1 := ha (i + 1) (by omega) (by omega)
    simp only [Nat.add_sub_cancel] at h1
    rcases Nat.lt_or_ge (i + 1) j with h2 | h2
    · have := hs (i + 1) j h2 hj
      omega
    · have : j = i + 1 := by omega
      subst this
      omega
  intro i k hi hk
  obtain ⟨p, hpl, hpe⟩ := List.getElem_of_mem (hp.symm.subset (List.mem_range.2 hi))
  obtain ⟨q, hql, hqe⟩ := List.getElem_of_mem (hp.symm.subset (List.mem_range.2 (Nat.lt_trans hk hi)))
  have e1 : r.getD i (⟨#[]⟩, 0, 0) = r[i] := by rw [List.getD_eq_getElem?_getD, List.getElem?_eq_getElem hi]; rfl
  have e2 : r.getD k (⟨#[]⟩, 0, 0) = r[k]'(Nat.lt_trans hk hi) := by rw [List.getD_eq_getElem?_getD, List.getElem?_eq_getElem (Nat.lt_trans hk hi)]; rfl
  have hs1 := hsz i hi
  have hs2 := hsz k (Nat.lt_trans hk hi)
  rw [e1] at hs1
  rw [e2] at hs2
  rcases Nat.lt_trichotomy p q with h | h | h
  · have := chain p q h hql
    rw [hpe, hqe, e1, e2] at this
    unfold lap
    simp only [Bool.and_eq_false_iff, decide_eq_false_iff_not]
    omega
  · subst h
    rw [hpe] at hqe
    omega
  · have := chain q p h hpl
    rw [hpe, hqe, e1, e2] at this
    unfold lap
    simp only [Bool.and_eq_false_iff, decide_eq_false_iff_not]
    omega
theorem not_free_of_sorted {r : List Rg} (hb : ∀ y ∈ r, badRg y = false) {o : List Nat} (hp : o.Perm (List.range r.length))
    (hs : ∀ i j (hi : i < j) (hj : j < o.length), (r.getD (o[i]'(Nat.lt_trans hi hj)) (⟨#[]⟩, 0, 0)).2.1 ≤ (r.getD o[j] (⟨#[]⟩, 0, 0)).2.1)
    {n : Nat} (h0 : 0 < n) (hn : n < o.length) (ha : (r.getD o[n] (⟨#[]⟩, 0, 0)).2.1 < (r.getD (o[n - 1]'(by omega)) (⟨#[]⟩, 0, 0)).2.1 + (r.getD (o[n - 1]'(by omega)) (⟨#[]⟩, 0, 0)).2.2) : ¬ Free r := by
  intro hF
  have hol : ∀ i (hi : i < o.length), o[i] < r.length := by
    intro i hi
    have := hp.subset (List.getElem_mem hi)
    simpa using this
  have hnd : o.Nodup := hp.symm.nodup List.nodup_range
  have h1 := hol n hn
  have h2 := hol (n - 1) (by omega)
  have hne : o[n] ≠ o[n - 1]'(by omega) := by
    intro e
    have := (List.getElem_inj (h₀ := hn) (h₁ := by omega) hnd).1 e
    omega
  have hl := hF.at h1 h2 hne
  have hle := hs (n - 1) n (by omega) hn
  have hsz := hb _ (List.getElem_mem h1)
  have e1 : r.getD o[n] (⟨#[]⟩, 0, 0) = r[o[n]] := by rw [List.getD_eq_getElem?_getD, List.getElem?_eq_getElem h1]; rfl
  have e2 : r.getD (o[n - 1]'(by omega)) (⟨#[]⟩, 0, 0) = r[o[n - 1]'(by omega)] := by rw [List.getD_eq_getElem?_getD, List.getElem?_eq_getElem h2]; rfl
  rw [e1, e2] at ha hle
  unfold lap at hl
  unfold badRg at hsz
  simp only [Bool.and_eq_false_iff, Bool.or_eq_false_iff, decide_eq_false_iff_not] at hl hsz
  omega

abbrev rgz : Rg := (⟨#[]⟩, 0, 0)
theorem getD_at {α : Type} {l : List α} {k : Nat} {z : α} (h : k < l.length) : l.getD k z = l[k] := by rw [List.getD_eq_getElem?_getD, List.getElem?_eq_getElem h]; rfl
theorem getD_hd {α : Type} {l : List α} {k : Nat} {x z : α} (h : Hid (l.drop k = x :: l.drop (k + 1))) : k < l.length ∧ l.getD k z = x := by
  have hk : k < l.length := by
    rcases Nat.lt_or_ge k l.length with hk | hk
    · exact hk
    · rw [List.drop_eq_nil_of_le hk] at h; cases h.out
  have := h.out
  rw [List.drop_eq_getElem_cons hk] at this
  injection this with h1 _
  exact ⟨hk, by rw [getD_at hk, h1]⟩
abbrev rgs (l : List Rg) : List Value := flat3 (fun x : Rg => .string x.1) (fun x => .int .i64 x.2.1) (fun x => .int .i64 x.2.2) l
theorem rgAt {w : World} {B k : Nat} {A : Option Addr} {l : List Rg} (h : Reads w B 3 A l.length (rgs l)) (hk : k < l.length) :
    ∃ b off s B' S, A = some ⟨b, off, none⟩ ∧ b < B ∧ w.cell? ⟨b, off + k * 3, none⟩ = some (.string s) ∧ w.cell? ⟨b, off + k * 3 + 1, none⟩ = some (.int .i64 B') ∧ w.cell? ⟨b, off + k * 3 + 2, none⟩ = some (.int .i64 S) ∧
      Hid (l.drop k = (s, B', S) :: l.drop (k + 1)) := by
  obtain ⟨b, off, e, hb, c1, c2, c3⟩ := h.at3 rfl hk
  exact ⟨b, off, _, _, _, e, hb, c1, c2, c3, List.drop_eq_getElem_cons hk⟩
/-- no region is out of its range, up to k -/
def Good (r : List Rg) (k : Nat) : Prop := ∀ y ∈ r.take k, badRg y = false
theorem Good.start (r : List Rg) : Good r 0 := fun y hy => by simp at hy
theorem Good.step {r : List Rg} {k : Nat} {y : Rg} (h : Good r k) (hd : Hid (r.drop k = y :: r.drop (k + 1))) (e : badRg y = false) : Good r (k + 1) := by
  intro z hz
  rw [take_of_drop hd.out] at hz
  rcases List.mem_append.1 hz with hz | hz
  · exact h z hz
  · rw [List.mem_singleton.1 hz]; exact e
theorem Good.all {r : List Rg} {k : Nat} (h : Good r k) (hk : r.length ≤ k) : ∀ y ∈ r, badRg y = false := by
  unfold Good at h; rwa [List.take_of_length_le hk] at h
/-- none of the first i meets one before it -/
def FreeTo (r : List Rg) (i : Nat) : Prop := ∀ p q, p < i → p < r.length → q < p → lap (r.getD p rgz) (r.getD q rgz) = false
def FreeIn (r : List Rg) (i k : Nat) : Prop := FreeTo r i ∧ ∀ q, q < k → lap (r.getD i rgz) (r.getD q rgz) = false
theorem FreeTo.start (r : List Rg) : FreeTo r 0 := fun p q h => absurd h (by omega)
theorem FreeIn.start {r : List Rg} {i : Nat} (h : FreeTo r i) : FreeIn r i 0 := ⟨h, fun q hq => absurd hq (by omega)⟩
theorem FreeIn.step {r : List Rg} {i k : Nat} (h : FreeIn r i k) (e : lap (r.getD i rgz) (r.getD k rgz) = false) : FreeIn r i (k + 1) :=
  ⟨h.1, fun q hq => by
    rcases Nat.lt_or_ge q k with h1 | h1
    · exact h.2 q h1
    · rw [show q = k by omega]; exact e⟩
theorem FreeIn.done {r : List Rg} {i k : Nat} (h : FreeIn r i k) (hk : i ≤ k) : FreeTo r (i + 1) := fun p q hp hl hq => by
  rcases Nat.lt_or_ge p i with h1 | h1
  · exact h.1 p q h1 hl hq
  · obtain rfl : p = i := by omega
    exact h.2 q (by omega)
theorem FreeTo.free {r : List Rg} {i : Nat} (h : FreeTo r i) (hi : r.length ≤ i) : Free r := fun p q hp hq => by
  have := h p q (by omega) hp hq
  rwa [getD_at hp, getD_at (Nat.lt_trans hq hp)] at this
theorem not_free {r : List Rg} {i k : Nat} (hi : i < r.length) (hk : k < i) (e : lap (r.getD i rgz) (r.getD k rgz) = true) : ¬ Free r := fun h => by
  have := h i k hi hk
  rw [getD_at hi, getD_at (Nat.lt_trans hk hi)] at e
  rw [e] at this; cases this
/-- the error of Parts -/
def PtE (r : List Rg) (e : Int) : Prop := ((∃ y ∈ r, badRg y = true) ∧ e = 7) ∨ ((∀ y ∈ r, badRg y = false) ∧ ¬ Free r ∧ e = 6) ∨ ((∀ y ∈ r, badRg y = false) ∧ Free r ∧ e = 0)
theorem PtE.any (r : List Rg) : ∃ e, PtE r e := by
  by_cases h : ∃ y ∈ r, badRg y = true
  · exact ⟨7, .inl ⟨h, rfl⟩⟩
  · have h' : ∀ y ∈ r, badRg y = false := fun y hy => by
      cases hb : badRg y
      · rfl
      · exact absurd ⟨y, hy, hb⟩ h
    by_cases hF : Free r
    · exact ⟨0, .inr (.inr ⟨h', hF, rfl⟩)⟩
    · exact ⟨6, .inr (.inl ⟨h', hF, rfl⟩)⟩
theorem PtE.bad {r : List Rg} {e : Int} (h : PtE r e) {y : Rg} (hy : y ∈ r) (hb : badRg y = true) : e = 7 := by
  rcases h with ⟨_, h⟩ | ⟨h, _⟩ | ⟨h, _⟩
  · exact h
  · rw [h y hy] at hb; cases hb
  · rw [h y hy] at hb; cases hb
theorem PtE.laps {r : List Rg} {e : Int} (h : PtE r e) (hg : ∀ y ∈ r, badRg y = false) (hF : ¬ Free r) : e = 6 := by
  rcases h with ⟨⟨y, hy, hb⟩, _⟩ | ⟨_, _, h⟩ | ⟨_, h, _⟩
  · rw [hg y hy] at hb; cases hb
  · exact h
  · exact absurd h hF
theorem PtE.ok {r : List Rg} {e : Int} (h : PtE r e) (hg : ∀ y ∈ r, badRg y = false) (hF : Free r) : e = 0 := by
  rcases h with ⟨⟨y, hy, hb⟩, _⟩ | ⟨_, h, _⟩ | ⟨_, _, h⟩
  · rw [hg y hy] at hb; cases hb
  · exact absurd hF h
  · exact h
theorem PtE.range {r : List Rg} {e : Int} (h : PtE r e) : 0 ≤ e ∧ e ≤ 7 := by
  rcases h with ⟨_, rfl⟩ | ⟨_, _, rfl⟩ | ⟨_, _, rfl⟩ <;> omega
def ptL (l : List Ev) (r : List Rg) (e : Int) : List Int := if e = 0 then cnts l r else []
theorem badRg_iff {s : ByteArray} {B S : Int} : badRg (s, B, S) = false ↔ (0 ≤ B ∧ 1 ≤ S) ∧ B ≤ 65536 ∧ S ≤ 65536 - B := by
  unfold badRg; simp only [Bool.or_eq_false_iff, decide_eq_false_iff_not]; omega
theorem zeros_made (z : Value) (n : Nat) : madeCells #[z] n = (List.replicate n z).toArray := by
  apply Array.ext
  · simp [madeCells]
  · intro i h1 h2
    simp [madeCells, Nat.mod_one]
theorem ints_made (n : Nat) : madeCells #[.int .i64 0] n = (ints (List.replicate n 0)).toArray := by rw [zeros_made]; simp
theorem ints_set (l : List Int) (i : Nat) (n : Int) : (ints l).toArray.setIfInBounds i (.int .i64 n) = (ints (l.set i n)).toArray := by simp [ints, List.map_set]
theorem ints_get {l : List Int} {i : Nat} (h : i < l.length) : (ints l)[i]? = some (.int .i64 (l.getD i 0)) := by simp [ints, List.getElem?_map, List.getElem?_eq_getElem h, List.getD]
theorem lastR_zero (r : List Rg) (a : Int) : lastR r a 0 = r.length := rfl
theorem lastR_le (r : List Rg) (a : Int) (k : Nat) (hk : k ≤ r.length) : lastR r a k ≤ r.length := by
  induction k with
  | zero => exact Nat.le_refl _
  | succ k ih =>
    rw [lastR_succ r a k (by omega)]
    split
    · omega
    · exact ih (by omega)
theorem lastR_in {r : List Rg} {a : Int} {k : Nat} {y : Rg} (hd : Hid (r.drop k = y :: r.drop (k + 1))) (e : rIn a y = true) : lastR r a (k + 1) = k := by
  obtain ⟨hk, hy⟩ := getD_hd (z := rgz) hd
  rw [getD_at hk] at hy
  rw [lastR_succ r a k hk, hy, if_pos e]
theorem lastR_out {r : List Rg} {a : Int} {k : Nat} {y : Rg} (hd : Hid (r.drop k = y :: r.drop (k + 1))) (e : rIn a y = false) : lastR r a (k + 1) = lastR r a k := by
  obtain ⟨hk, hy⟩ := getD_hd (z := rgz) hd
  rw [getD_at hk] at hy
  rw [lastR_succ r a k hk, hy, if_neg (by rw [e]; simp)]
theorem cnts_bd (l : List Ev) (r : List Rg) (i : Nat) : 0 ≤ (cnts l r).getD i 0 ∧ (cnts l r).getD i 0 ≤ l.length := by
  rcases Nat.lt_or_ge i (cnts l r).length with h | h
  · rw [getD_at h]
    simp only [cnts, List.getElem_map, List.getElem_range]
    have := List.countP_le_length (l := l) (p := fun x => decide (idxR r x.2 = i))
    omega
  · rw [List.getD_eq_getElem?_getD, List.getElem?_eq_none h]; simp
end Go.Proofs.YtpgojecldmcopaaGreatDoor
