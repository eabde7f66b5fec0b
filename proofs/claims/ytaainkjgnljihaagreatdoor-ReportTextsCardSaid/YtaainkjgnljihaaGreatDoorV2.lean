/- Reports' texts: the numbers of a line, by the program and by the reference. No condition. -/
import Derived.Test.YtaainkjgnljihaaGreatDoorV1
import Derived.Test.YtaainkjgnljihaaGreatDoorN6
import Derived.Test.YtaainkjgnljihaaGreatDoorN9
import Derived.Test.YtaainkjgnljihaaGreatDoorN11
import Derived.Test.YtaainkjgnljihaaGreatDoorN13
import Derived.Test.YtaainkjgnljihaaGreatDoorN20
namespace Go.Proofs.YtaainkjgnljihaaGreatDoor
open Go.RowKit
theorem intEl : Elem Tryz.prog 46 3 (.int .i64 0) 1 8 := ⟨Tryz.underlying46, by kernel_rfl, rfl, by decide⟩
/-- a list of numbers, and whether there is one -/
def RetNs (w : World) (o : Option (List Int)) (e : Ending) (w' : World) : Prop :=
  ∃ v, e = .returned (.tuple #[v, .bool o.isSome]) ∧ Below w.heap.size w w' ∧ w'.ownsRow w.heap.size 3 1 v (o.getD []).length (ints (o.getD []))
theorem own_base {w : World} {base base' size n : Nat} {e : TypeId} {v : Value} {xs : List Value} (h : w.ownsRow base e size v n xs) (hb : base' ≤ base) : w.ownsRow base' e size v n xs := by
  refine ⟨h.1, ?_⟩
  rcases h.2 with hn | ⟨g, cap, cur, rfl, hbg, hgg, rest⟩
  · exact .inl hn
  · exact .inr ⟨g, cap, cur, rfl, Nat.le_trans hb hbg, hgg, rest⟩
theorem RetNs.no {w w' : World} {o : Option (List Int)} (hb : Below w.heap.size w w') (ho : o = none) : RetNs w o (.returned (.tuple #[.slice none 0 0, .bool false])) w' := by
  subst ho
  exact ⟨_, rfl, hb, World.ownsRow_nil _ _ _ _⟩
theorem RetNs.yes {w w' : World} {base : Nat} {o : Option (List Int)} {k : Nat} {ns : List Int} {v : Value} (hown : w'.ownsRow base 3 1 v k (ints ns)) (hB : w.heap.size ≤ base) (hk : ns.length = k) (hb : Below w.heap.size w w') (ho : o = some ns) : RetNs w o (.returned (.tuple #[v, .bool true])) w' := by
  subst ho hk
  exact ⟨v, rfl, hb, own_base hown hB⟩
def NsRel (T : Option (List Int)) (rest : List Fd) (acc : List Int) : Prop := T = (numsF rest).map (acc ++ ·)
theorem NsRel.start (r : List Fd) : NsRel (numsF r) r [] := by unfold NsRel; rcases numsF r with _ | l <;> rfl
theorem NsRel.step {T : Option (List Int)} {f : Fd} {rest : List Fd} {acc : List Int} {n : Int} (h : NsRel T (f :: rest) acc) (hf : numF f = some n) : NsRel T rest (acc ++ [n]) := by
  unfold NsRel at *
  rw [h, numsF, hf]
  simp only
  rcases numsF rest with _ | l <;> simp
theorem NsRel.stop {T : Option (List Int)} {f : Fd} {rest : List Fd} {acc : List Int} (h : NsRel T (f :: rest) acc) (hf : numF f = none) : T = none := by
  unfold NsRel at h
  rw [h, numsF, hf]; rfl
theorem NsRel.done {T : Option (List Int)} {acc : List Int} (h : NsRel T [] acc) : T = some acc := by
  unfold NsRel at h
  rw [h]; simp [numsF]
theorem numF_err {l : List UInt8} {q : Bool} {n e : Int} (h : intR l 0 1000000000 = (n, e)) (he : e ≠ 0) : numF (l, q) = none := by
  unfold numF; rw [if_neg]; rintro ⟨_, h2⟩; rw [h] at h2; exact he h2
theorem numF_quoted (l : List UInt8) : numF (l, true) = none := by unfold numF; rw [if_neg]; simp
theorem numF_yes {l : List UInt8} {n : Int} (h : intR l 0 1000000000 = (n, 0)) : numF (l, false) = some n := by unfold numF; rw [if_pos ⟨rfl, by rw [h]⟩, h]
theorem lineN_err (word : List UInt8) (many : Nat) {x : List UInt8} {fs : List Fd} {er : Int} (hq : splitL x = (fs, er)) (h : er ≠ 0) : lineN word many x = none := by unfold lineN; rw [hq, if_pos h]
theorem lineN_many (word : List UInt8) {many : Nat} {x : List UInt8} {fs : List Fd} (hq : splitL x = (fs, 0)) (h : fs.length ≠ many + 1) : lineN word many x = none := by
  unfold lineN
  rw [hq, if_neg (by simp)]
  simp only
  rcases fs with _ | ⟨f, r⟩
  · rfl
  · simp only; rw [if_neg]; rintro ⟨h1, _⟩; apply h; simp [h1]
theorem lineN_head (word : List UInt8) (many : Nat) {x : List UInt8} {fs : List Fd} {f : Fd} (hq : splitL x = (fs, 0)) (h0 : fs.drop 0 = f :: fs.drop 1) (h : f ≠ (word, false)) : lineN word many x = none := by
  unfold lineN
  rw [hq, if_neg (by simp)]
  simp only
  rw [List.drop_zero] at h0
  rw [h0]
  simp only
  rw [if_neg]; rintro ⟨_, h1⟩; exact h h1
theorem lineN_rest {word : List UInt8} {many : Nat} {x : List UInt8} {fs : List Fd} {f : Fd} (hq : splitL x = (fs, 0)) (h0 : fs.drop 0 = f :: fs.drop 1) (hl : fs.length = many + 1) (h : f = (word, false)) : lineN word many x = numsF (fs.drop 1) := by
  unfold lineN
  rw [hq, if_neg (by simp)]
  simp only
  rw [List.drop_zero] at h0
  conv => lhs; rw [h0]
  simp only
  rw [if_pos ⟨by rw [List.length_drop]; omega, h⟩]
theorem cIntN (x : ByteArray) (n e0 : Int) (w : World) (hR : ER w) (hs : x.size ≤ 2000) (h : Hid (intR x.data.toList 0 1000000000 = (n, e0))) :
    Calls Tryz.prog 41 #[.string x, .int .i64 0, .int .i64 1000000000] w fun e w' => e = .returned (.tuple #[.int .i64 n, .int .i64 e0]) ∧ Below w.heap.size w w' := by
  have := int_ x 0 1000000000 w (by omega) hR
  rw [h.out] at this
  exact this
theorem rIntN (x : ByteArray) (n e0 : Int) (w : World) (hs : x.size ≤ 2000) (h : Hid (intR x.data.toList 0 1000000000 = (n, e0))) :
    Calls Tryz.prog 43 #[.string x, .int .i64 0, .int .i64 1000000000] w fun e w' => e = .returned (.tuple #[.int .i64 n, .int .i64 e0]) ∧ Below w.heap.size w w' := by
  have := rint_ x 0 1000000000 w (by omega)
  rw [h.out] at this
  exact this
theorem fs_short {x : List UInt8} {fs : List Fd} (hq : splitL x = (fs, 0)) : ∀ f ∈ fs, f.1.length ≤ 2000 := by
  obtain ⟨_, ⟨_, rfl⟩ | ⟨_, _, h, _⟩⟩ := splitL_zero hq
  · simp
  · exact not_long h
theorem beq_of {α : Type} [DecidableEq α] {a b : α} (h : a ≠ b) : (!(decide (a = b))) = true := by simp [h]
theorem fd_ne {F word : ByteArray} {q : Bool} (h : ((F.data.toList, q) : Fd) ≠ (word.data.toList, false)) : decide ((F, q) = (word, false)) = false := by
  rw [decide_eq_false_iff_not]
  intro e
  injection e with e1 e2
  exact h (by rw [e1, e2])
theorem fd_eq {F word : ByteArray} {q : Bool} (h : ((F.data.toList, q) : Fd) = (word.data.toList, false)) : decide ((F, q) = (word, false)) = true := by
  rw [decide_eq_true_iff]
  injection h with e1 e2
  rw [ByteArray.ext (Array.toList_inj.1 e1), e2]
set_option maxRecDepth 100000 in
set_option maxHeartbeats 4000000 in
theorem numbers_ (x word : ByteArray) (many : Nat) (hm1 : 1 ≤ many) (hm : many ≤ 10) (w : World) (hE : Esc w) (hM : ML w) (hR : ER w) :
    Calls Tryz.prog 24 #[.string x, .string word, .int .i64 (many : Int)] w (RetNs w (lineN word.data.toList many x.data.toList)) := by
  rcases hq : splitL x.data.toList with ⟨fs, er⟩
  have hsp : Calls Tryz.prog 40 #[.string x] w (RetSl w 2 (fds fs) fs.length er) := by
    have h1 := split_ x w hE hM
    rw [hq] at h1
    exact h1
  have Hsp := Lib.hid hsp
  clear hsp
  by_cases her : er = 0
  case neg =>
    have Hn := Lib.hid (lineN_err word.data.toList many hq her)
    have e1 : (er != 0) = true := by simpa using her
    clear her hq
    go_enter Tryz.func24, Tryz.ntmps24
    go_wp2_with fail
    (with_reducible refine (Hsp.out).mono ?_); rintro e w1 ⟨A, c, rfl, hb1, hr1, hc1, hc2⟩
    go_wp2
    go_ret2
    exact .no hb1 Hn.out
  subst her
  by_cases hl : fs.length = many + 1
  case neg =>
    have Hn := Lib.hid (lineN_many word.data.toList hq hl)
    have e2 : ((fs.length : Int) != (many : Int) + 1) = true := by rw [bne_iff_ne]; omega
    clear hl hq
    go_enter Tryz.func24, Tryz.ntmps24
    go_wp2_with fail
    (with_reducible refine (Hsp.out).mono ?_); rintro e w1 ⟨A, c, rfl, hb1, hr1, hc1, hc2⟩
    go_wp2
    go_ret2
    exact .no hb1 Hn.out
  have e2 : ((fs.length : Int) != (many : Int) + 1) = false := by simp; omega
  have i0 : (0 : Int) < (fs.length : Int) := by omega
  have Hshort := Lib.hid (fs_short hq)
  have Hq := Lib.hid hq
  clear hq
  go_enter Tryz.func24, Tryz.ntmps24
  go_wp2_with fail
  (with_reducible refine (Hsp.out).mono ?_); rintro e w1 ⟨A, c, rfl, hb1, hr1, hc1, hc2⟩
  obtain ⟨bk, off, F, q, rfl, hbk, d1, d2, hd⟩ := fdAt hr1 (k := 0) (by omega)
  rw [Nat.zero_mul, Nat.add_zero] at d1 d2
  by_cases hf : ((F.data.toList, q) : Fd) = (word.data.toList, false)
  case neg =>
    have Hn := Lib.hid (lineN_head word.data.toList many Hq.out hd.out hf)
    cases q
    case true =>
      clear hf
      go_wp2
      go_ret2
      exact .no hb1 Hn.out
    case false =>
      have e3 : ¬ (F = word) := fun e => hf (by rw [e])
      clear hf
      go_wp2
      go_ret2
      exact .no hb1 Hn.out
  have Hn := Lib.hid (lineN_rest Hq.out hd.out hl hf)
  obtain rfl : q = false := by injection hf
  obtain rfl : F = word := by injection hf with h1; exact ByteArray.ext (Array.toList_inj.1 h1)
  obtain ⟨r, hr⟩ : ∃ r, r = fs.drop 1 := ⟨_, rfl⟩
  have hrl : r.length = many := by rw [hr, List.length_drop]; omega
  have Hshr : Hid (∀ f ∈ r, f.1.length ≤ 2000) := Lib.hid (by rw [hr]; intro f hf; exact Hshort.out f (List.mem_of_mem_drop hf))
  have hcn : ¬ c = 1 := by omega
  have hr2 := hr1.cut (k := 1) (cap := c) (by omega) hc1
  rw [flat2_drop, ← hr, if_neg hcn] at hr2
  have e4 : fs.length - 1 = r.length := by omega
  have e5 : ((fs.length : Int) - 1).toNat = r.length := by omega
  rw [e4] at hr2
  replace hr2 : Reads w1 w1.heap.size 2 (some ⟨bk, off + 2, none⟩) r.length (fds r) := by
    rw [show Option.map (fun x : Addr => x.add (1 * 2)) (some ⟨bk, off, none⟩) = some ⟨bk, off + 2, none⟩ by simp [add_lit]] at hr2
    exact hr2
  subst hrl
  rw [← hr] at Hn
  have HR2 := Lib.hid hr2
  clear hf hr hr1 hr2 hd e4 Hshort Hq
  go_wp2
  clear d1 d2 e2 i0
  go_loopw [10, 40] (fun v i wr => ∃ (k : Nat) (acc : List Int), k ≤ r.length ∧ i = .int .i64 k ∧ wr.ownsRow w1.heap.size 3 1 v k (ints acc) ∧ Below w1.heap.size w1 wr ∧ Hid (acc.length = k) ∧ Hid (NsRel (numsF r) (r.drop k) acc)) (fun _ i _ => r.length - (intOf i).toNat)
  case atStart => exact ⟨0, [], Nat.zero_le _, rfl, World.ownsRow_nil _ _ _ _, Below.refl _ _, Lib.hid rfl, Lib.hid (NsRel.start r)⟩
  case round =>
    obtain ⟨k, acc, hk, rfl, hown, hb1w, hal, hrel⟩ := hrel
    by_cases hlt : k < r.length
    case neg =>
      obtain rfl : k = r.length := by omega
      have hdn := hrel.out
      rw [List.drop_length] at hdn
      have Hdn := Lib.hid (Hn.out.trans hdn.done)
      have hbe := bt hb1 hb1w
      clear hdn hrel
      go_wp2
      go_ret2
      exact .yes hown hb1.size hal.out hbe Hdn.out
    have i1 : (k : Int) < (r.length : Int) := by omega
    obtain ⟨b2, off2, F2, q2, hA', hb2, c1, c2, hd2⟩ := fdAt (HR2.out.below hb1w) hlt
    have hFs : F2.size ≤ 2000 := Hshr.out (F2.data.toList, q2) (List.mem_of_mem_drop (i := k) (by rw [hd2.out]; exact List.mem_cons_self))
    have hrel2 := hrel.out
    rw [hd2.out] at hrel2
    have Hrel := Lib.hid hrel2
    have hbw := bt hb1 hb1w
    clear hrel hrel2 hd2
    injection hA' with hA'; injection hA' with a1 a2; subst a1 a2
    rcases hn : intR F2.data.toList 0 1000000000 with ⟨n, e0⟩
    by_cases he0 : e0 = 0
    case neg =>
      have Hno := Lib.hid (Hn.out.trans (Hrel.out.stop (numF_err hn he0)))
      have e5 : (e0 != 0) = true := by simpa using he0
      have hI := cIntN F2 n e0 (wr.alloc (fdO F2 q2)) (hR.below (ba hbw _)) hFs (Lib.hid hn)
      have HI := Lib.hid hI
      clear hn hI he0
      go_wp2_with fail
      (with_reducible refine (HI.out).mono ?_); rintro e w2 ⟨rfl, hb5⟩
      have hbe := bt (ba hbw _) hb5
      go_wp2
      go_ret2
      exact .no hbe Hno.out
    subst he0
    have hI := cIntN F2 n 0 (wr.alloc (fdO F2 q2)) (hR.below (ba hbw _)) hFs (Lib.hid hn)
    have HI := Lib.hid hI
    have Hnn := Lib.hid hn
    clear hn hI
    cases q2
    case true =>
      have Hno := Lib.hid (Hn.out.trans (Hrel.out.stop (numF_quoted _)))
      go_wp2_with fail
      (with_reducible refine (HI.out).mono ?_); rintro e w2 ⟨rfl, hb5⟩
      have k1 : w2.cell? ⟨wr.heap.size, 1, none⟩ = some (.bool true) := (hb5.cell (p := ⟨wr.heap.size, 1, none⟩) (by simp)).trans (Lib.cell_of_heap (alloc1_new wr (fdO F2 true)) 1)
      have hbe := bt (ba hbw _) hb5
      go_wp2
      go_ret2
      exact .no hbe Hno.out
    case false =>
      have Hst := Lib.hid (Hrel.out.step (numF_yes Hnn.out))
      have Hal := Lib.hid (show (acc ++ [n]).length = k + 1 by rw [List.length_append, hal.out]; rfl)
      go_wp2_with fail
      (with_reducible refine (HI.out).mono ?_); rintro e w2 ⟨rfl, hb5⟩
      have k1 : w2.cell? ⟨wr.heap.size, 1, none⟩ = some (.bool false) := (hb5.cell (p := ⟨wr.heap.size, 1, none⟩) (by simp)).trans (Lib.cell_of_heap (alloc1_new wr (fdO F2 false)) 1)
      have hb1e := bt (ba hb1w _) hb5
      have ho3 := own_below (hown.alloc (fdO F2 false)) hb5
      clear hb5 hown
      go_wp2_with (at_builtin; refine wpList_ap intEl (ho3.alloc _) (ba hb1e _) [.int .i64 n] (alloc1_new _ _) ?_)
      intro g2 cap w4 hown4 hb4 hg4
      go_wp2
      go_roundw
      case rel => exact ⟨k + 1, acc ++ [n], by omega, by go_num, by simpa using hown4, hb4, Hal, Hst⟩
      case measure => simp [intOf]; omega
/-- the reference's -/
theorem drop_succ_len {α : Type} {l : List α} {j : Nat} (h : l.length ≤ j) : l.drop j = [] := List.drop_eq_nil_of_le h
set_option maxRecDepth 100000 in
set_option maxHeartbeats 4000000 in
theorem rrow_ (x word : ByteArray) (many : Nat) (hm : many ≤ 10) (w : World) (hx : x.size ≤ 1099511627776) :
    Calls Tryz.prog 27 #[.string x, .string word, .int .i64 (many : Int)] w (RetNs w (lineN word.data.toList many x.data.toList)) := by
  rcases hq : splitL x.data.toList with ⟨fs, er⟩
  have hsp : Calls Tryz.prog 42 #[.string x] w (RetSl w 2 (fds fs) fs.length er) := by
    have h1 := rsplit x w hx
    rw [hq] at h1
    exact h1
  have Hsp := Lib.hid hsp
  clear hsp
  by_cases her : er = 0
  case neg =>
    have Hn := Lib.hid (lineN_err word.data.toList many hq her)
    have e1 : (er != 0) = true := by simpa using her
    clear her hq
    go_enter Tryz.func27, Tryz.ntmps27
    go_wp2_with fail
    (with_reducible refine (Hsp.out).mono ?_); rintro e w1 ⟨A, c, rfl, hb1, hr1, hc1, hc2⟩
    go_wp2
    go_ret2
    exact .no hb1 Hn.out
  subst her
  by_cases hl : fs.length = many + 1
  case neg =>
    have Hn := Lib.hid (lineN_many word.data.toList hq hl)
    have e2 : ((fs.length : Int) != (many : Int) + 1) = true := by rw [bne_iff_ne]; omega
    clear hl hq
    go_enter Tryz.func27, Tryz.ntmps27
    go_wp2_with fail
    (with_reducible refine (Hsp.out).mono ?_); rintro e w1 ⟨A, c, rfl, hb1, hr1, hc1, hc2⟩
    go_wp2
    go_ret2
    exact .no hb1 Hn.out
  have e2 : ((fs.length : Int) != (many : Int) + 1) = false := by simp; omega
  have i0 : (0 : Int) < (fs.length : Int) := by omega
  have Hshort := Lib.hid (fs_short hq)
  have Hq := Lib.hid hq
  clear hq
  go_enter Tryz.func27, Tryz.ntmps27
  go_wp2_with fail
  (with_reducible refine (Hsp.out).mono ?_); rintro e w1 ⟨A, c, rfl, hb1, hr1, hc1, hc2⟩
  have HR1 := Lib.hid hr1
  obtain ⟨bk, off, F, q, rfl, hbk, d1, d2, hd⟩ := fdAt hr1 (k := 0) (by omega)
  rw [Nat.zero_mul, Nat.add_zero] at d1 d2
  clear hr1
  cases q
  case true =>
    have Hn := Lib.hid (lineN_head word.data.toList many Hq.out hd.out (by simp))
    go_wp2
    go_ret2
    exact .no hb1 Hn.out
  by_cases hf : F.data.toList = word.data.toList
  case neg =>
    have Hn := Lib.hid (lineN_head word.data.toList many Hq.out hd.out (by simpa using hf))
    have e3 : (F.toList == word.toList) = false := by rw [ByteArray.toList_eq, ByteArray.toList_eq]; simpa using hf
    have e3' : ¬ (F.toList = word.toList) := by rw [ByteArray.toList_eq, ByteArray.toList_eq]; exact hf
    clear hf
    go_wp2
    go_ret2
    exact .no hb1 Hn.out
  have Hn := Lib.hid (lineN_rest Hq.out hd.out hl (by rw [hf]))
  have e3 : (F.toList == word.toList) = true := by rw [ByteArray.toList_eq, ByteArray.toList_eq]; simpa using hf
  have hfl : fs.length ≤ 11 := by omega
  have Hl := Lib.hid hl
  clear hf hd hl
  go_wp2
  clear d1 d2 e2 e3
  go_loopw [10, 11] (fun v i wr => ∃ (k : Nat) (acc : List Int), k + 1 ≤ fs.length ∧ i = .int .i64 ((k : Int) + 1) ∧ wr.ownsRow w1.heap.size 3 1 v k (ints acc) ∧ Below w1.heap.size w1 wr ∧ Hid (acc.length = k) ∧ Hid (NsRel (numsF (fs.drop 1)) (fs.drop (k + 1)) acc)) (fun _ i _ => fs.length - (intOf i).toNat)
  case atStart => exact ⟨0, [], by omega, rfl, World.ownsRow_nil _ _ _ _, Below.refl _ _, Lib.hid rfl, Lib.hid (NsRel.start _)⟩
  case round =>
    obtain ⟨k, acc, hk, rfl, hown, hb1w, hal, hrel⟩ := hrel
    by_cases hlt : k + 1 < fs.length
    case neg =>
      have i1 : ¬ ((k : Int) + 1 < (fs.length : Int)) := by omega
      have hdn := hrel.out
      have hnil := List.drop_eq_nil_of_le (show fs.length ≤ k + 1 by omega)
      rw [hnil] at hdn
      have Hdn := Lib.hid (Hn.out.trans hdn.done)
      have hbe := bt hb1 hb1w
      clear hdn hrel hnil
      go_wp2
      go_ret2
      exact .yes hown hb1.size hal.out hbe Hdn.out
    have i1 : (k : Int) + 1 < (fs.length : Int) := by omega
    have i2 : (0 : Int) ≤ (k : Int) + 1 := by omega
    have i3 : ((k : Int) + 1).toNat = k + 1 := by omega
    obtain ⟨b2, off2, F2, q2, hA', hb2, c1, c2, hd2⟩ := fdAt (HR1.out.below hb1w) hlt
    injection hA' with hA'; injection hA' with a1 a2
    subst a1 a2
    have hFs : F2.size ≤ 2000 := Hshort.out (F2.data.toList, q2) (List.mem_of_mem_drop (i := k + 1) (by rw [hd2.out]; exact List.mem_cons_self))
    have hrel2 := hrel.out
    rw [hd2.out] at hrel2
    have Hrel := Lib.hid hrel2
    have hbw := bt hb1 hb1w
    clear hrel hrel2 hd2
    rcases hn : intR F2.data.toList 0 1000000000 with ⟨n, e0⟩
    have hI := rIntN F2 n e0 wr hFs (Lib.hid hn)
    by_cases he0 : e0 = 0
    case neg =>
      have Hno := Lib.hid (Hn.out.trans (Hrel.out.stop (numF_err hn he0)))
      have e5 : (e0 != 0) = true := by simpa using he0
      have HI := Lib.hid hI
      clear hn hI he0
      go_wp2_with fail
      (with_reducible refine (HI.out).mono ?_); rintro e w2 ⟨rfl, hb5⟩
      have hbe := bt hbw hb5
      go_wp2
      go_ret2
      exact .no hbe Hno.out
    subst he0
    have HI := Lib.hid hI
    have Hnn := Lib.hid hn
    have hb2w : bk < wr.heap.size := Nat.lt_of_lt_of_le hb2 hb1w.size
    clear hn hI
    cases q2
    case true =>
      have Hno := Lib.hid (Hn.out.trans (Hrel.out.stop (numF_quoted _)))
      go_wp2_with fail
      (with_reducible refine (HI.out).mono ?_); rintro e w2 ⟨rfl, hb5⟩
      have k1 := (hb5.cell (p := ⟨bk, off + (k + 1) * 2 + 1, none⟩) hb2w).trans c2
      have hbe := bt hbw hb5
      clear c1 c2
      go_wp2
      go_ret2
      exact .no hbe Hno.out
    case false =>
      have Hst := Lib.hid (Hrel.out.step (numF_yes Hnn.out))
      have Hal := Lib.hid (show (acc ++ [n]).length = k + 1 by rw [List.length_append, hal.out]; rfl)
      go_wp2_with fail
      (with_reducible refine (HI.out).mono ?_); rintro e w2 ⟨rfl, hb5⟩
      have k1 := (hb5.cell (p := ⟨bk, off + (k + 1) * 2 + 1, none⟩) hb2w).trans c2
      have hb1e := bt hb1w hb5
      have ho3 := own_below hown hb5
      clear hb5 hown c1 c2
      go_wp2_with (at_builtin; refine wpList_ap intEl (ho3.alloc _) (ba hb1e _) [.int .i64 n] (alloc1_new _ _) ?_)
      intro g2 cap w4 hown4 hb4 hg4
      go_wp2
      go_roundw
      case rel => exact ⟨k + 1, acc ++ [n], by omega, by go_num, by simpa using hown4, hb4, Hal, Hst⟩
      case measure => simp [intOf]; omega
theorem numbers1_ (x word : ByteArray) (w : World) (hE : Esc w) (hM : ML w) (hR : ER w) :
    Calls Tryz.prog 24 #[.string x, .string word, .int .i64 1] w (RetNs w (lineN word.data.toList 1 x.data.toList)) := numbers_ x word 1 (by omega) (by omega) w hE hM hR
theorem numbers2_ (x word : ByteArray) (w : World) (hE : Esc w) (hM : ML w) (hR : ER w) :
    Calls Tryz.prog 24 #[.string x, .string word, .int .i64 2] w (RetNs w (lineN word.data.toList 2 x.data.toList)) := numbers_ x word 2 (by omega) (by omega) w hE hM hR
theorem rrow1_ (x word : ByteArray) (w : World) (hx : x.size ≤ 1099511627776) :
    Calls Tryz.prog 27 #[.string x, .string word, .int .i64 1] w (RetNs w (lineN word.data.toList 1 x.data.toList)) := rrow_ x word 1 (by omega) w hx
theorem rrow2_ (x word : ByteArray) (w : World) (hx : x.size ≤ 1099511627776) :
    Calls Tryz.prog 27 #[.string x, .string word, .int .i64 2] w (RetNs w (lineN word.data.toList 2 x.data.toList)) := rrow_ x word 2 (by omega) w hx
end Go.Proofs.YtaainkjgnljihaaGreatDoor
