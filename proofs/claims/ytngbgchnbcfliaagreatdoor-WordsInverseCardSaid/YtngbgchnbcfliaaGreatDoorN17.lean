/- words: Join of the program. No condition. -/
import Derived.Test.YtngbgchnbcfliaaGreatDoorN11
import Derived.Test.YtngbgchnbcfliaaGreatDoorN10
import Derived.Test.YtngbgchnbcfliaaGreatDoorW1
import Derived.Lib.Join
namespace Go.Proofs.YtngbgchnbcfliaaGreatDoor
open Go.RowKit
theorem strE : Elem Tryz.prog 61 9 (.string ⟨#[]⟩) 1 16 := ⟨Tryz.underlying61, by kernel_rfl, rfl, by decide⟩
abbrev Ss (l : List ByteArray) : List Value := l.map Value.string
theorem joinS_snoc (xs : List (List UInt8)) (y : List UInt8) : Lib.join (xs ++ [y]) [32] = if xs = [] then y else Lib.join xs [32] ++ ([32] ++ y) := by
  cases xs with
  | nil => simp [Lib.join_one]
  | cons x r =>
    rw [List.cons_append, Lib.join_cons, Lib.join_cons]
    simp [Lib.joinTail]
/-- the text of a field; a field that has none -/
def txF (f : Fd) : List UInt8 := if f.2 = true then quoteB f.1 else f.1
def badB (f : Fd) : Bool := !f.2 && !bareL f.1
def joinT (l : List Fd) : List UInt8 := Lib.join (l.map txF) [32]
def joinL (l : List Fd) : List UInt8 × Int :=
  if 64 < l.length then ([], 3) else if anyLong l = true then ([], 3) else if l.any badB = true then ([], 6) else if 8192 < (joinT l).length then ([], 3) else (joinT l, 0)
theorem joinT_nil : joinT [] = [] := rfl
theorem joinT_snoc (l : List Fd) (f : Fd) : joinT (l ++ [f]) = if l = [] then txF f else joinT l ++ ([32] ++ txF f) := by
  unfold joinT
  rw [List.map_append, List.map_cons, List.map_nil, joinS_snoc]
  simp
theorem quoteB_len (l : List UInt8) : (quoteB l).length ≤ 4 * l.length + 2 := by
  have h : (l.flatMap escB).length ≤ 4 * l.length := by
    induction l with
    | nil => simp
    | cons x r ih =>
      have := escB_len x
      simp only [List.flatMap_cons, List.length_append, List.length_cons]; omega
  unfold quoteB
  simp only [List.length_cons, List.length_append, List.length_nil]; omega
theorem txF_len (f : Fd) (n : Nat) (h : f.1.length ≤ n) : (txF f).length ≤ 4 * n + 2 := by
  unfold txF
  split
  · have := quoteB_len f.1; omega
  · omega
theorem joinT_len (l : List Fd) (n : Nat) (h : ∀ f ∈ l, f.1.length ≤ n) : (joinT l).length ≤ l.length * (4 * n + 3) := by
  unfold joinT
  cases l with
  | nil => simp [Lib.join_nil]
  | cons x r =>
    rw [List.map_cons, Lib.join_cons]
    have hx := txF_len x n (h x (by simp))
    have hr : ∀ r : List Fd, (∀ f ∈ r, f.1.length ≤ n) → (Lib.joinTail [32] (r.map txF)).length ≤ r.length * (4 * n + 3) := by
      intro r
      induction r with
      | nil => intro _; simp [Lib.joinTail]
      | cons y t ih =>
        intro hy
        have h1 := txF_len y n (hy y (by simp))
        have h2 := ih (fun f hf => hy f (by simp [hf]))
        simp only [Lib.joinTail, List.map_cons, List.flatten_cons, List.length_append, List.length_cons, List.length_nil] at h2 ⊢
        rw [Nat.succ_mul]
        omega
    have h3 := hr r (fun f hf => h f (by simp [hf]))
    simp only [List.length_append, List.length_cons]
    rw [Nat.succ_mul]
    omega
theorem not_long {l : List Fd} (h : anyLong l = false) : ∀ f ∈ l, f.1.length ≤ 2000 := by
  intro f hf
  have := List.any_eq_false.1 h f hf
  simpa using this
theorem joinL_many {l : List Fd} (h : 64 < l.length) : joinL l = ([], 3) := if_pos h
theorem joinL_long {l : List Fd} (h : ¬ 64 < l.length) (h2 : anyLong l = true) : joinL l = ([], 3) := by unfold joinL; rw [if_neg h, if_pos h2]
theorem joinL_bad {l : List Fd} (h : ¬ 64 < l.length) (h2 : anyLong l = false) (h3 : l.any badB = true) : joinL l = ([], 6) := by unfold joinL; rw [if_neg h, if_neg (by simp [h2]), if_pos h3]
theorem joinL_big {l : List Fd} (h : ¬ 64 < l.length) (h2 : anyLong l = false) (h3 : l.any badB = false) (h4 : 8192 < (joinT l).length) : joinL l = ([], 3) := by unfold joinL; rw [if_neg h, if_neg (by simp [h2]), if_neg (by simp [h3]), if_pos h4]
theorem joinL_ok {l : List Fd} (h : ¬ 64 < l.length) (h2 : anyLong l = false) (h3 : l.any badB = false) (h4 : ¬ 8192 < (joinT l).length) : joinL l = (joinT l, 0) := by unfold joinL; rw [if_neg h, if_neg (by simp [h2]), if_neg (by simp [h3]), if_neg h4]
theorem take_snocF {l : List Fd} {k : Nat} {f : Fd} (hd : l.drop k = f :: l.drop (k + 1)) : l.take (k + 1) = l.take k ++ [f] := take_of_drop hd
theorem any_take {p : Fd → Bool} {l : List Fd} {k : Nat} (h : (l.take k).any p = true) : l.any p = true := by
  rw [List.any_eq_true] at h ⊢
  obtain ⟨x, hx, hp⟩ := h
  exact ⟨x, List.mem_of_mem_take hx, hp⟩
theorem sjoin {W : World} {base k : Nat} {v : Value} (out : List ByteArray) (T : List UInt8) (hown : W.ownsRow base 9 1 v k (Ss out)) (hT : Hid (Lib.join (out.map (·.data.toList)) [32] = T)) (hlen : T.length ≤ 140737488355328) (hk9 : k ≤ 140737488355328) :
    Calls Tryz.prog 43 #[v, .string ⟨#[32]⟩] W fun e W' => e = .returned (.string ⟨T.toArray⟩) ∧ Below W.heap.size W W' := by
  obtain ⟨A, c, rfl, hr, hc, hc9⟩ := own_sl hown
  have hl := hr.1
  simp at hl
  by_cases h0 : k = 0
  · subst h0
    obtain rfl : out = [] := List.eq_nil_of_length_eq_zero hl
    refine (Tryz.strings_Join_none A c ⟨#[32]⟩ W).mono ?_
    rintro e W' ⟨rfl, rfl⟩
    rw [← hT.out]
    exact ⟨rfl, Below.refl _ _⟩
  · obtain ⟨b, off, rfl, hb, hcell⟩ := hr.2 (by omega)
    subst hl
    have hx : out.length ≤ 140737488355328 := hk9
    have := Tryz.strings_Join b off c out ⟨#[32]⟩ W (fun j x hj => hcell j _ (by simp [hj])) hb hx hc (by rw [show (⟨#[32]⟩ : ByteArray).data.toList = [32] from rfl, hT.out]; exact hlen)
    rw [show (⟨#[32]⟩ : ByteArray).data.toList = [32] from rfl, hT.out] at this
    exact this
def fmJ (b : Bool) : Int := if b = true then 6 else 0
abbrev fldO (F : ByteArray) (q : Bool) : Obj := .cells #[.string F, .bool q] 47 (0, 0)
set_option maxRecDepth 100000 in
set_option maxHeartbeats 4000000 in
theorem join_ (w : World) (A : Option Addr) (c : Nat) (l : List Fd) (h : Reads w w.heap.size 2 A l.length (fds l)) (hE : Esc w) :
    Calls Tryz.prog 17 #[.slice A l.length c] w (RetSE w (joinL l)) := by
  by_cases h5 : 64 < l.length
  · have hR := Lib.hid (joinL_many h5)
    have i5 : (64 : Int) < (l.length : Int) := by omega
    clear h h5
    go_enter Tryz.func17, Tryz.ntmps17
    go_wp2
    go_ret2
    exact RetSE.mk' hR.out (Below.refl _ _)
  have i5 : ¬ ((64 : Int) < (l.length : Int)) := by omega
  have HR := Lib.hid h
  clear h
  go_enter Tryz.func17, Tryz.ntmps17
  go_wp2
  go_loopw [4, 5, 15] (fun f v i wr => ∃ (k : Nat) (fm : Int) (out : List ByteArray), k ≤ l.length ∧ i = .int .i64 k ∧ f = .int .i64 fm ∧ Hid (fm = fmJ ((l.take k).any badB)) ∧ Hid (anyLong (l.take k) = false) ∧ Hid (out.map (·.data.toList) = (l.take k).map txF) ∧ wr.ownsRow w.heap.size 9 1 v k (Ss out) ∧ Below w.heap.size w wr) (fun _ _ i _ => l.length - (intOf i).toNat)
  case atStart => exact ⟨0, 0, [], Nat.zero_le _, rfl, rfl, Lib.hid rfl, Lib.hid rfl, Lib.hid rfl, World.ownsRow_nil _ _ _ _, Below.refl _ _⟩
  case round =>
    obtain ⟨k, fm, out, hk, rfl, rfl, hfm, hlg, hot, hown, hbw⟩ := hrel
    by_cases hlt : k < l.length
    · have i1 : (k : Int) < (l.length : Int) := by omega
      have HR2 := HR.out.below hbw
      obtain ⟨b, off, F, q, rfl, hb, d1, d2, hd⟩ := fdAt HR2 hlt
      have htk := Lib.hid (take_snocF hd.out)
      have hfl : F.data.toList.length = F.size := by simp
      clear HR2
      by_cases h2 : 2000 < F.size
      · have hR := Lib.hid (joinL_long h5 (any_take (k := k + 1) (show anyLong (l.take (k + 1)) = true by rw [htk.out, anyLong_snoc, hfl]; simp [h2])))
        have i2 : (2000 : Int) < (F.size : Int) := by omega
        clear hfl h2
        go_wp2
        go_ret2
        exact RetSE.mk' hR.out (ba hbw _)
      have i2 : ¬ ((2000 : Int) < (F.size : Int)) := by omega
      have hlg2 := Lib.hid (show anyLong (l.take (k + 1)) = false by rw [htk.out, anyLong_snoc, hlg.out, hfl]; simp; omega)
      have hFs : F.size ≤ 1099511627776 := by omega
      clear hfl h2
      cases q
      case true =>
        have hfm2 := Lib.hid (show fm = fmJ ((l.take (k + 1)).any badB) by rw [hfm.out, htk.out]; simp [badB])
        have hot2 := Lib.hid (show (out ++ [(⟨(quoteB F.data.toList).toArray⟩ : ByteArray)]).map (·.data.toList) = (l.take (k + 1)).map txF by rw [htk.out, List.map_append, List.map_append, hot.out]; simp [txF])
        go_wp2_with fail
        (with_reducible refine (quote F _ ((hE.below hbw).below (ba (Below.refl _ _) _)) hFs).mono ?_); rintro e w2 ⟨rfl, hb2⟩
        have hb3 := bt (ba hbw _) hb2
        have ho3 := own_below (hown.alloc (fldO F true)) hb2
        go_wp2_with (at_builtin; refine wpList_ap strE (ho3.alloc _) (ba hb3 _) [.string ⟨(quoteB F.data.toList).toArray⟩] (alloc1_new _ _) ?_)
        intro g2 cap w4 hown4 hb4 hg4
        go_wp2
        go_roundw
        case rel => exact ⟨k + 1, fm, out ++ [⟨(quoteB F.data.toList).toArray⟩], by omega, by go_num, rfl, hfm2, hlg2, hot2, by simpa using hown4, hb4⟩
        case measure => simp [intOf]; omega
      case false =>
        rcases hba : bareL F.data.toList with _ | _
        · have hfm2 := Lib.hid (show (6 : Int) = fmJ ((l.take (k + 1)).any badB) by rw [htk.out]; simp [badB, hba, fmJ])
          have hot2 := Lib.hid (show (out ++ [F]).map (·.data.toList) = (l.take (k + 1)).map txF by rw [htk.out, List.map_append, List.map_append, hot.out]; simp [txF])
          have Hba := Lib.hid hba
          clear hba
          go_wp2_with fail
          (with_reducible refine (isBare F _ hFs).mono ?_); rintro e w2 ⟨rfl, hb2⟩
          rw [Hba.out]
          have hb3 := bt (ba hbw _) hb2
          have ho3 := own_below (hown.alloc (fldO F false)) hb2
          go_wp2_with (at_builtin; refine wpList_ap strE (ho3.alloc _) (ba hb3 _) [.string F] (alloc1_new _ _) ?_)
          intro g2 cap w4 hown4 hb4 hg4
          go_wp2
          go_roundw
          case rel => exact ⟨k + 1, 6, out ++ [F], by omega, by go_num, rfl, hfm2, hlg2, hot2, by simpa using hown4, hb4⟩
          case measure => simp [intOf]; omega
        · have hfm2 := Lib.hid (show fm = fmJ ((l.take (k + 1)).any badB) by rw [hfm.out, htk.out]; simp [badB, hba])
          have hot2 := Lib.hid (show (out ++ [F]).map (·.data.toList) = (l.take (k + 1)).map txF by rw [htk.out, List.map_append, List.map_append, hot.out]; simp [txF])
          have Hba := Lib.hid hba
          clear hba
          go_wp2_with fail
          (with_reducible refine (isBare F _ hFs).mono ?_); rintro e w2 ⟨rfl, hb2⟩
          rw [Hba.out]
          have hb3 := bt (ba hbw _) hb2
          have ho3 := own_below (hown.alloc (fldO F false)) hb2
          go_wp2_with (at_builtin; refine wpList_ap strE (ho3.alloc _) (ba hb3 _) [.string F] (alloc1_new _ _) ?_)
          intro g2 cap w4 hown4 hb4 hg4
          go_wp2
          go_roundw
          case rel => exact ⟨k + 1, fm, out ++ [F], by omega, by go_num, rfl, hfm2, hlg2, hot2, by simpa using hown4, hb4⟩
          case measure => simp [intOf]; omega
    · have i1 : ¬ ((k : Int) < (l.length : Int)) := by omega
      obtain rfl : k = l.length := by omega
      have hfm2 := hfm.out
      have hlg2 := hlg.out
      have hot2 := hot.out
      rw [List.take_length] at hfm2 hlg2 hot2
      have hjt : Hid (Lib.join (out.map (·.data.toList)) [32] = joinT l) := Lib.hid (by rw [hot2]; rfl)
      have hjl := joinT_len l 2000 (not_long hlg2)
      have hj9 : (joinT l).length ≤ 140737488355328 := by
        have : l.length * (4 * 2000 + 3) ≤ 64 * 8003 := Nat.mul_le_mul (by omega) (by omega)
        omega
      clear hfm hlg hot hot2 hk hjl
      rcases hbd : l.any badB with _ | _
      · have hf0 : fm = 0 := by rw [hfm2, hbd]; rfl
        subst hf0
        by_cases h8 : 8192 < (joinT l).length
        · have hR := Lib.hid (joinL_big h5 hlg2 hbd h8)
          have i8 : (8192 : Int) < ((joinT l).length : Int) := by omega
          clear hfm2 hbd hlg2 h8
          go_wp2_with fail
          (with_reducible refine (sjoin _ _ hown hjt hj9 (by omega)).mono ?_); rintro e w9 ⟨rfl, hb9⟩
          go_wp2
          go_ret2
          exact RetSE.mk' hR.out (bt hbw hb9)
        · have hR := Lib.hid (joinL_ok h5 hlg2 hbd h8)
          have i8 : ¬ ((8192 : Int) < ((joinT l).length : Int)) := by omega
          clear hfm2 hbd hlg2 h8
          go_wp2_with fail
          (with_reducible refine (sjoin _ _ hown hjt hj9 (by omega)).mono ?_); rintro e w9 ⟨rfl, hb9⟩
          go_wp2
          go_ret2
          exact RetSE.mk' hR.out (bt hbw hb9)
      · have hf6 : fm = 6 := by rw [hfm2, hbd]; rfl
        subst hf6
        have hR := Lib.hid (joinL_bad h5 hlg2 hbd)
        clear hfm2 hbd hlg2
        go_wp2_with fail
        (with_reducible refine (sjoin _ _ hown hjt hj9 (by omega)).mono ?_); rintro e w9 ⟨rfl, hb9⟩
        go_wp2
        go_ret2
        exact RetSE.mk' hR.out (bt hbw hb9)
end Go.Proofs.YtngbgchnbcfliaaGreatDoor
