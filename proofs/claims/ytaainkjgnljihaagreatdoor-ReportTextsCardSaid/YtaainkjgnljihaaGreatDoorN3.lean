/- words: the reference's Split. No condition. -/
import Derived.Test.YtaainkjgnljihaaGreatDoorN2
import Derived.Test.YtaainkjgnljihaaGreatDoorW4
import Derived.Test.YtaainkjgnljihaaGreatDoorMem
import Derived.Deep.DeepCutAuto
import Derived.Lib.IndexMore
namespace Go.Proofs.YtaainkjgnljihaaGreatDoor
open Go.RowKit
theorem upTo_at {l : List UInt8} {k : Nat} (h : ∀ c ∈ l.take k, c ≠ 32) (he : l.drop k = [] ∨ ∃ r, l.drop k = 32 :: r) : upTo l = l.take k := by
  unfold upTo
  conv => lhs; rw [← List.take_append_drop k l]
  rw [List.takeWhile_append_of_pos (by intro c hc; simpa using h c hc)]
  rcases he with e | ⟨r, e⟩ <;> rw [e] <;> simp
theorem upTo_cut (l : List UInt8) : (Lib.cut l [32]).1 = upTo l := by
  have key : ∀ l : List UInt8, (Lib.index l [32] = -1 ∧ upTo l = l) ∨ (∃ i : Nat, Lib.index l [32] = i ∧ upTo l = l.take i) := by
    intro l
    induction l with
    | nil => exact .inl ⟨rfl, rfl⟩
    | cons x r ih =>
      by_cases hx : x = 32
      · subst hx
        exact .inr ⟨0, by simp [Lib.index], by simp [upTo]⟩
      · have h1 : ([32] : List UInt8).isPrefixOf (x :: r) = false := by
          simp [List.isPrefixOf]; exact fun e => hx e.symm
        have h2 : upTo (x :: r) = x :: upTo r := by simp [upTo, hx]
        rcases ih with ⟨h3, h4⟩ | ⟨i, h3, h4⟩
        · exact .inl ⟨by unfold Lib.index; rw [h1, h3]; rfl, by rw [h2, h4]⟩
        · refine .inr ⟨i + 1, ?_, by rw [h2, h4]; rfl⟩
          unfold Lib.index
          have : ((i : Int) == -1) = false := by rw [beq_eq_false_iff_ne]; omega
          rw [h1, h3, this]; simp
  unfold Lib.cut
  rcases key l with ⟨h1, h2⟩ | ⟨i, h1, h2⟩
  · rw [h1, if_neg (by omega), h2]
  · rw [h1, if_pos (by omega), h2]; simp
abbrev fS (f : Fd) : Value := .string ⟨f.1.toArray⟩
abbrev fQ (f : Fd) : Value := .bool f.2
abbrev fds (l : List Fd) : List Value := flat2 fS fQ l
abbrev fdO (s : ByteArray) (q : Bool) : Obj := .cells #[.string s, .bool q] 80 (0, 0)
theorem fdEl : Elem Tryz.prog 76 80 (.agg #[.string ⟨#[]⟩, .bool false]) 2 24 := ⟨Tryz.underlying76, by kernel_rfl, rfl, by decide⟩
def anyLong (l : List Fd) : Bool := l.any fun f => decide (2000 < f.1.length)
theorem anyLong_snoc (l : List Fd) (f : Fd) : anyLong (l ++ [f]) = (anyLong l || decide (2000 < f.1.length)) := by simp [anyLong]
theorem fds_snoc (l : List Fd) (f : Fd) : fds (l ++ [f]) = fds l ++ [fS f, fQ f] := flat2_append l [f]
theorem arr_eta (F : ByteArray) : (⟨F.data.toList.toArray⟩ : ByteArray) = F := by cases F; rfl
theorem fds_snocB (l : List Fd) (F : ByteArray) (q : Bool) : fds (l ++ [(F.data.toList, q)]) = fds l ++ [.string F, .bool q] := by
  rw [fds_snoc]
/-- what has been read of a line, and what is left -/
def Spl (l : List UInt8) (pre : List Fd) (R : List UInt8) : Prop := seqL l = (pre ++ (seqL R).1, (seqL R).2)
theorem Spl.start (l : List UInt8) : Spl l [] l := by unfold Spl; simp
section
variable {l R r : List UInt8} {pre : List Fd} {f : Fd} {k : Nat} {x : UInt8}
theorem Spl.none (h : Spl l pre R) (hh : headF R = none) : (seqL l).2 = false := by rw [h, seqL_none hh]
theorem Spl.done (h : Spl l pre R) (hh : headF R = some (f, k)) (hk : R.length ≤ k) : seqL l = (pre ++ [f], true) := by rw [h, seqL_end hh hk]
theorem Spl.more (h : Spl l pre R) (hh : headF R = some (f, k)) (hd : R.drop k = 32 :: r) : Spl l (pre ++ [f]) r := by unfold Spl; rw [h, seqL_more hh hd]; simp
theorem Spl.stop (h : Spl l pre R) (hh : headF R = some (f, k)) (hd : R.drop k = x :: r) (hx : x ≠ 32) : (seqL l).2 = false := by rw [h, seqL_stop hh hd hx]
end
theorem splitL_form {l : List UInt8} (h8 : l.length ≤ 8192) (h0 : l ≠ []) (h : (seqL l).2 = false) : splitL l = ([], 6) := by
  unfold splitL; rw [if_neg (by omega), if_neg h0, if_pos h]
theorem splitL_long {l : List UInt8} (h8 : l.length ≤ 8192) (h0 : l ≠ []) {fs : List Fd} (h : seqL l = (fs, true)) (hl : anyLong fs = true ∨ 64 < fs.length) : splitL l = ([], 3) := by
  unfold splitL; rw [if_neg (by omega), if_neg h0, h, if_neg (by simp)]; exact if_pos hl
theorem splitL_ok {l : List UInt8} (h8 : l.length ≤ 8192) (h0 : l ≠ []) {fs : List Fd} (h : seqL l = (fs, true)) (hl : anyLong fs = false) (h6 : ¬ 64 < fs.length) : splitL l = (fs, 0) := by
  unfold splitL; rw [if_neg (by omega), if_neg h0, h, if_neg (by simp)]
  refine if_neg ?_
  simp only [anyLong] at hl
  rw [hl]; simp only [Bool.false_eq_true, false_or]; exact h6
theorem ext_from (s : ByteArray) (k : Nat) : (s.extract k s.size).data.toList = s.data.toList.drop k := by
  rw [ext_list2, List.take_of_length_le]; simp
theorem head_quoted {R b : List UInt8} {n : Nat} (h : unquoteL R = (b, n)) (hn : n ≠ 0) : headF R = some ((b, true), n) := by
  unfold headF; rw [h, if_pos hn]
theorem head_bare {R b : List UInt8} (h : unquoteL R = (b, 0)) (hb : bareL (upTo R) = true) : headF R = some ((upTo R, false), (upTo R).length) := by
  unfold headF; rw [h, if_neg (by simp), if_pos hb]
theorem head_none {R b : List UInt8} (h : unquoteL R = (b, 0)) (hb : bareL (upTo R) = false) : headF R = none := by
  unfold headF; rw [h, if_neg (by simp), hb]; rfl
/-- a list of fields and an error come back -/
abbrev RetFs (w : World) (r : List Fd × Int) : Ending → World → Prop := RetSl w 2 (fds r.1) r.1.length r.2
theorem RetFs.none_ {w w' : World} {r : List Fd × Int} {err : Int} (hb : Below w.heap.size w w') (h : r = ([], err)) : RetFs w r (.returned (.tuple #[.slice none 0 0, .int .i64 err])) w' := by
  subst h; exact RetSl.nil hb rfl rfl
theorem take_snoc32 {l : List UInt8} {k j : Nat} {c : UInt8} (h : ∀ c ∈ (l.drop k).take j, c ≠ 32) (hc : l[k + j]? = some c) (hn : c ≠ 32) : ∀ c ∈ (l.drop k).take (j + 1), c ≠ 32 := by
  rw [List.take_add_one, List.getElem?_drop, hc]
  intro x hx
  rw [List.mem_append] at hx
  rcases hx with hx | hx
  · exact h x hx
  · simp at hx; rw [hx]; exact hn
theorem upTo_stop {s : ByteArray} {k j : Nat} (hk : k + j ≤ s.size) (h : ∀ c ∈ (s.data.toList.drop k).take j, c ≠ 32) (hgo : ¬ ∃ h : k + j < s.size, s[k + j] ≠ 32) : upTo (s.data.toList.drop k) = (s.extract k (k + j)).data.toList := by
  have e : (s.extract k (k + j)).data.toList = (s.data.toList.drop k).take j := by rw [ext_list2]; congr 1; omega
  rw [e]
  refine upTo_at h ?_
  rw [List.drop_drop]
  by_cases hlt : k + j < s.size
  · right
    have h3 : s[k + j] = 32 := Classical.byContradiction fun e => hgo ⟨hlt, e⟩
    have hl : k + j < s.data.toList.length := by simpa using hlt
    refine ⟨s.data.toList.drop (k + j + 1), ?_⟩
    rw [List.drop_eq_getElem_cons hl]
    congr 1
  · left
    exact List.drop_eq_nil_of_le (by simp; omega)
theorem own_new_ne {w : World} {base size n : Nat} {e : TypeId} {v : Value} {xs : List Value} (h : w.ownsRow base e size v n xs) : v.ownBlock ≠ some w.heap.size := fun e => absurd (h.lt _ e).2 (Nat.lt_irrefl _)
theorem drop_at2 {l : List UInt8} {k m : Nat} {c : UInt8} (h : l[k + m]? = some c) : (l.drop k).drop m = c :: l.drop (k + m + 1) := by
  have hl := List.getElem?_eq_some_iff.1 h
  rw [List.drop_drop, List.drop_eq_getElem_cons hl.1, hl.2]
theorem drop_at {l : List UInt8} {k m : Nat} {c : UInt8} (h : l[k + m]? = some c) (hc : c = 32) : (l.drop k).drop m = 32 :: l.drop (k + m + 1) := by
  subst hc; exact drop_at2 h
--WALK
set_option maxRecDepth 100000 in
set_option maxHeartbeats 4000000 in
theorem rsplit (s : ByteArray) (w : World) (hsz : s.size ≤ 1099511627776) :
    Calls Tryz.prog 42 #[.string s] w (RetFs w (splitL s.data.toList)) := by
  have hl : s.data.toList.length = s.size := by simp
  by_cases h8 : 8192 < s.size
  · have hR := Lib.hid (show splitL s.data.toList = ([], 3) by unfold splitL; rw [if_pos (by omega)])
    have h8' : (8192 : Int) < (s.size : Int) := by omega
    clear hl h8
    go_enter Tryz.func42, Tryz.ntmps42
    go_wp2
    go_ret2
    exact RetFs.none_ (Below.refl _ _) hR.out
  have h8' : ¬ ((8192 : Int) < (s.size : Int)) := by omega
  by_cases hz : s.size = 0
  · have hz2 : s.toList.isEmpty = true := List.isEmpty_iff.2 ((toList_nil s).2 hz)
    have hz3 : s.data.toList = [] := List.eq_nil_of_length_eq_zero (by omega)
    have hR := Lib.hid (show splitL s.data.toList = ([], 0) by rw [hz3]; rfl)
    clear hl h8 hz3
    go_enter Tryz.func42, Tryz.ntmps42
    go_wp2
    go_ret2
    exact RetFs.none_ (Below.refl _ _) hR.out
  have hz2 : s.toList.isEmpty = false := by rw [List.isEmpty_eq_false_iff]; exact fun e => hz ((toList_nil s).1 e)
  have hne := Lib.hid (ne_nil hz)
  have Hl := Lib.hid hl
  have H8 := Lib.hid h8
  have hs8 : s.size ≤ 8192 := by omega
  clear hl h8
  go_enter Tryz.func42, Tryz.ntmps42
  go_wp2
  go_loopw [4, 5, 6] (fun v b i wr => ∃ (k : Nat) (pre : List Fd), k ≤ s.size ∧ i = .int .i64 k ∧ b = .bool (anyLong pre) ∧ wr.ownsRow w.heap.size 80 2 v pre.length (fds pre) ∧ Below w.heap.size w wr ∧ pre.length ≤ k ∧ Hid (Spl s.data.toList pre (s.data.toList.drop k))) (fun _ _ i _ => s.size - (intOf i).toNat)
  case atStart => exact ⟨0, [], Nat.zero_le _, rfl, rfl, World.ownsRow_nil _ _ _ _, Below.refl _ _, Nat.le_refl _, Lib.hid (Spl.start _)⟩
  case round =>
    obtain ⟨k, pre, hk, rfl, rfl, hown, hbl, hpl, hsp⟩ := hrel
    have hex := Lib.hid (ext_from s k)
    have hez : (s.extract k s.size).size ≤ 1099511627776 := by rw [ByteArray.size_extract]; omega
    rcases hq : unquoteL (s.extract k s.size).data.toList with ⟨b, n⟩
    have Hq := Lib.hid hq
    have hn8 := unq_le (s.extract k s.size).data.toList
    rw [hq] at hn8
    clear hq
    have hn9 : k + n ≤ s.size := by
      have : (s.extract k s.size).data.toList.length = (s.extract k s.size).size := by simp
      rw [this, ByteArray.size_extract] at hn8
      simp only at hn8; omega
    clear hn8
    go_wp2_with fail
    (with_reducible refine (rquoted' (s.extract k s.size) _ hez Hq).mono ?_); rintro e w1 ⟨rfl, hb1⟩
    have hR := Lib.hid (show unquoteL (s.data.toList.drop k) = (b, n) by rw [← hex.out]; exact Hq.out)
    have hbw1 := bt hbl hb1
    have ho1 := own_below hown hb1
    clear hown hb1 hez
    go_upto_if 25 with (fail)
    go_cut [8] (fun u wx => ∃ (F : ByteArray) (q : Bool) (m : Nat), u = .int .i64 m ∧ Hid (headF (s.data.toList.drop k) = some ((F.data.toList, q), m)) ∧ wx.heap[w1.heap.size]? = some (fdO F q) ∧ Below w1.heap.size w1 wx)
    case first =>
      generalize hB : ((n : Int) == 0) = B at *
      cases B
      case true =>
        have hn0 : Hid (n = 0) := Lib.hid (by simpa using hB)
        clear hB
        go_wp2
        go_loopw [8] (fun i wi => ∃ j : Nat, i = .int .i64 j ∧ k + j ≤ s.size ∧ Hid (∀ c ∈ (s.data.toList.drop k).take j, c ≠ 32) ∧ wi = w1.alloc (fdO ⟨b.toArray⟩ true)) (fun i _ => s.size - (intOf i).toNat)
        case atStart => exact ⟨n, rfl, hn9, Lib.hid (by rw [hn0.out]; simp), rfl⟩
        case round =>
          obtain ⟨j, rfl, hkj, hnb, rfl⟩ := hrel
          by_cases hgo : ∃ h : k + j < s.size, s[k + j] ≠ 32
          · obtain ⟨hlt, hc⟩ := hgo
            have hi1 : (k : Int) + (j : Int) < (s.size : Int) := by omega
            have hcb : ((s[k + j].toNat : Int) != 32) = true := by rw [bne_iff_ne]; exact fun e => hc (UInt8.toNat_inj.1 (by have : (32 : UInt8).toNat = 32 := rfl; omega))
            have hn2 := Lib.hid (take_snoc32 hnb.out (at_data s (k + j) hlt) hc)
            clear hc
            go_wp2
            go_roundw
            case rel => exact ⟨j + 1, by go_num, by omega, hn2, trivial⟩
            case measure => simp [intOf]; omega
          · have hU := Lib.hid (upTo_stop hkj hnb.out hgo)
            have hstop : (∃ h : k + j < s.size, ((s[k + j].toNat : Int) != 32) = false) ∨ ¬ (k + j < s.size) := by
              by_cases hlt : k + j < s.size
              · refine .inl ⟨hlt, ?_⟩
                have : s[k + j] = 32 := Classical.byContradiction fun e => hgo ⟨hlt, e⟩
                rw [this]; rfl
              · exact .inr hlt
            clear hgo
            have hez2 : (s.extract k (k + j)).size ≤ 1099511627776 := by rw [ByteArray.size_extract]; omega
            rcases hstop with ⟨hlt, hcb⟩ | hlt
            · have hi1 : (k : Int) + (j : Int) < (s.size : Int) := by omega
              rcases hbb : bareL (s.extract k (k + j)).data.toList with _ | _
              · have hN := Lib.hid (splitL_form (l := s.data.toList) (by rw [Hl.out]; exact hs8) hne.out (hsp.out.none (head_none (by rw [hR.out, hn0.out]) (by rw [hU.out]; exact hbb))))
                have Hbb := Lib.hid hbb
                clear hbb
                go_wp2_with fail
                (with_reducible refine (rbare _ _ hez2).mono ?_); rintro e w2 ⟨rfl, hb2⟩
                rw [Hbb.out]
                go_wp2
                go_ret2
                exact RetFs.none_ (bt (ba hbw1 _) hb2) hN.out
              · have hH := Lib.hid (head_bare (by rw [hR.out, hn0.out]) (by rw [hU.out]; exact hbb))
                have Hbb := Lib.hid hbb
                clear hbb
                go_wp2_with fail
                (with_reducible refine (rbare _ _ hez2).mono ?_); rintro e w2 ⟨rfl, hb2⟩
                rw [Hbb.out]
                go_wp2
                go_meet
                refine ⟨s.extract k (k + j), false, j, rfl, Lib.hid ?_, ?_, ?_⟩
                · rw [hH.out, hU.out]; simp; omega
                · exact below_blk hb2 (heap_lt (alloc1_new _ _)) (alloc1_new _ _)
                · exact bt (ba (Below.refl _ _) _) hb2
            · have hi1 : ¬ ((k : Int) + (j : Int) < (s.size : Int)) := by omega
              rcases hbb : bareL (s.extract k (k + j)).data.toList with _ | _
              · have hN := Lib.hid (splitL_form (l := s.data.toList) (by rw [Hl.out]; exact hs8) hne.out (hsp.out.none (head_none (by rw [hR.out, hn0.out]) (by rw [hU.out]; exact hbb))))
                have Hbb := Lib.hid hbb
                clear hbb
                go_wp2_with fail
                (with_reducible refine (rbare _ _ hez2).mono ?_); rintro e w2 ⟨rfl, hb2⟩
                rw [Hbb.out]
                go_wp2
                go_ret2
                exact RetFs.none_ (bt (ba hbw1 _) hb2) hN.out
              · have hH := Lib.hid (head_bare (by rw [hR.out, hn0.out]) (by rw [hU.out]; exact hbb))
                have Hbb := Lib.hid hbb
                clear hbb
                go_wp2_with fail
                (with_reducible refine (rbare _ _ hez2).mono ?_); rintro e w2 ⟨rfl, hb2⟩
                rw [Hbb.out]
                go_wp2
                go_meet
                refine ⟨s.extract k (k + j), false, j, rfl, Lib.hid ?_, ?_, ?_⟩
                · rw [hH.out, hU.out]; simp; omega
                · exact below_blk hb2 (heap_lt (alloc1_new _ _)) (alloc1_new _ _)
                · exact bt (ba (Below.refl _ _) _) hb2
      case false =>
        have hn : n ≠ 0 := by rintro rfl; cases hB
        clear hB
        have hh := Lib.hid (head_quoted hR.out hn)
        go_wp2
        go_meet
        exact ⟨⟨b.toArray⟩, true, n, rfl, hh, alloc1_new _ _, ba (Below.refl _ _) _⟩
    case rest =>
      obtain ⟨F, q, m, rfl, hH, hg, hbx⟩ := hcut
      have hbw := bt hbw1 hbx
      have ho := own_below ho1 hbx
      have c0 : wc.cell? ⟨w1.heap.size, 0, none⟩ = some (.string F) := Lib.cell_of_heap hg 0
      have c1 : wc.cell? ⟨w1.heap.size, 1, none⟩ = some (.bool q) := Lib.cell_of_heap hg 1
      have hne4 := Lib.hid (own_new_ne ho1)
      have Hg := Lib.hid hg
      clear hg
      go_wp2_with (at_builtin; refine wpList_ap fdEl (ho.alloc _) (ba hbw _) [.string F, .bool q] (alloc1_new _ _) ?_)
      intro g2 cap w3 hown3 hb3 hg3
      have c3 : w3.cell? ⟨w1.heap.size, 0, none⟩ = some (.string F) := Lib.cell_of_heap (grown_blk hg3 (alloc_blk Hg.out) hne4.out) 0
      have hOwn : w3.ownsRow w.heap.size 80 2 (.slice (some ⟨g2, 0, none⟩) (pre.length + 1) cap) (pre ++ [(F.data.toList, q)]).length (fds (pre ++ [(F.data.toList, q)])) := by
        rw [fds_snocB, List.length_append]; exact hown3
      have HO := Lib.hid hOwn
      have hsn := Lib.hid (anyLong_snoc pre (F.data.toList, q))
      have hfl : F.data.toList.length = F.size := by simp
      have Hfl := Lib.hid hfl
      have hR2 := hH.out
      have hmp := headF_pos hR2
      rw [List.length_drop, Hl.out] at hmp
      clear hown3 hOwn hg3 c0 c1 hfl hR2 ho hbw hbx
      obtain ⟨fs, hfs⟩ : ∃ fs, fs = pre ++ [(F.data.toList, q)] := ⟨_, rfl⟩
      rw [← hfs] at HO hsn
      go_upto_region 17 with fail
      go_cut [5] (fun u wx => u = .bool (anyLong fs) ∧ wx = w3)
      case first =>
        generalize hL : anyLong pre = lg at *
        cases lg
        case true =>
          have hs2 := Lib.hid (show anyLong fs = true by rw [hsn.out]; rfl)
          clear hL
          go_wp2
          go_meet
          exact ⟨by rw [hs2.out], rfl⟩
        case false =>
          have hs2 := Lib.hid (show anyLong fs = decide (2000 < F.size) by rw [hsn.out, Bool.false_or, Hfl.out])
          clear hL
          by_cases h2 : 2000 < F.size
          · have hs3 := Lib.hid (show anyLong fs = true by rw [hs2.out]; simp [h2])
            have i2 : (2000 : Int) < (F.size : Int) := by omega
            clear h2
            go_wp2
            go_meet
            exact ⟨by rw [hs3.out], rfl⟩
          · have hs3 := Lib.hid (show anyLong fs = false by rw [hs2.out]; simp [h2])
            have i2 : ¬ ((2000 : Int) < (F.size : Int)) := by omega
            clear h2
            go_wp2
            go_meet
            exact ⟨by rw [hs3.out], rfl⟩
      case rest =>
        obtain ⟨rfl, rfl⟩ := hcut
        have hfl2 : fs.length = pre.length + 1 := by rw [hfs]; simp
        by_cases hend : k + m = s.size
        · have hq2 := Lib.hid (hsp.out.done hH.out (by rw [List.length_drop, Hl.out]; omega))
          rw [← hfs] at hq2
          have i3 : ((k : Int) + (m : Int) == (s.size : Int)) = true := by rw [beq_iff_eq]; omega
          have hl1 : s.data.toList.length ≤ 8192 := by rw [Hl.out]; exact hs8
          clear hfs hsn
          rcases hL : anyLong fs with _ | _
          · by_cases h6 : 64 < fs.length
            · have hN := Lib.hid (splitL_long hl1 hne.out hq2.out (.inr h6))
              have i6 : (64 : Int) < (pre.length : Int) + 1 := by omega
              clear hL h6 hl1
              go_wp2
              go_ret2
              exact RetFs.none_ hb3 hN.out
            · have hN := Lib.hid (splitL_ok hl1 hne.out hq2.out hL h6)
              have i6 : ¬ ((64 : Int) < (pre.length : Int) + 1) := by omega
              clear hL h6 hl1
              go_wp2
              go_ret2
              exact RetSl.of_own HO.out hb3 (by rw [hN.out]) (by rw [hN.out]) (by rw [hN.out])
          · have hN := Lib.hid (splitL_long hl1 hne.out hq2.out (.inl hL))
            clear hL hl1
            go_wp2
            go_ret2
            exact RetFs.none_ hb3 hN.out
        · have i3 : ((k : Int) + (m : Int) == (s.size : Int)) = false := by rw [beq_eq_false_iff_ne]; omega
          have hlt : k + m < s.size := by omega
          have hd := at_data s (k + m) hlt
          by_cases hc : s[k + m] = 32
          · have hcb : ((s[k + m].toNat : Int) != 32) = false := by rw [hc]; rfl
            have hM := Lib.hid (hsp.out.more hH.out (drop_at hd hc))
            rw [← hfs] at hM
            clear hc hd hend
            go_wp2
            go_roundw
            case rel => exact ⟨k + m + 1, fs, by omega, by go_num, by rw [hfs], (by rw [hfl2]; rw [hfl2] at HO; exact HO.out), hb3, by omega, hM⟩
            case measure => simp [intOf]; omega
          · have hcb : ((s[k + m].toNat : Int) != 32) = true := by rw [bne_iff_ne]; exact fun e => hc (UInt8.toNat_inj.1 (by have : (32 : UInt8).toNat = 32 := rfl; omega))
            have hN := Lib.hid (splitL_form (l := s.data.toList) (by rw [Hl.out]; exact hs8) hne.out (hsp.out.stop hH.out (drop_at2 hd) hc))
            clear hc hd hend
            go_wp2
            go_ret2
            exact RetFs.none_ hb3 hN.out
end Go.Proofs.YtaainkjgnljihaaGreatDoor
