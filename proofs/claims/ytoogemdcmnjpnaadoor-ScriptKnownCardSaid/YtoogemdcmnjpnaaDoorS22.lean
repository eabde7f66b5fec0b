/- Parse of the reference. -/
import Derived.Test.YtoogemdcmnjpnaaDoorS21
namespace Go.Proofs.YtoogemdcmnjpnaaDoor
open Go.RowKit
theorem lns_mem : ∀ (l cur : List UInt8) (x : List UInt8), x ∈ lns cur l → x.length ≤ cur.length + l.length
  | [], _, x, h => by simp [lns] at h
  | c :: t, cur, x, h => by
    by_cases hc : c = 10
    · subst hc
      rw [lns_hit, List.mem_cons] at h
      rcases h with rfl | h
      · omega
      · have := lns_mem t [] x h
        simp at this ⊢
        omega
    · rw [lns_other hc] at h
      have := lns_mem t _ x h
      simp at this ⊢
      omega
theorem lnsB_mem {s t : ByteArray} (h : t ∈ lnsB s) : t.size ≤ s.size := by
  unfold lnsB at h
  obtain ⟨x, hx, rfl⟩ := List.mem_map.1 h
  have := lns_mem _ _ _ hx
  show x.length ≤ _
  have e : s.data.toList.length = s.size := by simp
  simp at this ⊢
  omega
def RetS3 (w : World) (p : List Sc × Int × Int) (e : Ending) (w' : World) : Prop :=
  ∃ A c, e = .returned (.tuple #[.slice A p.1.length c, .int .i64 p.2.1, .int .i64 p.2.2]) ∧ Below w.heap.size w w' ∧ Reads w' w'.heap.size 2 A p.1.length (scs p.1) ∧ p.1.length ≤ c ∧ c ≤ 9223372036854775807
theorem RetS3.of_own {w w' : World} {k : Nat} {out : List Sc} {p : List Sc × Int × Int} {base : Nat} {e : TypeId} {v : Value} (h : w'.ownsRow base e 2 v k (scs out)) (hb : Below w.heap.size w w') (hn : out.length = k) {a b : Int} (hp : p = (out, a, b)) :
    RetS3 w p (.returned (.tuple #[v, .int .i64 a, .int .i64 b])) w' := by
  subst hn hp
  obtain ⟨A, c, rfl, hr, hc, hm⟩ := own_sl h
  exact ⟨A, c, rfl, hb, hr, hc, hm⟩
theorem RetS3.nil {w w' : World} {p : List Sc × Int × Int} (hb : Below w.heap.size w w') {a b : Int} (hp : p = ([], a, b)) : RetS3 w p (.returned (.tuple #[.slice none 0 0, .int .i64 a, .int .i64 b])) w' := by
  subst hp
  exact ⟨none, 0, rfl, hb, Reads.none_, Nat.le_refl _, by omega⟩
/-- a line out of a slice of lines -/
theorem lnAt {w : World} {B k : Nat} {A : Option Addr} {L : List ByteArray} (h : Reads w B 1 A L.length (Strs L)) (hk : k < L.length) :
    ∃ b off t, A = some ⟨b, off, none⟩ ∧ b < B ∧ w.cell? ⟨b, off + k, none⟩ = some (.string t) ∧ t ∈ L ∧ Hid (L.drop k = t :: L.drop (k + 1)) := by
  obtain ⟨b, off, e, hb, hc⟩ := h.2 (by omega)
  refine ⟨b, off, L[k], e, hb, hc k _ ?_, List.getElem_mem hk, Lib.hid (List.drop_eq_getElem_cons hk)⟩
  simp [Strs, hk]
theorem rone' (s : ByteArray) (w : World) (hsz : s.size ≤ 1099511627776) {x : Sc} {e0 : Int} (hx : Hid (lineR s = (x, e0))) :
    Calls Tryd.prog 57 #[.string s] w fun e w' => e = .returned (.tuple #[.agg #[.int .i64 x.1, .string x.2], .int .i64 e0]) ∧ Below w.heap.size w w' := by
  have := rone s w hsz
  rw [hx.out] at this
  exact this
theorem last_ten {s : ByteArray} (h : s.size ≠ 0) : (s.data.toList.getLast? = some 10) ↔ s[s.size - 1]'(by omega) = 10 := by
  have hl : s.data.toList.length = s.size := by simp
  rw [List.getLast?_eq_getElem?, hl, List.getElem?_eq_getElem (by omega)]
  constructor
  · intro h; exact Option.some.inj h
  · intro h; exact congrArg some h

theorem rsplit' (s : ByteArray) (w : World) (hsz : s.size ≤ 1099511627776) {L : List ByteArray} (hL : Hid (lnsB s = L)) :
    Calls Tryd.prog 56 #[.string s] w (RetLs w L) := by
  have := rsplit s w hsz
  rw [hL.out] at this
  exact this
set_option maxRecDepth 100000 in
set_option maxHeartbeats 1600000 in
theorem rparse_form (s : ByteArray) (w : World) (hsz : s.size ≤ 1000000) (h0 : s.size ≠ 0) (h10 : s[s.size - 1]'(by omega) ≠ 10) :
    Calls Tryd.prog 36 #[.string s] w (RetS3 w (parse s)) := by
  have hR := Lib.hid (show parse s = ([], 0, 6) by
    unfold parse
    rw [if_pos ⟨h0, fun e => h10 ((last_ten h0).1 e)⟩])
  have hE : s.toList.isEmpty = false := by
    rw [Bool.eq_false_iff]; intro e
    exact h0 ((toList_nil s).1 (List.isEmpty_iff.1 e))
  have hE2 : ¬ s.toList = [] := fun e => h0 ((toList_nil s).1 e)
  have m1 : ((s[s.size - 1]'(by omega)).toNat : Int) != 10 := by rw [bne, byte_ten]; simp [h10]
  have hi1 : ((s.size : Int) - 1) < (s.size : Int) := by omega
  have hi0 : (0 : Int) ≤ ((s.size : Int) - 1) := by omega
  have hi2 : ((s.size : Int) - 1).toNat = s.size - 1 := by omega
  clear h10
  go_enter Tryd.func36, Tryd.ntmps36
  go_wp2
  go_ret3
  exact RetS3.nil (Below.refl _ _) hR.out
set_option maxRecDepth 100000 in
set_option maxHeartbeats 1600000 in
theorem rparse_lines (s : ByteArray) (w : World) (hsz : s.size ≤ 1000000) (h0 : s.size ≠ 0) (h10 : s[s.size - 1]'(by omega) = 10) :
    Calls Tryd.prog 36 #[.string s] w (RetS3 w (parse s)) := by
  have hform : Hid (¬ (s.size ≠ 0 ∧ s.data.toList.getLast? ≠ some 10)) := Lib.hid (fun h => h.2 ((last_ten h0).2 h10))
  have hE : s.toList.isEmpty = false := by
    rw [Bool.eq_false_iff]; intro e
    exact h0 ((toList_nil s).1 (List.isEmpty_iff.1 e))
  have hE2 : ¬ s.toList = [] := fun e => h0 ((toList_nil s).1 e)
  have m1 : (((s[s.size - 1]'(by omega)).toNat : Int) != 10) = false := by rw [bne, byte_ten]; simp [h10]
  have hi1 : ((s.size : Int) - 1) < (s.size : Int) := by omega
  have hi0 : (0 : Int) ≤ ((s.size : Int) - 1) := by omega
  have hi2 : ((s.size : Int) - 1).toNat = s.size - 1 := by omega
  clear h10
  obtain ⟨L, hL⟩ : ∃ L, Hid (lnsB s = L) := ⟨_, Lib.hid rfl⟩
  have hLm := Lib.hid (show ∀ t ∈ L, t.size ≤ 1000000 from fun t ht => by
    have := lnsB_mem (s := s) (t := t) (by rw [hL.out]; exact ht)
    omega)
  by_cases hlong : 200 < L.length
  · have hR := Lib.hid (show parse s = ([], 0, 3) by
      unfold parse
      rw [if_neg hform.out, hL.out, if_pos hlong])
    clear hLm
    go_enter Tryd.func36, Tryd.ntmps36
    go_wp2_with fail
    (with_reducible refine (rsplit' _ w (by first | omega | decide) hL).mono ?_); rintro e w1 ⟨A, c, rfl, hb1, hr1, hc1, hc2⟩
    go_wp2
    go_ret3
    exact RetS3.nil hb1 hR.out
  have hR := Lib.hid (show parse s = pgo 0 [] L by
    unfold parse
    rw [if_neg hform.out, hL.out, if_neg hlong])
  go_enter Tryd.func36, Tryd.ntmps36
  go_wp2_with fail
  (with_reducible refine (rsplit' _ w (by first | omega | decide) hL).mono ?_); rintro e w1 ⟨A, c, rfl, hb1, hr1, hc1, hc2⟩
  go_wp2
  go_loopw [6, 7] (fun v i wr => ∃ (k : Nat) (out : List Sc), k ≤ L.length ∧ i = .int .i64 k ∧ Below w1.heap.size w1 wr ∧ wr.ownsRow w1.heap.size 47 2 v out.length (scs out) ∧ out.length = k ∧ Hid (PgRel L k out)) (fun _ i _ => L.length - (intOf i).toNat)
  case atStart => exact ⟨0, [], Nat.zero_le _, rfl, Below.refl _ _, World.ownsRow_nil _ _ _ _, rfl, Lib.hid rfl⟩
  case round =>
    obtain ⟨k, out, hk, rfl, hbl, hown, hol, hr⟩ := hrel
    by_cases hlt : k < L.length
    case neg =>
      have hks : k = L.length := by omega
      have hD := Lib.hid (show parse s = (out, 0, 0) by rw [hR.out]; rw [hks] at hr; exact hr.out.done)
      have hB := bt hb1 hbl
      clear hr hks
      go_wp2
      go_ret3
      exact RetS3.of_own hown hB rfl hD.out
    have hi1 : (k : Int) < (L.length : Int) := by omega
    have hi0 : (0 : Int) ≤ (k : Int) := by omega
    obtain ⟨b, off, t, rfl, hb, d1, htm, hd⟩ := lnAt (hr1.below hbl) hlt
    have hts : t.size ≤ 1099511627776 := Nat.le_trans (hLm.out t htm) (by decide)
    obtain ⟨x, e0, hx⟩ : ∃ x e0, Hid (lineR t = (x, e0)) := ⟨_, _, Lib.hid rfl⟩
    by_cases he : e0 = 0
    case neg =>
      have m1 : (e0 != 0) = true := by simp [he]
      have hD := Lib.hid (show parse s = ([], ((k + 1 : Nat) : Int), e0) by rw [hR.out]; exact hr.out.bad hd.out hx.out he)
      clear hr he
      go_wp2_with fail
      (with_reducible refine (rone' t _ hts hx).mono ?_); rintro e w2 ⟨rfl, hb2⟩
      have hB := bt hb1 (ba (bt hbl hb2) (.cells #[.int .i64 x.1, .string x.2] 47))
      go_wp2
      go_ret3
      exact RetS3.nil (bt hb1 (by first | exact ba (bt hbl hb2) _ | exact (ba (bt hbl hb2) _).setCell (Nat.le_refl _) _)) (by rw [hD.out]; rfl)
    subst he
    have hr2 := Lib.hid (hr.out.next hd.out hx.out)
    clear hr
    go_wp2_with fail
    (with_reducible refine (rone' t _ hts hx).mono ?_); rintro e w2 ⟨rfl, hb2⟩
    have hbl2 := bt hbl hb2
    have hown2 := own_below hown hb2
    go_wp2_with (at_builtin; refine wpList_ap scEl ((hown2.alloc _).alloc _) (ba (ba hbl2 _) _) [.int .i64 x.1, .string x.2] (by exact alloc2_new _ _ _) ?_)
    intro g cap w3 hown3 hb3 hg3
    go_wp2
    go_roundw
    case rel => exact ⟨k + 1, out ++ [x], by omega, by go_num, hb3, by rw [scs_app, show (out ++ [x]).length = k + 1 by simp; omega]; exact hown3, by simp; omega, hr2⟩
    case measure => simp [intOf]; omega
set_option maxRecDepth 100000 in
set_option maxHeartbeats 1600000 in
theorem rparse_nil (w : World) :
    Calls Tryd.prog 36 #[.string ⟨#[]⟩] w (RetS3 w (parse ⟨#[]⟩)) := by
  have hform : Hid (¬ ((⟨#[]⟩ : ByteArray).size ≠ 0 ∧ (⟨#[]⟩ : ByteArray).data.toList.getLast? ≠ some 10)) := Lib.hid (fun h => h.1 rfl)
  obtain ⟨L, hL⟩ : ∃ L, Hid (lnsB ⟨#[]⟩ = L) := ⟨_, Lib.hid rfl⟩
  have hLm := Lib.hid (show ∀ t ∈ L, t.size ≤ 1000000 from fun t ht => by
    have := lnsB_mem (s := ⟨#[]⟩) (t := t) (by rw [hL.out]; exact ht)
    have h2 : (⟨#[]⟩ : ByteArray).size = 0 := rfl; omega)
  by_cases hlong : 200 < L.length
  · have hR := Lib.hid (show parse ⟨#[]⟩ = ([], 0, 3) by
      unfold parse
      rw [if_neg hform.out, hL.out, if_pos hlong])
    clear hLm
    go_enter Tryd.func36, Tryd.ntmps36
    go_wp2_with fail
    (with_reducible refine (rsplit' _ w (by first | omega | decide) hL).mono ?_); rintro e w1 ⟨A, c, rfl, hb1, hr1, hc1, hc2⟩
    go_wp2
    go_ret3
    exact RetS3.nil hb1 hR.out
  have hR := Lib.hid (show parse ⟨#[]⟩ = pgo 0 [] L by
    unfold parse
    rw [if_neg hform.out, hL.out, if_neg hlong])
  go_enter Tryd.func36, Tryd.ntmps36
  go_wp2_with fail
  (with_reducible refine (rsplit' _ w (by first | omega | decide) hL).mono ?_); rintro e w1 ⟨A, c, rfl, hb1, hr1, hc1, hc2⟩
  go_wp2
  go_loopw [6, 7] (fun v i wr => ∃ (k : Nat) (out : List Sc), k ≤ L.length ∧ i = .int .i64 k ∧ Below w1.heap.size w1 wr ∧ wr.ownsRow w1.heap.size 47 2 v out.length (scs out) ∧ out.length = k ∧ Hid (PgRel L k out)) (fun _ i _ => L.length - (intOf i).toNat)
  case atStart => exact ⟨0, [], Nat.zero_le _, rfl, Below.refl _ _, World.ownsRow_nil _ _ _ _, rfl, Lib.hid rfl⟩
  case round =>
    obtain ⟨k, out, hk, rfl, hbl, hown, hol, hr⟩ := hrel
    by_cases hlt : k < L.length
    case neg =>
      have hks : k = L.length := by omega
      have hD := Lib.hid (show parse ⟨#[]⟩ = (out, 0, 0) by rw [hR.out]; rw [hks] at hr; exact hr.out.done)
      have hB := bt hb1 hbl
      clear hr hks
      go_wp2
      go_ret3
      exact RetS3.of_own hown hB rfl hD.out
    have hi1 : (k : Int) < (L.length : Int) := by omega
    have hi0 : (0 : Int) ≤ (k : Int) := by omega
    obtain ⟨b, off, t, rfl, hb, d1, htm, hd⟩ := lnAt (hr1.below hbl) hlt
    have hts : t.size ≤ 1099511627776 := Nat.le_trans (hLm.out t htm) (by decide)
    obtain ⟨x, e0, hx⟩ : ∃ x e0, Hid (lineR t = (x, e0)) := ⟨_, _, Lib.hid rfl⟩
    by_cases he : e0 = 0
    case neg =>
      have m1 : (e0 != 0) = true := by simp [he]
      have hD := Lib.hid (show parse ⟨#[]⟩ = ([], ((k + 1 : Nat) : Int), e0) by rw [hR.out]; exact hr.out.bad hd.out hx.out he)
      clear hr he
      go_wp2_with fail
      (with_reducible refine (rone' t _ hts hx).mono ?_); rintro e w2 ⟨rfl, hb2⟩
      have hB := bt hb1 (ba (bt hbl hb2) (.cells #[.int .i64 x.1, .string x.2] 47))
      go_wp2
      go_ret3
      exact RetS3.nil (bt hb1 (by first | exact ba (bt hbl hb2) _ | exact (ba (bt hbl hb2) _).setCell (Nat.le_refl _) _)) (by rw [hD.out]; rfl)
    subst he
    have hr2 := Lib.hid (hr.out.next hd.out hx.out)
    clear hr
    go_wp2_with fail
    (with_reducible refine (rone' t _ hts hx).mono ?_); rintro e w2 ⟨rfl, hb2⟩
    have hbl2 := bt hbl hb2
    have hown2 := own_below hown hb2
    go_wp2_with (at_builtin; refine wpList_ap scEl ((hown2.alloc _).alloc _) (ba (ba hbl2 _) _) [.int .i64 x.1, .string x.2] (by exact alloc2_new _ _ _) ?_)
    intro g cap w3 hown3 hb3 hg3
    go_wp2
    go_roundw
    case rel => exact ⟨k + 1, out ++ [x], by omega, by go_num, hb3, by rw [scs_app, show (out ++ [x]).length = k + 1 by simp; omega]; exact hown3, by simp; omega, hr2⟩
    case measure => simp [intOf]; omega
theorem rparse (s : ByteArray) (w : World) (hsz : s.size ≤ 1000000) :
    Calls Tryd.prog 36 #[.string s] w (RetS3 w (parse s)) := by
  by_cases h0 : s.size = 0
  · have e : s = ⟨#[]⟩ := by
      rw [← mkB_eta s]
      have hl : s.data.toList = [] := List.length_eq_zero_iff.1 (by rw [show s.data.toList.length = s.size by simp, h0])
      rw [hl]; rfl
    rw [e]
    exact rparse_nil w
  · by_cases h10 : s[s.size - 1]'(by omega) = 10
    · exact rparse_lines s w hsz h0 h10
    · exact rparse_form s w hsz h0 h10
end Go.Proofs.YtoogemdcmnjpnaaDoor
