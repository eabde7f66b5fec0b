/- Cells and places, of the reference. -/
import Derived.Test.YtjdbnfejidaeoaaDoorC7
namespace Go.Proofs.YtjdbnfejidaeoaaDoor
open Go.RowKit
def celE (b k l s r : Int) (nm : ByteArray) (i : Int) : Int := if fndE b k l s r nm = 0 then (if i < 0 ∨ (fndX b k l s r nm).2.2 ≤ i then 7 else 0) else fndE b k l s r nm
def celI (b k l s r : Int) (nm : ByteArray) (i : Int) : Int := if celE b k l s r nm i = 0 then (fndX b k l s r nm).2.1 + i else 0
theorem fndX_bd (b k l s r : Int) (nm : ByteArray) : 0 ≤ (fndX b k l s r nm).2.2 ∧ (fndX b k l s r nm).2.2 ≤ 1024 ∧ 0 ≤ (fndX b k l s r nm).2.1 ∧ (fndX b k l s r nm).2.1 ≤ 3000 := by
  unfold fndX
  cases h : findR (layL b k l s r) nm with
  | none => simp [rg0]
  | some x =>
    have := (layL_bd b k l s r).2 x (List.mem_of_find?_eq_some h)
    simp only [Option.getD_some]
    omega
theorem fndE_bd (b k l s r : Int) (nm : ByteArray) : fndE b k l s r nm = 0 ∨ fndE b k l s r nm = 4 ∨ fndE b k l s r nm = 7 := by
  by_cases h : Ok2 b k l s r
  · cases hx : findR (lay s r (k + b * r)) nm with
    | none => exact .inr (.inl (fnd_none h hx).2)
    | some x => exact .inl (fnd_some h hx).2
  · exact .inr (.inr (fndE_no h nm))
theorem ret_tuple2 {j k : IntKind} {a b c d : Int} (h : a = c) (h' : b = d) : Ending.returned (.tuple #[.int j a, .int k b]) = .returned (.tuple #[.int j c, .int k d]) := by rw [h, h']
set_option maxRecDepth 100000 in
set_option maxHeartbeats 1000000 in
theorem rcell (b k l s r : Int) (nm : ByteArray) (i : Int) (w : World) :
    Calls Tryd.prog 18 #[cfV b k l, csV s r, .string nm, .int .i64 i] w fun e w' => e = .returned (.tuple #[.int .i64 (celI b k l s r nm i), .int .i64 (celE b k l s r nm i)]) ∧ Below w.heap.size w w' := by
  obtain ⟨x1, x2, x3, x4⟩ := fndX_bd b k l s r nm
  have hE := fndE_bd b k l s r nm
  have H1 : celE b k l s r nm i = if fndE b k l s r nm = 0 then (if i < 0 ∨ (fndX b k l s r nm).2.2 ≤ i then 7 else 0) else fndE b k l s r nm := rfl
  have H2 : celI b k l s r nm i = if celE b k l s r nm i = 0 then (fndX b k l s r nm).2.1 + i else 0 := rfl
  have hc := rfind b k l s r nm
  generalize celI b k l s r nm i = I at *
  generalize celE b k l s r nm i = C at *
  generalize fndE b k l s r nm = E at *
  generalize fndX b k l s r nm = X at *
  obtain ⟨nm', B, S⟩ := X
  simp only at x1 x2 x3 x4 H1 H2
  by_cases h0 : E = 0
  · subst h0
    clear hE
    by_cases hi : i < 0 ∨ S ≤ i
    · have hC : C = 7 := by rw [H1, if_pos rfl, if_pos hi]
      have hI : I = 0 := by rw [H2, hC]; rfl
      clear H1 H2
      have HC := Lib.hid hC
      have HI := Lib.hid hI
      have Hc := Lib.hid hc
      clear hC hI hc
      by_cases hi2 : i < 0
      all_goals
        go_enter Tryd.func18, Tryd.ntmps18
        go_wp2_with fail
        (with_reducible refine (Hc.out _).mono ?_); rintro e w1 ⟨rfl, hb1⟩
        have hB := bt (ba (ba (Below.refl _ _) _) _) hb1
        clear hb1
        go_wp2
        all_goals first | (exfalso; omega) | skip
        all_goals
          go_ret2
          exact ⟨ret_tuple2 HI.out.symm HC.out.symm, ba hB _⟩
    · have hC : C = 0 := by rw [H1, if_pos rfl, if_neg hi]
      have hI : I = B + i := by rw [H2, hC]; rfl
      clear H1 H2
      have hi1 : 0 ≤ i := by omega
      have hi2 : i < S := by omega
      clear hi
      have HC := Lib.hid hC
      have HI := Lib.hid hI
      have Hc := Lib.hid hc
      clear hC hI hc
      go_enter Tryd.func18, Tryd.ntmps18
      go_wp2_with fail
      (with_reducible refine (Hc.out _).mono ?_); rintro e w1 ⟨rfl, hb1⟩
      have hB := bt (ba (ba (Below.refl _ _) _) _) hb1
      clear hb1
      go_wp2
      all_goals first | (exfalso; omega) | skip
      all_goals
        go_ret2
        exact ⟨ret_tuple2 HI.out.symm HC.out.symm, ba hB _⟩
  · have hC : C = E := by rw [H1, if_neg h0]
    have hI : I = 0 := by rw [H2, hC, if_neg h0]
    have e0 : (E != 0) = true := by simpa using h0
    have e1 : (E == 0) = false := by simpa using h0
    clear H1 H2
    have HC := Lib.hid hC
    have HI := Lib.hid hI
    have Hc := Lib.hid hc
    clear hC hI hc hE h0
    go_enter Tryd.func18, Tryd.ntmps18
    go_wp2_with fail
    (with_reducible refine (Hc.out _).mono ?_); rintro e w1 ⟨rfl, hb1⟩
    have hB := bt (ba (ba (Below.refl _ _) _) _) hb1
    clear hb1
    go_wp2
    go_ret2
    exact ⟨ret_tuple2 HI.out.symm HC.out.symm, ba hB _⟩
def FRel {α : Type} (l : List α) (p : α → Bool) (j : Nat) : Prop := l.find? p = (l.drop j).find? p
theorem FRel.step {α : Type} {l : List α} {p : α → Bool} {j : Nat} {x : α} (h : FRel l p j) (hd : Hid (l.drop j = x :: l.drop (j + 1))) (e : p x = false) : FRel l p (j + 1) := by
  unfold FRel at *
  rw [h, hd.out, List.find?_cons_of_neg (by simp [e])]
theorem FRel.hit {α : Type} {l : List α} {p : α → Bool} {j : Nat} {x : α} (h : FRel l p j) (hd : Hid (l.drop j = x :: l.drop (j + 1))) (e : p x = true) : l.find? p = some x := by
  unfold FRel at h
  rw [h, hd.out, List.find?_cons_of_pos e]
theorem FRel.done {α : Type} {l : List α} {p : α → Bool} {j : Nat} (h : FRel l p j) (hj : l.length ≤ j) : l.find? p = none := by
  unfold FRel at h
  rw [h, List.drop_eq_nil_of_le hj]; rfl
def holdsAt (at_ : Int) (x : Rg) : Bool := decide (x.2.1 ≤ at_) && decide (at_ < x.2.1 + x.2.2)
def whrR (b k l s r : Int) (at_ : Int) : Option Rg := (layL b k l s r).find? (holdsAt at_)
def whrN (b k l s r : Int) (at_ : Int) : ByteArray := match whrR b k l s r at_ with | some x => x.1 | none => ⟨#[]⟩
def whrI (b k l s r : Int) (at_ : Int) : Int := match whrR b k l s r at_ with | some x => at_ - x.2.1 | none => 0
def whrE (b k l s r : Int) (at_ : Int) : Int := if (whrR b k l s r at_).isSome then 0 else 7
abbrev whrV (b k l s r : Int) (at_ : Int) : Value := .tuple #[.string (whrN b k l s r at_), .int .i64 (whrI b k l s r at_), .int .i64 (whrE b k l s r at_)]
theorem whr_some {b k l s r at_ : Int} {x : Rg} (h : Ok2 b k l s r) (hx : (lay s r (k + b * r)).find? (holdsAt at_) = some x) : whrV b k l s r at_ = .tuple #[.string x.1, .int .i64 (at_ - x.2.1), .int .i64 0] := by
  have : whrR b k l s r at_ = some x := by unfold whrR; rw [layL_yes h]; exact hx
  simp [whrN, whrI, whrE, this]
theorem whr_none {b k l s r at_ : Int} (h : Ok2 b k l s r) (hx : (lay s r (k + b * r)).find? (holdsAt at_) = none) : whrV b k l s r at_ = .tuple #[.string ⟨#[]⟩, .int .i64 0, .int .i64 7] := by
  have : whrR b k l s r at_ = none := by unfold whrR; rw [layL_yes h]; exact hx
  simp [whrN, whrI, whrE, this]
theorem whr_no {b k l s r at_ : Int} (h : ¬ Ok2 b k l s r) : whrV b k l s r at_ = .tuple #[.string ⟨#[]⟩, .int .i64 0, .int .i64 7] := by
  have : whrR b k l s r at_ = none := by unfold whrR; rw [layL_no h]; rfl
  simp [whrN, whrI, whrE, this]
theorem ret_of {u v : Value} (h : u = v) : Ending.returned u = .returned v := by rw [h]
set_option maxRecDepth 100000 in
set_option maxHeartbeats 1000000 in
theorem rwhere (b k l s r at_ : Int) (h64 : -9223372036854775808 ≤ at_ ∧ at_ ≤ 9223372036854775807) (w : World) :
    Calls Tryd.prog 20 #[cfV b k l, csV s r, .int .i64 at_] w fun e w' => e = .returned (whrV b k l s r at_) ∧ Below w.heap.size w w' := by
  obtain ⟨h641, h642⟩ := h64
  by_cases h : Ok2 b k l s r
  · have Hk := Lib.hid h
    have hlen := lay_len s r (k + b * r)
    have hbd := layL_bd b k l s r
    rw [layL_yes h] at hbd
    generalize hL : lay s r (k + b * r) = L at *
    have HL := Lib.hid hL
    clear h hL
    have Hlen := Lib.hid hlen
    have HB := Lib.hid hbd
    clear hlen hbd
    go_enter Tryd.func20, Tryd.ntmps20
    go_wp2_with fail
    (with_reducible refine (rlayout_yes b k l s r Hk.out _).mono ?_); rintro e w1 ⟨A, c, rfl, hb1, hr1, _, _⟩
    rw [HL.out] at hr1
    have hB := bt (ba (ba (Below.refl _ _) _) _) hb1
    clear hb1
    go_wp2_with fail
    go_loopw [11] (fun i wr => ∃ j : Nat, j ≤ 9 ∧ i = .int .i64 j ∧ FRel L (holdsAt at_) j ∧ Below w.heap.size w wr ∧ (∀ p, wr.cell? p = w1.cell? p)) (fun i _ => 9 - (intOf i).toNat)
    case atStart => exact ⟨0, Nat.zero_le _, rfl, rfl, hB, fun _ => rfl⟩
    case round =>
      obtain ⟨j, hj, rfl, hr, hbl, hsame⟩ := hrel
      by_cases hlt : j < 9
      · obtain ⟨b', off, nm', B, S, rfl, hb', d1, d2, d3, hd⟩ := rgAt (by rw [Hlen.out]; exact hr1) (show j < L.length by rw [Hlen.out]; exact hlt)
        obtain ⟨x1, x2, x3, x4⟩ := HB.out.2 _ (mem_drop hd)
        simp only at x1 x2 x3 x4
        have c1 := (hsame ⟨b', off + j * 3, none⟩).trans d1
        have c2 := (hsame ⟨b', off + j * 3 + 1, none⟩).trans d2
        have c3 := (hsame ⟨b', off + j * 3 + 2, none⟩).trans d3
        have Hs := Lib.hid hsame
        clear d1 d2 d3 hsame
        have hi1 : (j : Int) < 9 := by omega
        have hi0 : (0 : Int) ≤ (j : Int) := by omega
        have hs1 : IntKind.i64.wrap (B + S) = B + S := IntWalk.i64_in _ (by omega)
        by_cases h1 : B ≤ at_
        · by_cases h2 : at_ < B + S
          · have Hx := Lib.hid (whr_some Hk.out (HL.out ▸ hr.hit hd (show holdsAt at_ (nm', B, S) = true by simp [holdsAt, h1, h2])))
            have hs2 : IntKind.i64.wrap (at_ - B) = at_ - B := IntWalk.i64_in _ (by omega)
            go_wp2
            go_quiet (fail)
            go_wp2
            go_quiet (fail)
            go_wp2
            go_ret3
            exact ⟨ret_of Hx.out.symm, (hbl.trans (drewN_below _ _)).trans (drewN_below _ _)⟩
          · have hn : holdsAt at_ (nm', B, S) = false := by simp [holdsAt, h2]
            have h3 : decide (at_ < B + S) = false := by simpa using h2
            have hr2 := hr.step hd hn
            clear hn
            go_wp2
            go_quiet (fail)
            go_wp2
            go_roundw
            case rel => exact ⟨j + 1, by omega, by go_num, hr2, hbl.trans (drewN_below _ _), fun p => Hs.out p⟩
            case measure => simp [intOf]; omega
        · have hn : holdsAt at_ (nm', B, S) = false := by simp [holdsAt, h1]
          have h3 : decide (B ≤ at_) = false := by simpa using h1
          have hr2 := hr.step hd hn
          clear hn
          go_wp2
          go_quiet (fail)
          go_wp2
          go_roundw
          case rel => exact ⟨j + 1, by omega, by go_num, hr2, hbl.trans (drewN_below _ _), fun p => Hs.out p⟩
          case measure => simp [intOf]; omega
      · have Hx := Lib.hid (whr_none Hk.out (HL.out ▸ hr.done (by rw [Hlen.out]; omega)))
        go_wp2
        go_ret3
        exact ⟨ret_of Hx.out.symm, hbl⟩
  · have Hk := Lib.hid h
    have Hx := Lib.hid (whr_no (at_ := at_) h)
    clear h
    go_enter Tryd.func20, Tryd.ntmps20
    go_wp2_with fail
    (with_reducible refine (rlayout_no b k l s r Hk.out _).mono ?_); rintro e w1 ⟨A, c, rfl, hb1, hr1, _, _⟩
    have hB := bt (ba (ba (Below.refl _ _) _) _) hb1
    clear hb1
    go_wp2
    go_ret3
    exact ⟨ret_of Hx.out.symm, hB⟩
end Go.Proofs.YtjdbnfejidaeoaaDoor
