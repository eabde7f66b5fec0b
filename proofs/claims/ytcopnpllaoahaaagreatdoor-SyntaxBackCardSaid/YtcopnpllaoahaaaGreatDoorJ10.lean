/- Lexer: Print of the program, the walk. No condition. Syntax: printed of the program. No condition. -/
import Derived.Test.YtcopnpllaoahaaaGreatDoorJ8
import Derived.Test.YtcopnpllaoahaaaGreatDoorE13
import Derived.Test.YtcopnpllaoahaaaGreatDoorE6
namespace Go.Proofs.YtcopnpllaoahaaaGreatDoor
open Go.RowKit
def sbT (l : List T9) (k : Nat) : List Value := sbs ((l.take k).map tx)
theorem chk9 (t : T9) (K F T N : Int) (S : ByteArray) (f : Nat → Bool) (ht : t = (K, F, T, N, S, f)) (c : Int) (hc : Hid (ck9 t = c)) (w : World) :
    Calls Tryz.prog 30 #[tkV K F T N S f] w fun e w' => e = .returned (.int .i64 c) ∧ Below w.heap.size w w' := by
  subst ht; exact chk_ K F T N S f c hc w
set_option maxRecDepth 100000 in
set_option maxHeartbeats 8000000 in
theorem pprint_ (l : List T9) (w : World) (A : Option Addr) (c : Nat) (hR : Reads w w.heap.size 9 A l.length (tks l)) (hcap : l.length ≤ 100000) (r : ByteArray × Nat × Int) (hr : Hid (prnL l = r)) (hW : LxW w) :
    Calls Tryz.prog 51 #[.slice A l.length c] w (RetPr w r) := by
  have HR := Lib.hid hR
  have HW := Lib.hid hW
  have hr0 := hr.out
  unfold prnL at hr0
  have HR0 := Lib.hid hr0
  clear hR hW hr0 hr
  go_enter Tryz.func51, Tryz.ntmps51
  go_wp2
  go_loopw [13] (fun i wr => ∃ k : Nat, k ≤ l.length ∧ i = .int .i64 (k : Int) ∧ Below w.heap.size w wr ∧ Hid (errL l 0 = errL (l.drop k) k)) (fun i _ => l.length - (intOf i).toNat)
  case atStart => exact ⟨0, Nat.zero_le _, rfl, Below.refl _ _, Lib.hid (by rw [List.drop_zero])⟩
  case round =>
    obtain ⟨k, hk, rfl, hbl, he⟩ := hrel
    by_cases hlt : k < l.length
    · have i1 : (k : Int) < (l.length : Int) := by omega
      have i0 : (0 : Int) ≤ (k : Int) := by omega
      have hst := errR hlt he.out
      have hrd := HR.out.below hbl
      obtain ⟨bk, off, rfl, hbk, c0, c1, c2, c3, c4, c5, c6, c7, c8⟩ := hrd.at9 hlt
      obtain ⟨K, F, T, N, S, f, ht⟩ : ∃ K F T N S f, l[k] = (K, F, T, N, S, f) := ⟨_, _, _, _, _, _, rfl⟩
      rw [ht] at c0 c1 c2 c3 c4 c5 c6 c7 c8 hst
      simp only at c0 c1 c2 c3 c4 c5 c6 c7 c8
      obtain ⟨x, hx⟩ : ∃ x, ck9 (K, F, T, N, S, f) = x := ⟨_, rfl⟩
      rw [hx] at hst
      have Hx := Lib.hid hx
      have hbkw : bk < wr.heap.size := Nat.lt_of_lt_of_le hbk hbl.size
      by_cases hx0 : x = 0
      · subst hx0
        have HS := Lib.hid (show errL l 0 = errL (l.drop (k + 1)) (k + 1) by rw [hst, if_neg (by simp)])
        clear hst he ht hx hrd
        go_wp2_with fail
        (with_reducible refine (chk9 _ K F T N S f rfl 0 Hx _).mono ?_); rintro e w3 ⟨rfl, hb3⟩
        have hB3 := bt (ba hbl _) hb3
        clear hb3 c0 c1 c2 c3 c4 c5 c6 c7 c8
        go_wp2
        go_roundw
        case rel => exact ⟨k + 1, by omega, by go_num, hB3, HS⟩
        case measure => (simp [intOf]) <;> omega
      · have HN := Lib.hid (show r = (⟨#[]⟩, k, x) by rw [← HR0.out, hst, if_pos hx0])
        have e1 : (x != 0) = true := by simpa using hx0
        clear hst he ht hx hrd hx0
        go_wp2_with fail
        (with_reducible refine (chk9 _ K F T N S f rfl x Hx _).mono ?_); rintro e w3 ⟨rfl, hb3⟩
        have hB3 := bt (ba hbl _) hb3
        clear hb3 c0 c1 c2 c3 c4 c5 c6 c7 c8
        go_wp2
        exact bodyPost_ret (v := .tuple #[.string ⟨#[]⟩, .int .i64 (k : Int), .int .i64 x]) (by simp [results, go_sem]) rfl (RetPr.of HN.out rfl hB3)
    · obtain rfl : k = l.length := by omega
      have hn : errL l 0 = none := by rw [he.out, List.drop_of_length_le (Nat.le_refl _)]; rfl
      have hok := errL_none hn
      rw [hn] at HR0
      clear he hlt hn
      by_cases h80 : 80 < l.length
      · have i1 : (80 : Int) < (l.length : Int) := by omega
        have HN := Lib.hid (show r = (⟨#[]⟩, 0, 3) by rw [← HR0.out]; simp only; rw [if_pos h80])
        clear h80 hok
        go_wp2
        exact bodyPost_ret (v := .tuple #[.string ⟨#[]⟩, .int .i64 0, .int .i64 3]) (by simp [results, go_sem]) rfl (RetPr.of HN.out rfl hbl)
      have i1 : ¬ ((80 : Int) < (l.length : Int)) := by omega
      have hr1 := HR0.out
      simp only at hr1
      rw [if_neg h80] at hr1
      have HR1 := Lib.hid hr1
      have HOk := Lib.hid hok
      clear hr1 HR0 hok
      go_wp2
      obtain ⟨w0, rfl⟩ : ∃ w0 : World, w0 = wr := ⟨_, rfl⟩
      go_loopw [8, 30] (fun v i wi => ∃ k : Nat, k ≤ l.length ∧ i = .int .i64 (k : Int) ∧ Below w.heap.size w wi ∧ wi.ownsRow w.heap.size 9 1 v k (sbT l k)) (fun _ i _ => l.length - (intOf i).toNat)
      case atStart => exact ⟨0, Nat.zero_le _, rfl, hbl, World.ownsRow_nil _ _ _ _⟩
      case round =>
        clear hbl
        obtain ⟨k, hk, rfl, hbl, hown⟩ := hrel
        by_cases hlt : k < l.length
        · have j1 : (k : Int) < (l.length : Int) := by omega
          have j0 : (0 : Int) ≤ (k : Int) := by omega
          have hrd := HR.out.below hbl
          obtain ⟨bk, off, rfl, hbk, c0, c1, c2, c3, c4, c5, c6, c7, c8⟩ := hrd.at9 hlt
          have hck := HOk.out l[k] (List.getElem_mem hlt)
          have hnx : sbT l (k + 1) = sbT l k ++ [.string (tx l[k])] := take_tx l k hlt
          obtain ⟨K, F, T, N, S, f, ht⟩ : ∃ K F T N S f, l[k] = (K, F, T, N, S, f) := ⟨_, _, _, _, _, _, rfl⟩
          rw [ht] at c0 c1 c2 c3 c4 c5 c6 c7 c8 hck hnx
          simp only at c0 c1 c2 c3 c4 c5 c6 c7 c8
          obtain ⟨hK, hN, hS⟩ := ck_kind hck
          simp only at hK hN hS
          obtain ⟨u, hu⟩ : ∃ u, tx9 K N S f = u := ⟨_, rfl⟩
          have hnx2 : sbT l (k + 1) = sbT l k ++ [.string u] := by rw [hnx, ← hu]
          have HT := Lib.hid (fun W hW => text_ K F T N S f hK (by omega) (by omega) u (Lib.hid hu) W hW)
          have HX := Lib.hid hnx2
          have HO := Lib.hid hown
          have hbkw : bk < wr.heap.size := Nat.lt_of_lt_of_le hbk hbl.size
          clear hnx hnx2 hck hrd ht hu hown hK hN
          go_wp2_with fail
          (with_reducible refine (HT.out _ (HW.out.below (by exact ba hbl _))).mono ?_); rintro e w3 ⟨rfl, hb3⟩
          have HO3 := Lib.hid (own_below (HO.out.alloc (tkO K F T N S f)) hb3)
          have HB3 := Lib.hid (bt (ba hbl (tkO K F T N S f)) hb3)
          clear hb3 c0 c1 c2 c3 c4 c5 c6 c7 c8 HO
          go_wp2_with (at_builtin; refine wpList_ap stEl (w0 := w) (by exact HO3.out.alloc _) (by exact ba HB3.out _) [.string u] (by exact alloc1_new _ _) ?_)
          intro g4 cap4 w4 hO4 hb4 _
          rw [← HX.out] at hO4
          have HO4 := Lib.hid hO4
          have HB4 := Lib.hid hb4
          clear hO4 hb4 HO3 HB3
          go_wp2
          go_roundw
          case rel => exact ⟨k + 1, by omega, by go_num, HB4.out, HO4.out⟩
          case measure => (simp [intOf]) <;> omega
        · obtain rfl : k = l.length := by omega
          unfold sbT at hown
          rw [List.take_of_length_le (Nat.le_refl _)] at hown
          obtain ⟨A', c', rfl, hrd, hcp, hcm⟩ := own_sl hown
          have hl10 : ∀ x ∈ l.map tx, x.size ≤ 10000 := fun x hx => by
            obtain ⟨t, ht, rfl⟩ := List.mem_map.1 hx
            exact tx_len (HOk.out t ht)
          obtain ⟨u, hu⟩ : ∃ u, joinT l = u := ⟨_, rfl⟩
          have hjoin : Calls Tryz.prog 67 #[.slice A' l.length c', .string ⟨#[32]⟩] wr fun e w' => e = .returned (.string u) ∧ Below wr.heap.size wr w' := by
            by_cases hz : l.length = 0
            · obtain rfl : l = [] := List.eq_nil_of_length_eq_zero hz
              have := join_none A' c' wr
              rw [← hu]
              exact this
            · have := join_ (l.map tx) wr A' c' (by rw [List.length_map]; exact hrd) (by rw [List.length_map]; omega) (by rw [List.length_map]; exact hcp) (by rw [List.length_map]; omega) hl10 u (Lib.hid (by rw [← hu]; unfold joinT; rw [List.map_map]; rfl))
              rw [List.length_map] at this
              exact this
          have HJ := Lib.hid hjoin
          have hr1 := HR1.out
          rw [hu] at hr1
          have HR2 := Lib.hid hr1
          clear hjoin hl10 hu hown hrd hcp hcm hlt hr1 HR1
          by_cases hm : 1000 < u.size
          · have j2 : (1000 : Int) < (u.size : Int) := by omega
            have HN := Lib.hid (show r = (⟨#[]⟩, 0, 3) by rw [← HR2.out, if_pos hm])
            clear hm
            go_wp2_with fail
            (with_reducible refine (HJ.out).mono ?_); rintro e w5 ⟨rfl, hb5⟩
            have hB5 := bt hbl hb5
            clear hb5
            go_wp2
            exact bodyPost_ret (v := .tuple #[.string ⟨#[]⟩, .int .i64 0, .int .i64 3]) (by simp [results, go_sem]) rfl (RetPr.of HN.out rfl hB5)
          · have j2 : ¬ ((1000 : Int) < (u.size : Int)) := by omega
            have HN := Lib.hid (show r = (u, 0, 0) by rw [← HR2.out, if_neg hm])
            clear hm
            go_wp2_with fail
            (with_reducible refine (HJ.out).mono ?_); rintro e w5 ⟨rfl, hb5⟩
            have hB5 := bt hbl hb5
            clear hb5
            go_wp2
            exact bodyPost_ret (v := .tuple #[.string u, .int .i64 0, .int .i64 0]) (by simp [results, go_sem]) rfl (RetPr.of HN.out rfl hB5)
end Go.Proofs.YtcopnpllaoahaaaGreatDoor
namespace Go.Proofs.YtcopnpllaoahaaaGreatDoor
open Go.RowKit
/-- the text of a rule, the element, the error -/
def prR (r : Ru) : ByteArray × Int × Int := if (ruE r).2 ≠ 0 then (⟨#[]⟩, (ruE r).1, (ruE r).2) else ((prnL (ruT r)).1, 0, 0)
theorem elsE_ne : ∀ {l : List El} {j i : Nat} {e : Int}, elsE l j = some (i, e) → e ≠ 0
  | [], _, _, _, h => by cases h
  | x :: r, j, i, e, h => by
    rw [elsE] at h
    by_cases hc : elE x ≠ 0
    · rw [if_pos hc] at h
      simp only [Option.some.injEq, Prod.mk.injEq] at h
      rw [← h.2]; exact hc
    · rw [if_neg hc] at h
      exact elsE_ne h
section
variable {r : Ru}
theorem prR_id (h : inB r.1 = false) : prR r = (⟨#[]⟩, -1, 7) := by
  unfold inB at h
  have h := of_decide_eq_false h
  have e : ruE r = (-1, 7) := by unfold ruE; rw [if_pos (by omega)]
  unfold prR; rw [e]; exact if_pos (by decide)
theorem ruE_id (h : inB r.1 = true) : ruE r = if r.2 = [] then (-1, 6) else if 64 < r.2.length then (-1, 3) else
    match elsE r.2 0 with
    | some (i, e) => (((i : Nat) : Int), e)
    | none => if (prnL (ruT r)).2.2 ≠ 0 then (-1, 3) else (0, 0) := by
  unfold inB at h
  have h := of_decide_eq_true h
  unfold ruE; rw [if_neg (by omega)]
  generalize prnL (ruT r) = P
  rcases elsE r.2 0 with _ | ⟨i, e⟩ <;> rfl
theorem prR_nil (h : inB r.1 = true) (h2 : r.2 = []) : prR r = (⟨#[]⟩, -1, 6) := by
  have e : ruE r = (-1, 6) := by rw [ruE_id h, if_pos h2]
  unfold prR; rw [e]; exact if_pos (by decide)
theorem prR_long (h : inB r.1 = true) (h2 : r.2 ≠ []) (h3 : 64 < r.2.length) : prR r = (⟨#[]⟩, -1, 3) := by
  have e : ruE r = (-1, 3) := by rw [ruE_id h, if_neg h2, if_pos h3]
  unfold prR; rw [e]; exact if_pos (by decide)
theorem prR_el (h : inB r.1 = true) (h2 : r.2 ≠ []) (h3 : ¬ 64 < r.2.length) {i : Nat} {e : Int} (h4 : elsE r.2 0 = some (i, e)) : prR r = (⟨#[]⟩, (i : Int), e) := by
  have e2 : ruE r = ((i : Int), e) := by rw [ruE_id h, if_neg h2, if_neg h3, h4]
  unfold prR; rw [e2]; exact if_pos (elsE_ne h4)
theorem prR_no (h : inB r.1 = true) (h2 : r.2 ≠ []) (h3 : ¬ 64 < r.2.length) (h4 : elsE r.2 0 = none) {s : ByteArray} {q : Nat} {er : Int} (hq : prnL (ruT r) = (s, q, er)) (h5 : er ≠ 0) : prR r = (⟨#[]⟩, -1, 3) := by
  have e : ruE r = (-1, 3) := by rw [ruE_id h, if_neg h2, if_neg h3, h4, hq]; exact if_pos h5
  unfold prR; rw [e]; exact if_pos (by decide)
theorem prR_ok (h : inB r.1 = true) (h2 : r.2 ≠ []) (h3 : ¬ 64 < r.2.length) (h4 : elsE r.2 0 = none) {s : ByteArray} {q : Nat} (hq : prnL (ruT r) = (s, q, 0)) : prR r = (s, 0, 0) := by
  have e : ruE r = (0, 0) := by rw [ruE_id h, if_neg h2, if_neg h3, h4, hq]; exact if_neg (by simp)
  unfold prR; rw [e, hq]; exact if_neg (by simp)
end
theorem elsE_step {es : List El} {k : Nat} (hk : k < es.length) (h : elsE es 0 = elsE (es.drop k) k) : elsE es 0 = if elE es[k] ≠ 0 then some (k, elE es[k]) else elsE (es.drop (k + 1)) (k + 1) := by
  rw [h, List.drop_eq_getElem_cons hk, elsE]
def RetPd (w : World) (r : ByteArray × Int × Int) (e : Ending) (w' : World) : Prop := e = .returned (.tuple #[.string r.1, .int .i64 r.2.1, .int .i64 r.2.2]) ∧ Below w.heap.size w w'
theorem elemErr_ (x : El) (K : Int) (S : ByteArray) (f : Nat → Bool) (lo hi : Int) (hx : x = (K, S, f, lo, hi)) (c : Int) (hc : Hid (elE x = c)) (w : World) :
    Calls Tryz.prog 50 #[elV K S f lo hi] w fun e w' => e = .returned (.int .i64 c) ∧ Below w.heap.size w w' := by
  subst hx; exact elemError_ K S f lo hi c hc w
abbrev bxO (id : Int) (A : Option Addr) (n c : Nat) : Obj := .cells #[.int .i64 id, .slice A n c] 42 (0, 0)
set_option maxRecDepth 100000 in
set_option maxHeartbeats 8000000 in
theorem printed_ (r : Rm) (w : World) (hI : IsRu w r) (hH : Hd w) (hW : LxW w) (p : ByteArray × Int × Int) (hp : Hid (prR (rm r) = p)) :
    Calls Tryz.prog 36 #[ruV r] w (RetPd w p) := by
  obtain ⟨id, A, c, es⟩ := r
  have HI := Lib.hid hI
  have HH := Lib.hid hH
  have HW := Lib.hid hW
  have HR := Lib.hid (show Reads w w.heap.size 8 A es.length (els es) from hI.rd)
  have HF0 := Lib.hid ((Fr.start w).newN (g := w.heap.size) rfl (bxO id A es.length c))
  clear hI hH hW
  rcases hid : inB id with _ | _
  · have HN := Lib.hid ((prR_id (r := (id, es)) hid).symm.trans hp.out)
    have HY := Lib.hid (fun W => inside_ id false (Lib.hid hid) W)
    clear hid
    go_enter Tryz.func36, Tryz.ntmps36
    go_wp2_with fail
    (with_reducible refine (HY.out _).mono ?_); rintro e w1 ⟨rfl, hw1⟩; subst hw1
    go_wp2
    refine bodyPost_ret (v := .tuple #[.string ⟨#[]⟩, .int .i64 (-1), .int .i64 7]) (by simp [results, go_sem]) rfl ?_
    rw [← HN.out]
    exact ⟨rfl, HF0.out.bel⟩
  have HY := Lib.hid (fun W => inside_ id true (Lib.hid hid) W)
  by_cases h0 : es = []
  · have HN := Lib.hid ((prR_nil (r := (id, es)) hid h0).symm.trans hp.out)
    have i1 : ((es.length : Int) == 0) = true := by rw [h0]; rfl
    clear hid h0
    go_enter Tryz.func36, Tryz.ntmps36
    go_wp2_with fail
    (with_reducible refine (HY.out _).mono ?_); rintro e w1 ⟨rfl, hw1⟩; subst hw1
    go_wp2
    refine bodyPost_ret (v := .tuple #[.string ⟨#[]⟩, .int .i64 (-1), .int .i64 6]) (by simp [results, go_sem]) rfl ?_
    rw [← HN.out]
    exact ⟨rfl, HF0.out.bel⟩
  have hpos : 0 < es.length := List.length_pos_iff.2 h0
  have i1 : ((es.length : Int) == 0) = false := by rw [beq_eq_false_iff_ne]; omega
  by_cases h64 : 64 < es.length
  · have HN := Lib.hid ((prR_long (r := (id, es)) hid h0 h64).symm.trans hp.out)
    have i2 : (64 : Int) < (es.length : Int) := by omega
    clear hid h0 h64
    go_enter Tryz.func36, Tryz.ntmps36
    go_wp2_with fail
    (with_reducible refine (HY.out _).mono ?_); rintro e w1 ⟨rfl, hw1⟩; subst hw1
    go_wp2
    refine bodyPost_ret (v := .tuple #[.string ⟨#[]⟩, .int .i64 (-1), .int .i64 3]) (by simp [results, go_sem]) rfl ?_
    rw [← HN.out]
    exact ⟨rfl, HF0.out.bel⟩
  have i2 : ¬ ((64 : Int) < (es.length : Int)) := by omega
  have Hid_ := Lib.hid hid
  have H0 := Lib.hid h0
  clear hid h0
  go_enter Tryz.func36, Tryz.ntmps36
  go_wp2_with fail
  (with_reducible refine (HY.out _).mono ?_); rintro e w1 ⟨rfl, hw1⟩; subst hw1
  go_upto_region 7 with fail
  generalize w.alloc (bxO id A es.length c) = W1 at *
  obtain ⟨⟨b0, b1⟩, _, l1⟩ := bx2 (HF0.out.at (g := w.heap.size) (o := bxO id A es.length c) List.mem_cons_self)
  go_wp2
  clear b0 b1 l1
  go_loopw [29] (fun i wr => ∃ k : Nat, k ≤ es.length ∧ i = .int .i64 (k : Int) ∧ Fr w [(w.heap.size, bxO id A es.length c)] wr ∧ Hid (elsE es 0 = elsE (es.drop k) k)) (fun i _ => es.length - (intOf i).toNat)
  case atStart => exact ⟨0, Nat.zero_le _, rfl, HF0.out, Lib.hid (by rw [List.drop_zero])⟩
  case round =>
    obtain ⟨k, hk, rfl, hF, hX⟩ := hrel
    by_cases hlt : k < es.length
    · have i3 : (k : Int) < (es.length : Int) := by omega
      have i0 : (0 : Int) ≤ (k : Int) := by omega
      obtain ⟨bk, off, rfl, hbk, d0, d1, d2, d3, d4, d5, d6, d7⟩ := (HR.out.below hF.bel).at8 rfl hlt
      have hbkw : bk < wr.heap.size := Nat.lt_of_lt_of_le hbk hF.bel.size
      have hst := elsE_step hlt hX.out
      obtain ⟨⟨K, S, f, lo, hi⟩, hx⟩ : ∃ x, es[k] = x := ⟨_, rfl⟩
      rw [hx] at d0 d1 d2 d3 d4 d5 d6 d7 hst
      simp only at d0 d1 d2 d3 d4 d5 d6 d7
      obtain ⟨y, hy⟩ : ∃ y, elE (K, S, f, lo, hi) = y := ⟨_, rfl⟩
      rw [hy] at hst
      have HC := Lib.hid (fun W => elemErr_ _ K S f lo hi rfl y (Lib.hid hy) W)
      have HF := Lib.hid hF
      by_cases hy0 : y = 0
      · subst hy0
        have HX2 := Lib.hid (show elsE es 0 = elsE (es.drop (k + 1)) (k + 1) by rw [hst, if_neg (by simp)])
        clear hst hX hx hy hF
        go_wp2_with fail
        (with_reducible refine (HC.out _).mono ?_); rintro e w3 ⟨rfl, hb3⟩
        have hF3 := (HF.out.al _).go hb3
        clear hb3 d0 d1 d2 d3 d4 d5 d6 d7
        go_wp2
        go_roundw
        case rel => exact ⟨k + 1, by omega, by go_num, hF3, HX2⟩
        case measure => (simp [intOf]) <;> omega
      · have hN := (prR_el (r := (id, es)) Hid_.out H0.out h64 (i := k) (e := y) (by rw [hst, if_pos hy0])).symm.trans hp.out
        have HN := Lib.hid hN
        have e1 : (y != 0) = true := by simpa using hy0
        clear hst hX hx hy hF hN hy0
        go_wp2_with fail
        (with_reducible refine (HC.out _).mono ?_); rintro e w3 ⟨rfl, hb3⟩
        have hF3 := (HF.out.al _).go hb3
        clear hb3 d0 d1 d2 d3 d4 d5 d6 d7
        go_wp2
        refine bodyPost_ret (v := .tuple #[.string ⟨#[]⟩, .int .i64 (k : Int), .int .i64 y]) (by simp [results, go_sem]) rfl ?_
        rw [← HN.out]
        exact ⟨rfl, hF3.bel⟩
    · obtain rfl : k = es.length := by omega
      have i3 : ¬ ((es.length : Int) < (es.length : Int)) := by omega
      have hn : elsE es 0 = none := by rw [hX.out, List.drop_of_length_le (Nat.le_refl _)]; rfl
      have hE := elsE_none hn
      rcases hq : prnL (ruT (id, es)) with ⟨s, q, er⟩
      have hcap : (ruT (id, es)).length ≤ 100000 := by rw [← lnT_all]; have := lnT_len (id, es) es.length; simp only; omega
      have HL : Hid (Calls Tryz.prog 28 #[.agg #[.int .i64 id, .slice A es.length c]] wr (RetTs wr (ruT (id, es)))) := Lib.hid (sline_ (id, A, c, es) wr (HI.out.go hF.bel) hE (HH.out.below hF.bel) (by simp only; omega))
      have HP := Lib.hid (fun (W : World) (A : Option Addr) (c : Nat) hR hW => pprint_ (ruT (id, es)) W A c hR hcap (s, q, er) (Lib.hid hq) hW)
      obtain ⟨⟨b0, b1⟩, _, l1⟩ := bx2 (hF.at (g := w.heap.size) (o := bxO id A es.length c) List.mem_cons_self)
      have HF := Lib.hid hF
      by_cases her : er = 0
      · subst her
        have HN := Lib.hid ((prR_ok (r := (id, es)) Hid_.out H0.out h64 hn hq).symm.trans hp.out)
        clear hX hn hE hq hF
        go_wp2_with fail
        (with_reducible refine (HL.out).mono ?_); rintro e w3 ⟨A5, c5, rfl, hb3, ho3⟩
        obtain ⟨_, _, e5, hr5, _⟩ := own_sl ho3
        cases e5
        go_wp2_with fail
        (with_reducible refine (HP.out _ _ _ hr5 (HW.out.below (bt HF.out.bel hb3))).mono ?_); rintro e w4 ⟨rfl, hb4⟩
        have hb5 := bt (bt HF.out.bel hb3) hb4
        clear hb3 ho3 hr5 hb4 b0 b1 l1
        go_wp2
        refine bodyPost_ret (v := .tuple #[.string s, .int .i64 0, .int .i64 0]) (by simp [results, go_sem]) rfl ?_
        rw [← HN.out]
        exact ⟨rfl, hb5⟩
      · have HN := Lib.hid ((prR_no (r := (id, es)) Hid_.out H0.out h64 hn hq her).symm.trans hp.out)
        have e1 : (er != 0) = true := by simpa using her
        clear hX hn hE hq hF her
        go_wp2_with fail
        (with_reducible refine (HL.out).mono ?_); rintro e w3 ⟨A5, c5, rfl, hb3, ho3⟩
        obtain ⟨_, _, e5, hr5, _⟩ := own_sl ho3
        cases e5
        go_wp2_with fail
        (with_reducible refine (HP.out _ _ _ hr5 (HW.out.below (bt HF.out.bel hb3))).mono ?_); rintro e w4 ⟨rfl, hb4⟩
        have hb5 := bt (bt HF.out.bel hb3) hb4
        clear hb3 ho3 hr5 hb4 b0 b1 l1
        go_wp2
        refine bodyPost_ret (v := .tuple #[.string ⟨#[]⟩, .int .i64 (-1), .int .i64 3]) (by simp [results, go_sem]) rfl ?_
        rw [← HN.out]
        exact ⟨rfl, hb5⟩
end Go.Proofs.YtcopnpllaoahaaaGreatDoor
