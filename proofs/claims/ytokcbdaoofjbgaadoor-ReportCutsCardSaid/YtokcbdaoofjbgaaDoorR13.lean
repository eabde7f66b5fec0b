/- Lists of reports; Merge of the program. -/
import Derived.Test.YtokcbdaoofjbgaaDoorR12
import Derived.Test.YtokcbdaoofjbgaaDoorR8
namespace Go.Proofs.YtokcbdaoofjbgaaDoor
open Go.RowKit
/-- a report in memory: where its hits lie, its capacity, its hits, and the rest -/
structure Rp where
  A : Option Addr
  c : Nat
  l : List Hit
  o : Bool
  d : Int
def rpS (r : Rp) : Value := .slice r.A r.l.length r.c
def rpO (r : Rp) : Value := .bool r.o
def rpD (r : Rp) : Value := .int .i64 r.d
abbrev reps (L : List Rp) : List Value := flat3 rpS rpO rpD L
structure IsReps (w : World) (A : Option Addr) (L : List Rp) : Prop where
  rd : Reads w w.heap.size 3 A L.length (reps L)
  el : ∀ r ∈ L, Reads w w.heap.size 2 r.A r.l.length (hits r.l) ∧ r.l.length ≤ 9223372036854775807 ∧ (-9223372036854775808 ≤ r.d ∧ r.d ≤ 9223372036854775807)
theorem IsReps.go {w w' : World} {A : Option Addr} {L : List Rp} (h : IsReps w A L) (hb : Below w.heap.size w w') : IsReps w' A L := ⟨h.rd.go hb, fun r hr => ⟨(h.el r hr).1.go hb, (h.el r hr).2⟩⟩
def rpE (k : Int) (r : Rp) : Int := (chkR r.l r.o r.d k).2
def chkF (k : Int) : List Rp → Int
  | [] => 0
  | r :: R => if rpE k r ≠ 0 then rpE k r else chkF k R
def allH : List Rp → List Hit
  | [] => []
  | r :: R => r.l ++ allH R
def dropF (n : Int) : List Rp → Int
  | [] => n
  | r :: R => dropF (min (n + r.d) 65535) R
def mgE (L : List Rp) (k : Int) : Int := if capK k = false then 7 else if 1000 < L.length then 3 else if chkF k L ≠ 0 then chkF k L else (wrg (allH L)).2
def mgL (L : List Rp) (k : Int) : List Hit := if mgE L k = 0 then allH L else []
def mgD (L : List Rp) (k : Int) : Int := if mgE L k = 0 then dropF 0 L else 0
/-- what comes back from Merge -/
def RetMg (w : World) (l : List Hit) (d err : Int) (e : Ending) (w' : World) : Prop :=
  ∃ A c, e = .returned (.tuple #[.slice A l.length c, .int .i64 d, .int .i64 err]) ∧ Below w.heap.size w w' ∧ Reads w' w'.heap.size 2 A l.length (hits l) ∧ l.length ≤ c ∧ c ≤ 9223372036854775807
theorem RetMg.nil {w w' : World} {l : List Hit} {d err : Int} (hb : Below w.heap.size w w') (hl : l = []) (hd : d = 0) : RetMg w l d err (.returned (.tuple #[.slice none 0 0, .int .i64 0, .int .i64 err])) w' := by
  subst hl hd
  exact ⟨none, 0, rfl, hb, Reads.none_, Nat.le_refl _, by omega⟩
theorem mg_no {L : List Rp} {k : Int} (h : mgE L k ≠ 0) : mgL L k = [] ∧ mgD L k = 0 := ⟨if_neg h, if_neg h⟩
theorem allH_app (L M : List Rp) : allH (L ++ M) = allH L ++ allH M := by
  induction L with
  | nil => rfl
  | cons r R ih => simp [allH, ih]
theorem dropF_app (n : Int) (L M : List Rp) : dropF n (L ++ M) = dropF (dropF n L) M := by
  induction L generalizing n with
  | nil => rfl
  | cons r R ih => exact ih _
theorem chkF_step {k : Int} {r : Rp} {R : List Rp} (h : rpE k r = 0) : chkF k (r :: R) = chkF k R := by simp [chkF, h]
theorem chkF_stop {k : Int} {r : Rp} {R : List Rp} (h : rpE k r ≠ 0) : chkF k (r :: R) = rpE k r := by simp [chkF, h]
theorem rpAt {w : World} {j : Nat} {A : Option Addr} {L : List Rp} (h : IsReps w A L) (hj : j < L.length) :
    ∃ b off r, A = some ⟨b, off, none⟩ ∧ b < w.heap.size ∧ w.cell? ⟨b, off + j * 3, none⟩ = some (.slice r.A r.l.length r.c) ∧ w.cell? ⟨b, off + j * 3 + 1, none⟩ = some (.bool r.o) ∧ w.cell? ⟨b, off + j * 3 + 2, none⟩ = some (.int .i64 r.d) ∧
      Hid (L.drop j = r :: L.drop (j + 1)) ∧ Reads w w.heap.size 2 r.A r.l.length (hits r.l) ∧ r.l.length ≤ 9223372036854775807 ∧ (-9223372036854775808 ≤ r.d ∧ r.d ≤ 9223372036854775807) := by
  obtain ⟨b, off, e, hb, c1, c2, c3⟩ := h.rd.at3 rfl hj
  have := h.el _ (List.getElem_mem hj)
  exact ⟨b, off, _, e, hb, c1, c2, c3, List.drop_eq_getElem_cons hj, this.1, this.2.1, this.2.2⟩
set_option maxRecDepth 100000 in
set_option maxHeartbeats 2000000 in
theorem merge_ (w : World) (A : Option Addr) (c : Nat) (L : List Rp) (h : IsReps w A L) (hL : L.length ≤ 9223372036854775807) (k : Int) :
    Calls Tryd.prog 16 #[.slice A L.length c, .int .i64 k] w (RetMg w (mgL L k) (mgD L k) (mgE L k)) := by
  obtain ⟨cp, hcp⟩ : ∃ cp, cp = capK k := ⟨_, rfl⟩
  have Hcp := Lib.hid hcp
  by_cases h0 : cp = false
  · subst h0
    have hE : mgE L k = 7 := if_pos hcp.symm
    obtain ⟨m1, m2⟩ := mg_no (L := L) (k := k) (by rw [hE]; decide)
    rw [m1, m2, hE]
    clear m1 m2 hE hcp
    go_enter Tryd.func16, Tryd.ntmps16
    go_wp2_with fail
    (with_reducible refine (fits_ k false Hcp _).mono ?_); rintro e w' ⟨rfl, rfl⟩
    go_wp2
    refine bodyPost_ret (v := .tuple #[.slice none 0 0, .int .i64 0, .int .i64 7]) (by simp [results, go_sem]) rfl (RetMg.nil ?_ rfl rfl)
    exact Below.refl _ _
  obtain rfl : cp = true := by simpa using h0
  clear h0
  by_cases h1 : 1000 < L.length
  · have hE : mgE L k = 3 := by unfold mgE; rw [← hcp, if_neg (by decide), if_pos h1]
    obtain ⟨m1, m2⟩ := mg_no (L := L) (k := k) (by rw [hE]; decide)
    rw [m1, m2, hE]
    clear m1 m2 hE hcp
    go_enter Tryd.func16, Tryd.ntmps16
    go_wp2_with fail
    (with_reducible refine (fits_ k true Hcp _).mono ?_); rintro e w' ⟨rfl, rfl⟩
    go_wp2
    refine bodyPost_ret (v := .tuple #[.slice none 0 0, .int .i64 0, .int .i64 3]) (by simp [results, go_sem]) rfl (RetMg.nil ?_ rfl rfl)
    exact Below.refl _ _
  have hE := Lib.hid (show mgE L k = if chkF k L ≠ 0 then chkF k L else (wrg (allH L)).2 by unfold mgE; rw [← hcp, if_neg (by decide), if_neg h1])
  have hk12 := capK_iff.1 hcp.symm
  clear hcp
  go_enter Tryd.func16, Tryd.ntmps16
  go_wp2_with fail
  (with_reducible refine (fits_ k true Hcp _).mono ?_); rintro e w' ⟨rfl, rfl⟩
  go_wp2_with fail
  go_loopw [4, 5, 25] (fun a0 b0 i wr => ∃ j : Nat, j ≤ L.length ∧ i = .int .i64 j ∧ a0 = .slice none 0 0 ∧ b0 = .int .i64 0 ∧ Hid (chkF k (L.drop j) = chkF k L) ∧ Hid (∀ r ∈ L.take j, rpE k r = 0) ∧ Below w.heap.size w wr) (fun _ _ i _ => L.length - (intOf i).toNat)
  case atStart => exact ⟨0, Nat.zero_le _, rfl, rfl, rfl, Lib.hid rfl, Lib.hid (by simp), Below.refl _ _⟩
  case round =>
    obtain ⟨j, hj, rfl, rfl, rfl, hr, ha, hB⟩ := hrel
    by_cases hjl : j < L.length
    · obtain ⟨b, off, r, rfl, hb, d1, d2, d3, hd, hR, hlr, hdr⟩ := rpAt (h.go hB) hjl
      have hdj : Hid (L.drop j = r :: L.drop (j + 1)) := hd
      have hcc := check_ (wr.alloc (repO r.A r.l.length r.c r.o r.d)) r.A r.c r.l (hR.al _) hlr r.o r.d k
      have hFr := (Fr.nil hB).newN rfl (repO r.A r.l.length r.c r.o r.d)
      have hE1 : (chkR r.l r.o r.d k).2 = rpE k r := rfl
      rw [hE1] at hcc
      generalize (chkR r.l r.o r.d k).1 = I0 at *
      by_cases he : rpE k r = 0
      · have hr2 : Hid (chkF k (L.drop (j + 1)) = chkF k L) := Lib.hid (by rw [← hr.out, hd.out, chkF_step he])
        have ha2 : Hid (∀ x ∈ L.take (j + 1), rpE k x = 0) := Lib.hid (by
          rw [take_of_drop hd.out]
          intro x hx
          rcases List.mem_append.1 hx with hx | hx
          · exact ha.out x hx
          · rw [List.mem_singleton.1 hx]; exact he)
        rw [he] at hcc
        have Hc := Lib.hid hcc
        clear hcc he hr ha hd hdj hE1 hR
        go_wp2_with fail
        (with_reducible refine (Hc.out).mono ?_); rintro e w1 ⟨rfl, hb1⟩
        have hF1 := hFr.go hb1
        have hB1 := hF1.bel
        clear hFr hb1 hF1
        go_wp2
        go_roundw
        case rel => exact ⟨j + 1, by omega, by go_num, rfl, rfl, hr2, ha2, hB1⟩
        case measure => simp [intOf]; omega
      · have hcf : chkF k L = rpE k r := by rw [← hr.out, hd.out, chkF_stop he]
        have hE2 : mgE L k = rpE k r := by rw [hE.out, hcf, if_pos he]
        obtain ⟨m1, m2⟩ := mg_no (L := L) (k := k) (by rw [hE2]; exact he)
        generalize rpE k r = E at *
        have e2 : (E != 0) = true := by simpa using he
        have HE := Lib.hid (And.intro m1 (And.intro m2 hE2))
        have Hc := Lib.hid hcc
        clear hcc he hr ha hd hdj hE1 hR m1 m2 hE2 hcf
        go_wp2_with fail
        (with_reducible refine (Hc.out).mono ?_); rintro e w1 ⟨rfl, hb1⟩
        have hF1 := hFr.go hb1
        have hB1 := hF1.bel
        clear hFr hb1 hF1
        go_wp2
        refine bodyPost_ret (v := .tuple #[.slice none 0 0, .int .i64 0, .int .i64 E]) (by simp [results, go_sem]) rfl ?_
        rw [HE.out.1, HE.out.2.1, HE.out.2.2]
        exact RetMg.nil hB1 rfl rfl
    · obtain rfl : j = L.length := by omega
      have hz := hr.out
      rw [List.drop_length] at hz
      have hcf : chkF k L = 0 := hz.symm
      have hall := ha.out
      rw [List.take_length] at hall
      have Hall := Lib.hid hall
      have hE3 := Lib.hid (show mgE L k = (wrg (allH L)).2 by rw [hE.out, hcf, if_neg (by decide)])
      have HL := Lib.hid h
      clear hz hcf hall ha hr hE h
      go_wp2
      go_loopw [4, 5, 41] (fun v dv i w2 => ∃ (j n : Nat) (D : Int), j ≤ L.length ∧ i = .int .i64 j ∧ dv = .int .i64 D ∧ 0 ≤ D ∧ D ≤ 65535 ∧ Hid (dropF 0 (L.take j) = D) ∧ n ≤ 32 * j ∧ w2.ownsRow w.heap.size 48 2 v n (hits (allH (L.take j))) ∧ Below w.heap.size w w2) (fun _ _ i _ => L.length - (intOf i).toNat)
      case atStart => exact ⟨0, 0, 0, Nat.zero_le _, rfl, rfl, by omega, by omega, Lib.hid rfl, by omega, World.ownsRow_nil _ _ _ _, hB⟩
      case round =>
        obtain ⟨j, n, D, hj, rfl, rfl, hD0, hD1, hDr, hn, hown, hB⟩ := hrel
        obtain ⟨A1, c1, rfl, hrd, hcap, hmax⟩ := own_sl hown
        by_cases hjl : j < L.length
        · obtain ⟨b, off, r, rfl, hb, d1, d2, d3, hd, hR, hlr, hdr⟩ := rpAt (HL.out.go hB) hjl
          have hre := Hall.out r (List.mem_of_mem_drop (by rw [hd.out]; exact List.mem_cons_self))
          obtain ⟨_, hlk, _, ⟨hr0, hr1⟩, _⟩ := chkR_ok hre
          have hr32 : r.l.length ≤ 32 := by omega
          have htk := take_of_drop hd.out
          have hF := (Fr.nil hB).newN rfl (repO r.A r.l.length r.c r.o r.d)
          have hne := own_blk_ne (hown.alloc (repO r.A r.l.length r.c r.o r.d)) (hF.at (g := wr.heap.size) List.mem_cons_self) (by decide)
          have HF := Lib.hid hF
          have Hne := Lib.hid hne
          have Hown := Lib.hid (hown.alloc (repO r.A r.l.length r.c r.o r.d))
          have HB := Lib.hid (ba hB (repO r.A r.l.length r.c r.o r.d))
          have HR := Lib.hid (hR.al (repO r.A r.l.length r.c r.o r.d))
          have hone := hits_one r.l
          have hDn : dropF 0 (L.take (j + 1)) = min (D + r.d) 65535 := by rw [htk, dropF_app, hDr.out]; rfl
          have hAn : allH (L.take (j + 1)) = allH (L.take j) ++ r.l := by rw [htk, allH_app]; simp [allH]
          have HDn := Lib.hid hDn
          have HAn := Lib.hid hAn
          have hj1000 : j ≤ 1000 := by omega
          clear hrd hown hF hne hR hre hdr hDn hAn htk hd hDr
          go_wp2_with (at_builtin; refine wpList_apr htEl (w0 := w) (by exact Hown.out) (by exact HB.out) (by exact HR.out) hone ?_)
          intro v' w4 hO4 hb4 hg4
          have hF4 := Fr.grown HF.out hb4 hg4 (fun p hp => by rw [List.mem_singleton.1 hp]; exact Hne.out)
          have a4 := hF4.at (g := wr.heap.size) List.mem_cons_self
          have q2 : w4.cell? ⟨wr.heap.size, 2, none⟩ = some (.int .i64 r.d) := Lib.cell_of_heap a4 2
          have hO5 : w4.ownsRow w.heap.size 48 2 v' (n + r.l.length) (hits (allH (L.take (j + 1)))) := by
            rw [HAn.out, hits_app]; exact hO4
          have HO5 := Lib.hid hO5
          have hlt4 := heap_lt a4
          have hD2 : dropF 0 (L.take (j + 1)) = min (D + r.d) 65535 := HDn.out
          clear hO4 hg4 hF4 a4 hO5 HF Hne Hown HB HR hone HAn HDn d1 d2 d3 hb HL hB
          by_cases hmx : 65535 < D + r.d
          · have hD3 : dropF 0 (L.take (j + 1)) = 65535 := by omega
            have HD3 := Lib.hid hD3
            clear hD2 hD3
            go_wp2
            go_roundw
            case rel => exact ⟨j + 1, n + r.l.length, 65535, by omega, by go_num, rfl, by omega, by omega, HD3, by omega, HO5.out, hb4⟩
            case measure => simp [intOf]; omega
          · have hD3 : dropF 0 (L.take (j + 1)) = D + r.d := by omega
            have HD3 := Lib.hid hD3
            clear hD2 hD3
            go_wp2
            go_roundw
            case rel => exact ⟨j + 1, n + r.l.length, D + r.d, by omega, by go_num, rfl, by omega, by omega, HD3, by omega, HO5.out, hb4⟩
            case measure => simp [intOf]; omega
        · obtain rfl : j = L.length := by omega
          rw [List.take_length] at hDr hown
          obtain rfl : n = (allH L).length := by
            have := hown.1
            rw [flat2_length] at this
            omega
          have hrd := Reads.of_own hown
          have hwr := wrong_ wr A1 c1 (allH L) hrd (Nat.le_trans hcap hmax)
          by_cases he : (wrg (allH L)).2 = 0
          · have hE4 : mgE L k = 0 := by rw [hE3.out, he]
            have m1 : mgL L k = allH L := if_pos hE4
            have m2 : mgD L k = D := by unfold mgD; rw [if_pos hE4, hDr.out]
            rw [he] at hwr
            have Hwr := Lib.hid hwr
            have Hrd := Lib.hid hrd
            have HM := Lib.hid (And.intro m1 (And.intro m2 hE4))
            clear hwr he hE4 m1 m2 hrd hown
            generalize (wrg (allH L)).1 = I0 at *
            go_wp2_with fail
            (with_reducible refine (Hwr.out).mono ?_); rintro e w5 ⟨rfl, hb5⟩
            have hB5 := bt hB hb5
            go_wp2
            refine bodyPost_ret (v := .tuple #[.slice A1 (allH L).length c1, .int .i64 D, .int .i64 0]) (by simp [results, go_sem]) rfl ?_
            rw [HM.out.1, HM.out.2.1, HM.out.2.2]
            exact ⟨A1, c1, rfl, hB5, Hrd.out.go hb5, hcap, hmax⟩
          · obtain ⟨m1, m2⟩ := mg_no (L := L) (k := k) (by rw [hE3.out]; exact he)
            have HM := Lib.hid (And.intro m1 (And.intro m2 hE3.out))
            generalize (wrg (allH L)).1 = I0 at *
            generalize (wrg (allH L)).2 = E0 at *
            have e2 : (E0 != 0) = true := by simpa using he
            have Hwr := Lib.hid hwr
            clear hwr he m1 m2 hrd hown
            go_wp2_with fail
            (with_reducible refine (Hwr.out).mono ?_); rintro e w5 ⟨rfl, hb5⟩
            have hB5 := bt hB hb5
            go_wp2
            refine bodyPost_ret (v := .tuple #[.slice none 0 0, .int .i64 0, .int .i64 E0]) (by simp [results, go_sem]) rfl ?_
            rw [HM.out.1, HM.out.2.1, HM.out.2.2]
            exact RetMg.nil hB5 rfl rfl
end Go.Proofs.YtokcbdaoofjbgaaDoor
