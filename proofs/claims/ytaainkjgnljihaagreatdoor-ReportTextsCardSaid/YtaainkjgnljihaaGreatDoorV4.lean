/- Reports' texts: Print of the reference. No condition. -/
import Derived.Test.YtaainkjgnljihaaGreatDoorR9
import Derived.Test.YtaainkjgnljihaaGreatDoorN16
import Derived.Deep.DeepCutAuto
namespace Go.Proofs.YtaainkjgnljihaaGreatDoor
open Go.RowKit
theorem rdg_ (n : Int) (x : ByteArray) (hx : Hid (x = Dg n)) (h0 : 0 ≤ n) (h1 : n ≤ 9223372036854775807) (w : World) :
    Calls Tryz.prog 20 #[.int .i64 n] w fun e w' => e = .returned (.string x) ∧ Below w.heap.size w w' := by
  rw [hx.out]
  obtain ⟨N, rfl⟩ : ∃ N : Nat, n = N := ⟨n.toNat, by omega⟩
  have Hd := Lib.hid (rdig_pos N (by omega) w)
  go_enter Tryz.func20, Tryz.ntmps20
  go_wp2_with fail
  (with_reducible refine (Hd.out).mono ?_); rintro e w1 ⟨rfl, hb1⟩
  go_wp2
  go_ret
  exact ⟨rfl, hb1⟩
abbrev PrQ (w : World) (A : Option Addr) (l : List Hit) (c : Nat) (o : Bool) (d : Int) (w' : World) : Prop :=
  Fr w [(w.heap.size, repO A l.length c o d)] w' ∧ w'.cell? ⟨w.heap.size, 0, none⟩ = some (.slice A l.length c) ∧ w'.cell? ⟨w.heap.size, 2, none⟩ = some (.int .i64 d)
abbrev PrH (w : World) (A : Option Addr) (l : List Hit) (c : Nat) (o : Bool) (d : Int) (b x : Nat) (E I : Int) (w' : World) : Prop :=
  (Fr w [(w.heap.size, repO A l.length c o d)] w' ∧ b < w.heap.size) ∧ w'.cell? ⟨w.heap.size, 0, none⟩ = some (.slice A l.length c) ∧ w'.cell? ⟨b, x, none⟩ = some (.int .i64 E) ∧ w'.cell? ⟨b, x + 1, none⟩ = some (.int .i64 I)
section
variable {w w1 w2 : World} {A : Option Addr} {l : List Hit} {c b x : Nat} {o : Bool} {d E I : Int}
theorem PrQ.of (h : Fr w [(w.heap.size, repO A l.length c o d)] w1) : PrQ w A l c o d w1 :=
  have h1 := h.at (g := w.heap.size) (o := repO A l.length c o d) (by simp)
  ⟨h, Lib.cell_of_heap h1 0, Lib.cell_of_heap h1 2⟩
theorem PrQ.go (h : PrQ w A l c o d w1) (hb : Below w1.heap.size w1 w2) : PrQ w A l c o d w2 := .of (h.1.go hb)
theorem PrQ.drew (h : PrQ w A l c o d w1) : PrQ w A l c o d w1.drew := .of h.1.drew
theorem PrQ.fr (h : PrQ w A l c o d w1) : Fr w [(w.heap.size, repO A l.length c o d)] w1 := h.1
theorem PrH.of (h : Fr w [(w.heap.size, repO A l.length c o d)] w1) (hb : b < w.heap.size) (d1 : w.cell? ⟨b, x, none⟩ = some (.int .i64 E)) (d2 : w.cell? ⟨b, x + 1, none⟩ = some (.int .i64 I)) : PrH w A l c o d b x E I w1 :=
  have h1 := h.at (g := w.heap.size) (o := repO A l.length c o d) (by simp)
  ⟨⟨h, hb⟩, Lib.cell_of_heap h1 0, (h.bel.cell (p := ⟨b, x, none⟩) hb).trans d1, (h.bel.cell (p := ⟨b, x + 1, none⟩) hb).trans d2⟩
theorem PrH.fr (h : PrH w A l c o d b x E I w1) : Fr w [(w.heap.size, repO A l.length c o d)] w1 := h.1.1
theorem PrH.go (h : PrH w A l c o d b x E I w1) (hb : Below w1.heap.size w1 w2) : PrH w A l c o d b x E I w2 :=
  have hlt : b < w1.heap.size := Nat.lt_of_lt_of_le h.1.2 h.1.1.bel.size
  have hF := h.1.1.go hb
  have h1 := hF.at (g := w.heap.size) (o := repO A l.length c o d) (by simp)
  ⟨⟨hF, h.1.2⟩, Lib.cell_of_heap h1 0, (hb.cell (p := ⟨b, x, none⟩) hlt).trans h.2.2.1, (hb.cell (p := ⟨b, x + 1, none⟩) hlt).trans h.2.2.2⟩
theorem PrH.drew (h : PrH w A l c o d b x E I w1) : PrH w A l c o d b x E I w1.drew := ⟨⟨h.1.1.drew, h.1.2⟩, h.2⟩
end
theorem hitsL_snoc {l : List Hit} {j : Nat} {E I : Int} (hd : Hid (l.drop j = (E, I) :: l.drop (j + 1))) : hitsL (l.take (j + 1)) = hitsL (l.take j) ++ rowL wHit [E, I] := by
  rw [take_of_drop hd.out, hitsL_app]; simp [hitsL]
theorem ret_st {a b : ByteArray} {x y : Int} (h : a = b) (h' : x = y) : Ending.returned (.tuple #[.string a, .int .i64 x]) = .returned (.tuple #[.string b, .int .i64 y]) := by rw [h, h']
set_option maxRecDepth 100000 in
set_option maxHeartbeats 2000000 in
theorem rprint_any (w : World) (A : Option Addr) (c : Nat) (l : List Hit) (h : Reads w w.heap.size 2 A l.length (hits l)) (hl : l.length ≤ 9223372036854775807) (o : Bool) (d k : Int) :
    Calls Tryz.prog 6 #[repV A l.length c o d, .int .i64 k] w fun e w' => e = .returned (.tuple #[.string (prR l o d k), .int .i64 (chkR l o d k).2]) ∧ Below w.heap.size w w' := by
  have hc := rcheck_ (w.alloc (repO A l.length c o d)) A c l (h.al _) hl o d k
  have hF := (Fr.start w).newN rfl (repO A l.length c o d)
  have HF := Lib.hid hF
  have hO := hF.at (g := w.heap.size) List.mem_cons_self
  obtain ⟨c0, c1, c2⟩ : _ ∧ _ ∧ _ := ⟨Lib.cell_of_heap hO 0, Lib.cell_of_heap hO 1, Lib.cell_of_heap hO 2⟩
  clear hF hO
  by_cases he : (chkR l o d k).2 = 0
  case neg =>
    have h1 : prR l o d k = ⟨#[]⟩ := if_neg he
    rw [h1]
    generalize chkR l o d k = q at *
    obtain ⟨I, E⟩ := q
    have e2 : (E != 0) = true := by simpa using he
    have Hc := Lib.hid hc
    clear hc he h1
    go_enter Tryz.func6, Tryz.ntmps6
    go_wp2_with fail
    (with_reducible refine (Hc.out).mono ?_); rintro e w1 ⟨rfl, hb1⟩
    have hB := (HF.out.go hb1).bel
    go_wp2
    go_ret2
    exact ⟨rfl, hB⟩
  have h1 : prR l o d k = ⟨(prL l d).toArray⟩ := if_pos he
  rw [h1, he]
  obtain ⟨⟨hk1, hk2⟩, hlk, hw0, ⟨hd1, hd2⟩, _⟩ := chkR_ok he
  have Hall := Lib.hid (wrgF_ok l 0 none hw0)
  rw [he] at hc
  generalize (chkR l o d k).1 = J at *
  have Hc := Lib.hid hc
  have HR := Lib.hid h
  clear hc h1 hw0 he h
  go_enter Tryz.func6, Tryz.ntmps6
  go_wp2_with fail
  (with_reducible refine (Hc.out).mono ?_); rintro e w1 ⟨rfl, hb1⟩
  have hT := PrQ.of (HF.out.go hb1)
  have hl32 : l.length ≤ 32 := by omega
  obtain ⟨x, hx⟩ : ∃ x, x = Dg (l.length : Int) := ⟨_, rfl⟩
  obtain ⟨y, hy⟩ : ∃ y, y = Dg d := ⟨_, rfl⟩
  have hxs : x.size ≤ 21 := hx ▸ Dg_size (l.length : Int) (by omega) (by omega)
  have hys : y.size ≤ 21 := hy ▸ Dg_size d (by omega) (by omega)
  have Hx := Lib.hid hx
  have Hy := Lib.hid hy
  have j1 : ¬ (9223372036854775807 < 5 + x.size) := by omega
  have j2 : ¬ (9223372036854775807 < 5 + x.size + 9) := by omega
  have j3 : ¬ (9223372036854775807 < 5 + x.size + 9 + y.size) := by omega
  have j4 : ¬ (9223372036854775807 < 5 + x.size + 9 + y.size + 1) := by omega
  clear hx hy hb1 c0 c1 c2 hxs hys Hc
  go_upto_region 5 with fail
  go_cut [8] (fun t wx => ∃ cur : ByteArray, t = .string cur ∧ Hid (cur.data.toList = headL l.length d) ∧ Fr w [(w.heap.size, repO A l.length c o d)] wx)
  case first =>
    go_wp2_with fail
    go_region_held3 (fun w' => PrQ w A l c o d w')
      (with_reducible (first | exact PrQ.drew hT | exact PrQ.go (by assumption) hb2))
      ((first
        | (go_at_call_of 20 (Value.int IntKind.i64 (l.length : Int)); refine (rdg_ (l.length : Int) x Hx (by omega) (by omega) _).mono ?_; rintro e w2 ⟨rfl, hb2⟩)
        | (go_at_call_of 20 (Value.int IntKind.i64 d); refine (rdg_ d y Hy (by omega) (by omega) _).mono ?_; rintro e w2 ⟨rfl, hb2⟩)))
    all_goals
      go_wp2_with fail
      go_meet
      refine ⟨_, rfl, Lib.hid ?_, by with_reducible exact PrQ.fr (by assumption)⟩
      rw [Hx.out, Hy.out]
      simp only [ByteArray.data_append, Array.toList_append, headL, headH, rowL, numsL, numL, wHits, wDropped]
      simp
  case rest =>
  obtain ⟨cur0, rfl, hcur0, hF1⟩ := hcut
  have Hh := Lib.hid (headL_len l.length d (by omega) (by omega))
  have hc0 : cur0.size ≤ 57 := by
    have h2 := Hh.out
    rw [← hcur0.out] at h2
    exact h2
  clear hT Hx Hy j1 j2 j3 j4
  clear x y
  go_wp2
  go_loopw [8, 9] (fun t i wr => ∃ (j : Nat) (cur : ByteArray), j ≤ l.length ∧ i = .int .i64 j ∧ t = .string cur ∧ Hid (cur.data.toList = headL l.length d ++ hitsL (l.take j)) ∧ cur.size ≤ 57 + 48 * j ∧ Fr w [(w.heap.size, repO A l.length c o d)] wr) (fun _ i _ => l.length - (intOf i).toNat)
  case atStart => exact ⟨0, cur0, Nat.zero_le _, rfl, rfl, Lib.hid (by rw [hcur0.out]; simp [hitsL]), by omega, hF1⟩
  case round =>
    obtain ⟨j, cur, hj, rfl, rfl, hcur, hcs, hFr⟩ := hrel
    clear hF1 hcur0
    have c0 := Lib.cell_of_heap (hFr.at (g := w.heap.size) List.mem_cons_self) 0
    by_cases hlt : j < l.length
    case neg =>
      obtain rfl : j = l.length := by omega
      have hend : cur = ⟨(prL l d).toArray⟩ := by
        apply ByteArray.ext
        apply Array.toList_inj.1
        rw [hcur.out, List.take_length]
        rfl
      have Hend := Lib.hid hend
      have hB := hFr.bel
      clear hend hcur
      go_wp2
      go_ret2
      exact ⟨ret_st Hend.out rfl, hB⟩
    have i1 : (j : Int) < (l.length : Int) := by omega
    have i0 : (0 : Int) ≤ (j : Int) := by omega
    obtain ⟨b, off, E, I, rfl, hb, d1, d2, hd⟩ := htAt HR.out hlt
    have ho := Hall.out _ (List.mem_of_mem_drop (by rw [hd.out]; exact List.mem_cons_self))
    obtain ⟨⟨e1, e2⟩, e3, e4⟩ := okH_iff.1 ho
    have hT := PrH.of (x := off + j * 2) hFr hb d1 d2
    obtain ⟨x, hx⟩ : ∃ x, x = Dg E := ⟨_, rfl⟩
    obtain ⟨y, hy⟩ : ∃ y, y = Dg I := ⟨_, rfl⟩
    have hlen := Lib.hid (rowL_len wHit [E, I] (by simp; omega))
    have hxs : x.size ≤ 21 := hx ▸ Dg_size E (by omega) (by omega)
    have hys : y.size ≤ 21 := hy ▸ Dg_size I (by omega) (by omega)
    have hcs2 : cur.size + 4 + x.size + 1 + y.size + 1 ≤ 57 + 48 * (j + 1) := by omega
    have Hx := Lib.hid hx
    have Hy := Lib.hid hy
    have Htk := Lib.hid (hitsL_snoc hd)
    have j1 : ¬ (9223372036854775807 < cur.size + 4) := by omega
    have j2 : ¬ (9223372036854775807 < cur.size + 4 + x.size) := by omega
    have j3 : ¬ (9223372036854775807 < cur.size + 4 + x.size + 1) := by omega
    have j4 : ¬ (9223372036854775807 < cur.size + 4 + x.size + 1 + y.size) := by omega
    have j5 : ¬ (9223372036854775807 < cur.size + 4 + x.size + 1 + y.size + 1) := by omega
    clear hx hy hxs hys ho d1 d2 hd
    go_wp2_with fail
    go_region_held3 (fun w' => PrH w (some ⟨b, off, none⟩) l c o d b (off + j * 2) E I w')
      (with_reducible (first | exact PrH.drew hT | exact PrH.go (by assumption) hb2))
      ((first
        | (go_at_call_of 20 (Value.int IntKind.i64 E); refine (rdg_ E x Hx (by omega) (by omega) _).mono ?_; rintro e w2 ⟨rfl, hb2⟩)
        | (go_at_call_of 20 (Value.int IntKind.i64 I); refine (rdg_ I y Hy (by omega) (by omega) _).mono ?_; rintro e w2 ⟨rfl, hb2⟩)))
    all_goals
      have hFz : Fr w [(w.heap.size, repO (some ⟨b, off, none⟩) l.length c o d)] _ := PrH.fr (by with_reducible assumption)
      have HFz := Lib.hid hFz
      clear hFz
      go_wp2
      go_roundw
      case rel =>
        refine ⟨j + 1, _, by omega, by go_num, rfl, Lib.hid ?_, ?_, HFz.out⟩
        · rw [Htk.out, Hx.out, Hy.out, ← List.append_assoc, ← hcur.out]
          simp only [ByteArray.data_append, Array.toList_append, rowL, numsL, numL, wHit]
          simp
        · simp only [ByteArray.size_append]
          exact hcs2
      case measure => (simp [intOf]) <;> omega
end Go.Proofs.YtaainkjgnljihaaGreatDoor
