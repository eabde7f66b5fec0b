/- Reports: Encode of the program. -/
import Derived.Test.YtaainkjgnljihaaGreatDoorR7
import Derived.Laws.CopyOwn
namespace Go.Proofs.YtaainkjgnljihaaGreatDoor
open Go.RowKit
def ent (h : Hit) : List Int := be 4 h.1 ++ be 2 h.2
def ents : List Hit → List Int
  | [] => []
  | h :: r => ent h ++ ents r
theorem ent_len (h : Hit) : (ent h).length = 6 := by simp [ent, be_len]
theorem ents_len (l : List Hit) : (ents l).length = 6 * l.length := by
  induction l with
  | nil => rfl
  | cons h r ih => simp [ents, ent_len, ih]; omega
theorem ents_app (l m : List Hit) : ents (l ++ m) = ents l ++ ents m := by
  induction l with
  | nil => rfl
  | cons h r ih => simp [ents, ih]
/-- the bytes of a report -/
def encL (l : List Hit) (o : Bool) (d : Int) (K : Nat) : List Int := be 2 l.length ++ ([if o then 1 else 0] ++ (be 2 d ++ (ents l ++ List.replicate (6 * (K - l.length)) 0)))
theorem encL_len (l : List Hit) (o : Bool) (d : Int) (K : Nat) (h : l.length ≤ K) : (encL l o d K).length = 5 + 6 * K := by
  simp [encL, be_len, ents_len]; omega
def encE (l : List Hit) (o : Bool) (d k : Int) : Int := (chkR l o d k).2
def encR (l : List Hit) (o : Bool) (d k : Int) : List Int := if encE l o d k = 0 then encL l o d k.toNat else []
theorem chkR_ok {l : List Hit} {o : Bool} {d k : Int} (h : (chkR l o d k).2 = 0) : (1 ≤ k ∧ k ≤ 32) ∧ (l.length : Int) ≤ k ∧ (wrg l).2 = 0 ∧ (0 ≤ d ∧ d ≤ 65535) ∧ flgB o d l.length k = true := by
  unfold chkR at h
  cases hc : capK k with
  | false => rw [if_pos hc] at h; cases h
  | true =>
    rw [hc, if_neg (by decide)] at h
    by_cases h1 : k < l.length
    · rw [if_pos h1] at h; cases h
    rw [if_neg h1] at h
    by_cases h2 : (wrg l).2 ≠ 0
    · rw [if_pos h2] at h; exact absurd h h2
    rw [if_neg h2] at h
    by_cases h3 : d < 0 ∨ 65535 < d
    · rw [if_pos h3] at h; cases h
    rw [if_neg h3] at h
    cases hf : flgB o d l.length k with
    | false => rw [hf] at h; simp at h
    | true => exact ⟨capK_iff.1 hc, by omega, by simpa using h2, by omega, rfl⟩
theorem wrgF_ok : ∀ (l : List Hit) (i : Nat) (p : Option Hit), (wrgF i p l).2 = 0 → ∀ h ∈ l, okH h = true
  | [], _, _, _ => fun h hh => by cases hh
  | x :: r, i, p, hw => by
    rw [wrgF] at hw
    by_cases e : hitErr p x = 0
    · rw [if_pos e] at hw
      intro h hh
      rcases List.mem_cons.1 hh with rfl | hh
      · cases ho : okH h with
        | true => rfl
        | false => rw [hitErr_range ho] at e; cases e
      · exact wrgF_ok r _ _ hw h hh
    · rw [if_neg e] at hw; exact absurd hw e
set_option maxRecDepth 100000 in
set_option maxHeartbeats 1000000 in
theorem encode_no (w : World) (A : Option Addr) (c : Nat) (l : List Hit) (h : Reads w w.heap.size 2 A l.length (hits l)) (hl : l.length ≤ 9223372036854775807) (o : Bool) (d k : Int) (hne : encE l o d k ≠ 0) :
    Calls Tryz.prog 10 #[repV A l.length c o d, .int .i64 k] w (RetSl w 1 (u8s (encR l o d k)) (encR l o d k).length (encE l o d k)) := by
  have h1 : encR l o d k = [] := if_neg hne
  rw [h1]
  have hc := check_ (w.alloc (repO A l.length c o d)) A c l (h.al _) hl o d k
  unfold encE at *
  generalize chkR l o d k = q at *
  obtain ⟨I, E⟩ := q
  have e2 : (E != 0) = true := by simpa using hne
  have Hc := Lib.hid hc
  clear hc hne h1
  go_enter Tryz.func10, Tryz.ntmps10
  go_wp2_with fail
  (with_reducible refine (Hc.out).mono ?_); rintro e w1 ⟨rfl, hb1⟩
  have hB := bt (ba (Below.refl _ _) _) hb1
  clear hb1
  go_wp2
  go_ret2
  exact RetSl.nil hB rfl rfl
theorem u8El2 : Elem Tryz.prog 35 5 (.int .u8 0) 1 1 := u8El
theorem rep_add {α : Type} (a b : Nat) (x : α) : List.replicate (a + b) x = List.replicate a x ++ List.replicate b x := List.replicate_append_replicate.symm
theorem zeros_made (z : Value) (n : Nat) : madeCells #[z] n = (List.replicate n z).toArray := by
  apply Array.ext
  · simp [madeCells]
  · intro i h1 h2
    simp [madeCells, Nat.mod_one]
/-- what lies below block g is as in w2; the report's own cells -/
abbrev EnT (w2 : World) (g r n c : Nat) (A : Option Addr) (o : Bool) (d : Int) (w' : World) : Prop :=
  (Below g w2 w' ∧ g < w'.heap.size ∧ Hid (r < g ∧ w2.cell? ⟨r, 0, none⟩ = some (.slice A n c) ∧ w2.cell? ⟨r, 1, none⟩ = some (.bool o) ∧ w2.cell? ⟨r, 2, none⟩ = some (.int .i64 d))) ∧
  w'.cell? ⟨r, 0, none⟩ = some (.slice A n c) ∧ w'.cell? ⟨r, 1, none⟩ = some (.bool o) ∧ w'.cell? ⟨r, 2, none⟩ = some (.int .i64 d)
section
variable {w2 w w1 : World} {g r n c : Nat} {A : Option Addr} {o : Bool} {d : Int}
theorem EnT.mk (h : Below g w2 w) (hg : g < w.heap.size) (hr : Hid (r < g ∧ w2.cell? ⟨r, 0, none⟩ = some (.slice A n c) ∧ w2.cell? ⟨r, 1, none⟩ = some (.bool o) ∧ w2.cell? ⟨r, 2, none⟩ = some (.int .i64 d))) : EnT w2 g r n c A o d w :=
  ⟨⟨h, hg, hr⟩, (h.cell (p := ⟨r, 0, none⟩) hr.out.1).trans hr.out.2.1, (h.cell (p := ⟨r, 1, none⟩) hr.out.1).trans hr.out.2.2.1, (h.cell (p := ⟨r, 2, none⟩) hr.out.1).trans hr.out.2.2.2⟩
theorem EnT.drew (h : EnT w2 g r n c A o d w) : EnT w2 g r n c A o d w.drew := .mk h.1.1.drew h.1.2.1 h.1.2.2
theorem EnT.grow (h : EnT w2 g r n c A o d w) (hg : w.grownBy w1 (some g)) : EnT w2 g r n c A o d w1 :=
  .mk (h.1.1.grown hg (Nat.le_of_lt h.1.2.1) (fun k hk => by injection hk with hk; omega)) (Nat.lt_of_lt_of_le h.1.2.1 hg.size) h.1.2.2
end
/-- b[lo:hi:mx] of bytes -/
theorem sl_lhm (g off N C : Nat) (lo hi mx : Int) (n m : Nat) (h0 : 0 ≤ lo) (h1 : lo ≤ hi) (h2 : hi ≤ mx) (h3 : mx ≤ (C : Int)) (hn : hi - lo = n) (hm : mx - lo = m) (hpos : 0 < m) (W : World) :
    (Instr.sliceAt 35 (.slice (some ⟨g, off, none⟩) N C) (some (.int .i64 lo)) (some (.int .i64 hi)) (some (.int .i64 mx))).run Tryz.prog W = .ok (.slice (some ⟨g, off + lo.toNat, none⟩) n m) W := by
  have he : Tryz.prog.elem 35 = 5 := by kernel_rfl
  have ht : Tryz.prog.underlying 35 = some (.slice (Tryz.prog.elem 35)) := by rw [he]; exact Tryz.underlying35
  obtain ⟨i, hi', _, hs, _⟩ := info_parts u8El.hi
  rw [run_sliceAt_slice W _ _ _ _ _ ht, run_slice_lhm W _ _ N C ht .i64 .i64 .i64 lo hi mx h0 h1 h2 h3, he]
  have hz : ((sizeOf 5).run Tryz.prog W) = .ok 1 W := by simp [sizeOf, typeInfo, hi', hs]
  rw [hz]
  have e1 : hi.toNat - lo.toNat = n := by omega
  have e2 : mx.toNat - lo.toNat = m := by omega
  have e3 : ¬ (mx.toNat = lo.toNat) := by omega
  simp [Result.andThen, sliced, e1, e2, e3, add_lit]
/-- b[lo:] of bytes -/
theorem sl_l (g off N C : Nat) (lo : Int) (n m : Nat) (h0 : 0 ≤ lo) (h3 : lo ≤ (N : Int)) (hn : (N : Int) - lo = n) (hm : (C : Int) - lo = m) (hpos : 0 < m) (W : World) :
    (Instr.sliceAt 35 (.slice (some ⟨g, off, none⟩) N C) (some (.int .i64 lo)) none none).run Tryz.prog W = .ok (.slice (some ⟨g, off + lo.toNat, none⟩) n m) W := by
  have he : Tryz.prog.elem 35 = 5 := by kernel_rfl
  have ht : Tryz.prog.underlying 35 = some (.slice (Tryz.prog.elem 35)) := by rw [he]; exact Tryz.underlying35
  obtain ⟨i, hi', _, hs, _⟩ := info_parts u8El.hi
  rw [run_sliceAt_slice W _ _ _ _ _ ht, run_slice_l W _ _ N C ht .i64 lo h0 h3, he]
  have hz : ((sizeOf 5).run Tryz.prog W) = .ok 1 W := by simp [sizeOf, typeInfo, hi', hs]
  rw [hz]
  have e1 : N - lo.toNat = n := by omega
  have e2 : C - lo.toNat = m := by omega
  have e3 : ¬ (C = lo.toNat) := by omega
  simp [Result.andThen, sliced, e1, e2, e3, add_lit]
def encH (n : Nat) (o : Bool) (d : Int) : List Int := be 2 n ++ ([if o then 1 else 0] ++ be 2 d)
/-- the loop of Encode: block g holds what the first j hits make -/
structure EnL (w2 : World) (g : Nat) (l : List Hit) (j K : Nat) (o : Bool) (d : Int) (w' : World) : Prop where
  bel : Below g w2 w'
  blk : w'.heap[g]? = some (.cells (u8s (encH l.length o d ++ (ents (l.take j) ++ List.replicate (6 * (K - j)) 0))).toArray 5 (0, 0))
theorem EnL.lt {w2 w1 : World} {g j K : Nat} {l : List Hit} {o : Bool} {d : Int} (h : EnL w2 g l j K o d w1) : g < w1.heap.size := heap_lt h.blk
theorem splice_mid {α : Type} (A B C cs : List α) (n : Nat) (hA : A.length = n) (hB : B.length = cs.length) : splice (A ++ (B ++ C)) n cs = A ++ (cs ++ C) := by
  subst hA
  unfold splice
  rw [show (A ++ (B ++ C)).take A.length = A from List.take_left, show (A ++ (B ++ C)).drop (A.length + cs.length) = C by rw [← hB, ← List.append_assoc, ← List.length_append]; exact List.drop_left]
section
variable {w2 w w1 : World} {g j K gh gx : Nat} {l : List Hit} {o : Bool} {d E I : Int}
theorem EnL.grow (h : EnL w2 g l j K o d w) (hg : w.grownBy w1 (some gx)) (hx : g < gx) : EnL w2 g l j K o d w1 :=
  ⟨h.bel.grown hg (Nat.le_of_lt h.lt) (fun k hk => by injection hk with hk; omega), grown_blk hg h.blk (fun e => by injection e with e; omega)⟩
theorem EnL.al (h : EnL w2 g l j K o d w) (x : Obj) : EnL w2 g l j K o d (w.alloc x) := ⟨h.bel.alloc (Nat.le_of_lt h.lt) x, alloc_blk h.blk⟩
theorem EnL.drew (h : EnL w2 g l j K o d w) : EnL w2 g l j K o d w.drew := ⟨h.bel.drew, h.blk⟩
abbrev LpT (w2 : World) (g : Nat) (l : List Hit) (j K : Nat) (o : Bool) (d : Int) (gh gx : Nat) (E I : Int) (w' : World) : Prop :=
  (EnL w2 g l j K o d w' ∧ g < gh ∧ gh < gx ∧ gh < w'.heap.size) ∧ w'.cell? ⟨gh, 0, none⟩ = some (.int .i64 E) ∧ w'.cell? ⟨gh, 1, none⟩ = some (.int .i64 I)
theorem LpT.drew (h : LpT w2 g l j K o d gh gx E I w) : LpT w2 g l j K o d gh gx E I w.drew := ⟨⟨h.1.1.drew, h.1.2⟩, h.2⟩
theorem LpT.grow (h : LpT w2 g l j K o d gh gx E I w) (hg : w.grownBy w1 (some gx)) : LpT w2 g l j K o d gh gx E I w1 := by
  obtain ⟨⟨h1, h2, h3, h4⟩, c0, c1⟩ := h
  have hk : ∀ p : Addr, p.block = gh → w1.cell? p = w.cell? p := fun p hp => World.cell?_of_block (hg.block p.block (by omega) (fun e => by injection e with e; omega))
  exact ⟨⟨h1.grow hg (by omega), h2, h3, Nat.lt_of_lt_of_le h4 hg.size⟩, (hk ⟨gh, 0, none⟩ rfl).trans c0, (hk ⟨gh, 1, none⟩ rfl).trans c1⟩
end
theorem arr6 : Tryz.prog.underlying 65 = some (.array (Tryz.prog.arrayLen 65) (Tryz.prog.elem 65)) := by kernel_rfl
theorem arr6l : Tryz.prog.arrayLen 65 = 6 := by kernel_rfl
theorem arr6e : Tryz.prog.elem 65 = 5 := by kernel_rfl
theorem size8 (W : World) : ((sizeOf 5).run Tryz.prog W) = .ok 1 W := by
  obtain ⟨i, hi', _, hs, _⟩ := info_parts u8El.hi
  simp [sizeOf, typeInfo, hi', hs]
theorem sa_h (g : Nat) (W : World) : (Instr.sliceAt 65 (.pointer (some ⟨g, 0, none⟩)) none (some (.int .i64 4)) none).run Tryz.prog W = .ok (.slice (some ⟨g, 0, none⟩) 4 6) W := by
  rw [run_sliceAt_array_h W _ _ arr6 .i64 4 (by omega) (by rw [arr6l]; decide), arr6l, arr6e, size8]
  simp [Result.andThen, slicedAt, add_lit]
theorem sa_l (g : Nat) (W : World) : (Instr.sliceAt 65 (.pointer (some ⟨g, 0, none⟩)) (some (.int .i64 4)) none none).run Tryz.prog W = .ok (.slice (some ⟨g, 4, none⟩) 2 2) W := by
  rw [run_sliceAt_array_l W _ _ arr6 .i64 4 (by omega) (by rw [arr6l]; decide), arr6l, arr6e, size8]
  simp [Result.andThen, slicedAt, add_lit]
theorem sa_all (g : Nat) (W : World) : (Instr.sliceAt 65 (.pointer (some ⟨g, 0, none⟩)) none none none).run Tryz.prog W = .ok (.slice (some ⟨g, 0, none⟩) 6 6) W := by
  rw [run_sliceAt_array_all W _ _ arr6, arr6l, arr6e, size8]
  simp [Result.andThen, slicedAt, add_lit]
set_option maxRecDepth 100000 in
set_option maxHeartbeats 2000000 in
theorem encode_yes (w : World) (A : Option Addr) (c : Nat) (l : List Hit) (h : Reads w w.heap.size 2 A l.length (hits l)) (hl : l.length ≤ 9223372036854775807) (o : Bool) (d k : Int) (he : encE l o d k = 0) :
    Calls Tryz.prog 10 #[repV A l.length c o d, .int .i64 k] w (RetSl w 1 (u8s (encR l o d k)) (encR l o d k).length (encE l o d k)) := by
  have h1 : encR l o d k = encL l o d k.toNat := if_pos he
  rw [h1, he]
  have hc := check_ (w.alloc (repO A l.length c o d)) A c l (h.al _) hl o d k
  unfold encE at he
  obtain ⟨⟨hk1, hk2⟩, hlk, hw0, ⟨hd1, hd2⟩, _⟩ := chkR_ok he
  have hall := wrgF_ok l 0 none hw0
  rw [he] at hc
  generalize (chkR l o d k).1 = I at *
  have Hc := Lib.hid hc
  have Hall := Lib.hid hall
  have HR := Lib.hid h
  clear hc h1 hw0 hall he h
  obtain ⟨K, hK⟩ : ∃ K : Nat, k = K := ⟨k.toNat, by omega⟩
  subst hK
  rw [Int.toNat_natCast]
  have hmk : ∀ W : World, (Instr.makeSlice 35 (.int .i64 (5 + 6 * (K : Int))) (.int .i64 (5 + 6 * (K : Int)))).run Tryz.prog W = .ok (.slice (some ⟨W.heap.size, 0, none⟩) (5 + 6 * K) (5 + 6 * K)) (W.alloc (.cells (madeCells #[.int .u8 0] (5 + 6 * K)) 5)) := fun W => by
    have := run_mk1 u8El rfl .i64 .i64 (5 + 6 * K) (5 + 6 * K) (Nat.le_refl _) (by omega) (by omega) W
    rw [show ((5 + 6 * K : Nat) : Int) = 5 + 6 * (K : Int) by omega] at this
    exact this
  go_enter Tryz.func10, Tryz.ntmps10
  go_wp2_with fail
  (with_reducible refine (Hc.out).mono ?_); rintro e w1 ⟨rfl, hb1⟩
  have hF := ((Fr.start w).newN rfl (repO A l.length c o d)).go hb1
  clear hb1
  have hlt := hF.lt (g := w.heap.size) List.mem_cons_self
  have hO := hF.at (g := w.heap.size) List.mem_cons_self
  go_wp2_with fail
  rw [zeros_made]
  have hblk : PQR (w1.alloc (.cells (List.replicate (5 + 6 * K) (Value.int .u8 0)).toArray 5 (0, 0))) w1.heap.size 5 [] (List.replicate 2 (Value.int .u8 0)) (List.replicate (3 + 6 * K) (Value.int .u8 0)) := by
    have := alloc1_new w1 (.cells (List.replicate (5 + 6 * K) (Value.int .u8 0)).toArray 5 (0, 0))
    rw [PQR, List.nil_append, List.replicate_append_replicate, show 2 + (3 + 6 * K) = 5 + 6 * K by omega]
    exact this
  have hT : EnT (w1.alloc (.cells (List.replicate (5 + 6 * K) (Value.int .u8 0)).toArray 5 (0, 0))) w1.heap.size w.heap.size l.length c A o d (w1.alloc (.cells (List.replicate (5 + 6 * K) (Value.int .u8 0)).toArray 5 (0, 0))) :=
    .mk (Below.refl _ _) (by simp) (Lib.hid ⟨hlt, Lib.cell_of_heap (alloc_blk hO) 0, Lib.cell_of_heap (alloc_blk hO) 1, Lib.cell_of_heap (alloc_blk hO) 2⟩)
  have hB2 : Below w.heap.size w (w1.alloc (.cells (List.replicate (5 + 6 * K) (Value.int .u8 0)).toArray 5 (0, 0))) := ba hF.bel _
  clear hF hO hmk
  generalize w1.alloc (.cells (List.replicate (5 + 6 * K) (Value.int .u8 0)).toArray 5 (0, 0)) = w2 at *
  generalize w1.heap.size = g at *
  have hcv : IntKind.u16.wrap (l.length : Int) = (l.length : Int) := by simp [IntKind.wrap, IntKind.bits, IntKind.signed]; omega
  have hcd : IntKind.u16.wrap d = d := by simp [IntKind.wrap, IntKind.bits, IntKind.signed]; omega
  have hK1 : (2 : Int) ≤ ((5 + 6 * K : Nat) : Int) := by omega
  have hK2 : (5 : Int) ≤ ((5 + 6 * K : Nat) : Int) := by omega
  have Hblk := Lib.hid hblk
  have hs1 : ∀ W : World, (Instr.sliceAt 35 (.slice (some ⟨g, 0, none⟩) (5 + 6 * K) (5 + 6 * K)) (some (.int .i64 0)) (some (.int .i64 2)) (some (.int .i64 2))).run Tryz.prog W = .ok (.slice (some ⟨g, 0, none⟩) 2 2) W := fun W => sl_lhm g 0 _ _ 0 2 2 2 2 (by omega) (by omega) (by omega) (by omega) rfl rfl (by omega) W
  have hs2 : ∀ W : World, (Instr.sliceAt 35 (.slice (some ⟨g, 0, none⟩) (5 + 6 * K) (5 + 6 * K)) (some (.int .i64 3)) (some (.int .i64 5)) (some (.int .i64 5))).run Tryz.prog W = .ok (.slice (some ⟨g, 3, none⟩) 2 2) W := fun W => sl_lhm g 0 _ _ 3 5 5 2 2 (by omega) (by omega) (by omega) (by omega) rfl rfl (by omega) W
  clear hblk
  go_region_held3 (fun w' => EnT w2 g w.heap.size l.length c A o d w')
    (with_reducible (first | exact EnT.drew hT | exact EnT.grow (by assumption) hg2))
    ((go_at_call 29; refine (write16_at _ g 2 _ 0 5 [] _ _ (by exact Hblk.out) rfl (by omega) (l.length : Int) (by omega) rfl).mono ?_; rintro e w3 ⟨rfl, hp2, hg2⟩))
  have hE3 : EnT w2 g w.heap.size l.length c A o d w3 := by assumption
  clear hT hg2 Hblk hs1
  -- the flag
  have hfl : ∃ w4, PQR w4 g 5 (u8s (be 2 l.length ++ [if o then 1 else 0])) (List.replicate 2 (Value.int .u8 0)) (List.replicate (6 * K) (Value.int .u8 0)) ∧ EnT w2 g w.heap.size l.length c A o d w4 ∧ w4 = (if o then w3.setCell ⟨g, 2, none⟩ (.int .u8 1) else w3) := by
    have hsp : PQR w3 g 5 (u8s (be 2 l.length)) ([] ++ Value.int .u8 0 :: List.replicate 2 (Value.int .u8 0)) (List.replicate (6 * K) (Value.int .u8 0)) := by
      rw [PQR, List.nil_append] at hp2
      rw [PQR, hp2, List.nil_append, show 3 + 6 * K = 1 + (2 + 6 * K) by omega, rep_add, rep_add 2]
      rfl
    cases o with
    | true =>
      refine ⟨w3.setCell ⟨g, 2, none⟩ (.int .u8 1), ?_, hE3.grow (grown_set _ _ _), rfl⟩
      have := pqr_set (u := .int .u8 1) hsp (m := 0) rfl
      rw [show (u8s (be 2 l.length)).length + 0 = 2 by simp [be_len]] at this
      rw [PQR] at this ⊢
      rw [this]
      simp
    | false =>
      refine ⟨w3, ?_, hE3, rfl⟩
      rw [PQR] at hsp ⊢
      rw [hsp]
      simp
  obtain ⟨w4, hp4, hE4, hw4⟩ := hfl
  have k2 : w3.cell? ⟨g, 2, none⟩ = some (.int .u8 0) := by
    rw [PQR, List.nil_append] at hp2
    rw [Lib.cell_of_heap hp2, show 3 + 6 * K = 1 + (2 + 6 * K) by omega, rep_add]
    simp [be]
  have f2 : w3.frozen? ⟨g, 2, none⟩ = false := pqr_frozen hp2
  have Hp4 := Lib.hid hp4
  have HE4 := Lib.hid hE4
  have Hw4 := Lib.hid hw4
  obtain ⟨_, c0, c1, c2⟩ := hE3
  clear hp2 hp4 hE4 hw4
  have hi1 : (2 : Int) < ((5 + 6 * K : Nat) : Int) := by omega
  have hi2 : (2 : Int) < 5 + 6 * (K : Int) := by omega
  have hB4 : ∀ W, EnT w2 g w.heap.size l.length c A o d W → Below w.heap.size w W := fun W hW => hB2.trans (hW.1.1.mono (Nat.le_of_lt hW.1.2.2.out.1))
  have HB4 := Lib.hid hB4
  have HB2 := Lib.hid hB2
  clear hB4 hB2
  cases o with
  | true =>
    go_upto_region 8 with fail
    rw [show w3.setCell ⟨g, 2, none⟩ (.int .u8 1) = w4 by have := Hw4.out; simpa using this.symm]
    clear c0 c1 c2 k2 f2 Hw4
    obtain ⟨_, c0, c1, c2⟩ := HE4.out
    have hT4 := HE4.out
    go_region_held3 (fun w' => EnT w2 g w.heap.size l.length c A true d w')
      (with_reducible (first | exact EnT.drew hT4 | exact EnT.grow (by assumption) hg2))
      ((go_at_call 29; refine (write16_at _ g 2 _ 3 5 _ _ _ (by exact Hp4.out) rfl (by omega) d (by omega) rfl).mono ?_; rintro e w5 ⟨rfl, hp5, hg2⟩))
    have hE5 : EnT w2 g w.heap.size l.length c A true d w5 := by assumption
    clear hT4 hg2 Hp4 HE4 hs2 c0 c1 c2
    have hX5 : EnL w2 g l 0 K true d w5 := by
      refine ⟨hE5.1.1, ?_⟩
      rw [PQR] at hp5
      rw [hp5]
      simp [encH, ents]
    obtain ⟨hX0, c0, c1, c2⟩ := hE5
    have hr0 := hX0.2.2.out.1
    clear hp5 hX0
    have hlw : w.heap.size < w5.heap.size := Nat.lt_of_lt_of_le hr0 (Nat.le_of_lt hX5.lt)
    go_wp2_with fail
    go_loopw [45] (fun i wr => ∃ j : Nat, j ≤ l.length ∧ i = .int .i64 j ∧ EnL w2 g l j K true d wr) (fun i _ => l.length - (intOf i).toNat)
    case atStart => exact ⟨0, Nat.zero_le _, rfl, hX5⟩
    case round =>
      obtain ⟨j, hj, rfl, hX⟩ := hrel
      clear hX5 c0 c1 c2
      by_cases hjl : j < l.length
      · obtain ⟨b, off, E, I, rfl, hb, d1, d2, hd⟩ := htAt ((HR.out.below HB2.out).below' hX.bel (Nat.le_of_lt hr0)) hjl
        have ho := Hall.out _ (List.mem_of_mem_drop (by rw [hd.out]; exact List.mem_cons_self))
        obtain ⟨⟨e1, e2⟩, e3, e4⟩ := okH_iff.1 ho
        have hbw : b < wr.heap.size := by have := hX.lt; omega
        have hXa := (hX.al (.cells #[.int .i64 E, .int .i64 I] 34 (0, 0))).al (.cells #[.int .u8 0, .int .u8 0, .int .u8 0, .int .u8 0, .int .u8 0, .int .u8 0] 65 (0, 0))
        have hgw := hX.lt
        have hq : PQR ((wr.alloc (.cells #[.int .i64 E, .int .i64 I] 34 (0, 0))).alloc (.cells #[.int .u8 0, .int .u8 0, .int .u8 0, .int .u8 0, .int .u8 0, .int .u8 0] 65 (0, 0))) (wr.heap.size + 1) 65 [] (List.replicate 4 (Value.int .u8 0)) (List.replicate 2 (Value.int .u8 0)) := alloc2_new _ _ _
        have hT : LpT w2 g l j K true d wr.heap.size (wr.heap.size + 1) E I ((wr.alloc (.cells #[.int .i64 E, .int .i64 I] 34 (0, 0))).alloc (.cells #[.int .u8 0, .int .u8 0, .int .u8 0, .int .u8 0, .int .u8 0, .int .u8 0] 65 (0, 0))) :=
          ⟨⟨hXa, hgw, by omega, by simp; omega⟩, Lib.cell_of_heap (alloc_blk (alloc1_new wr _)) 0, Lib.cell_of_heap (alloc_blk (alloc1_new wr _)) 1⟩
        have Hq := Lib.hid hq
        have hcE : IntKind.u32.wrap E = E := by simp [IntKind.wrap, IntKind.bits, IntKind.signed]; omega
        have sa1 := sa_h (wr.heap.size + 1)
        have sa2 := sa_l (wr.heap.size + 1)
        have sa3 := sa_all (wr.heap.size + 1)
        clear ho hX hXa hq
        go_wp2_with fail
        go_region_held3 (fun w' => LpT w2 g l j K true d wr.heap.size (wr.heap.size + 1) E I w')
          (with_reducible (first | exact LpT.drew hT | exact LpT.grow (by assumption) hg2))
          ((go_at_call 30; refine (write32_at _ (wr.heap.size + 1) 4 _ 0 65 [] _ _ (by exact Hq.out) rfl (by omega) E (by omega) rfl).mono ?_; rintro e w6 ⟨rfl, hp6, hg2⟩))
        have hp6' : PQR w6 (wr.heap.size + 1) 65 (u8s (be 4 E)) (List.replicate 2 (Value.int .u8 0)) [] := by
          rw [PQR] at hp6 ⊢; rw [hp6]; simp
        have hT6 : LpT w2 g l j K true d wr.heap.size (wr.heap.size + 1) E I w6 := by assumption
        have Hp6 := Lib.hid hp6'
        have hz := hT6
        obtain ⟨_, z0, z1⟩ := hz
        clear hT hg2 hp6 hp6' Hq d1 d2
        go_wp2_with fail
        go_region_held3 (fun w' => LpT w2 g l j K true d wr.heap.size (wr.heap.size + 1) E I w')
          (with_reducible (first | exact LpT.drew hT6 | exact LpT.grow (by assumption) hg2))
          ((go_at_call 31; refine (writeI_at _ (wr.heap.size + 1) 2 _ 4 65 _ _ _ (by exact Hp6.out) rfl (by omega) I (by omega) rfl).mono ?_; rintro e w7 ⟨rfl, hp7, hg2⟩))
        have hT7 : LpT w2 g l j K true d wr.heap.size (wr.heap.size + 1) E I w7 := by assumption
        have hX7 := hT7.1.1
        have hL7 := hX7.lt
        have Hp7 := Lib.hid hp7
        have Hd := Lib.hid hd.out
        have hm1 : IntKind.i64.wrap (6 * (j : Int)) = 6 * (j : Int) := IntWalk.i64_in _ (by omega)
        have hm2 : IntKind.i64.wrap (5 + 6 * (j : Int)) = 5 + 6 * (j : Int) := IntWalk.i64_in _ (by omega)
        have hs3 : ∀ W : World, (Instr.sliceAt 35 (.slice (some ⟨g, 0, none⟩) (5 + 6 * K) (5 + 6 * K)) (some (.int .i64 (5 + 6 * (j : Int)))) none none).run Tryz.prog W = .ok (.slice (some ⟨g, 5 + 6 * j, none⟩) (6 * (K - j)) (6 * (K - j))) W := fun W => by
          have := sl_l g 0 (5 + 6 * K) (5 + 6 * K) (5 + 6 * (j : Int)) (6 * (K - j)) (6 * (K - j)) (by omega) (by omega) (by omega) (by omega) (by omega) W
          rw [show 0 + (5 + 6 * (j : Int)).toNat = 5 + 6 * j by omega] at this
          exact this
        obtain ⟨w8, hcp, hb8, hbel8⟩ : ∃ w8, (Builtin.copy_ #[35, 35] 3 #[.slice (some ⟨g, 5 + 6 * j, none⟩) (6 * (K - j)) (6 * (K - j)), .slice (some ⟨wr.heap.size + 1, 0, none⟩) 6 6]).run Tryz.prog w7.drew = .ok (.int .i64 6) w8 ∧
            w8.heap[g]? = some (.cells (splice (u8s (encH l.length true d ++ (ents (l.take j) ++ List.replicate (6 * (K - j)) 0))) (5 + 6 * j) (u8s (ent (E, I)))).toArray 5 (0, 0)) ∧ Below g w2 w8 := by
          have hlen : (u8s (ent (E, I))).length = 6 := by simp [ent_len]
          have hcl : ∀ q v, (u8s (ent (E, I)))[q]? = some v → w7.drew.cell? ((⟨wr.heap.size + 1, 0, none⟩ : Addr).add q) = some v := by
            intro q v hq
            rw [add_lit]
            have h1 : w7.drew.heap[wr.heap.size + 1]? = some (.cells (u8s (ent (E, I))).toArray 65 (0, 0)) := by
              have := Hp7.out
              rw [PQR, List.append_nil] at this
              have h2 : w7.drew.heap[wr.heap.size + 1]? = some (.cells (u8s (be 4 E) ++ u8s (be 2 I)).toArray 65 (0, 0)) := this
              rw [h2]; simp [ent]
            rw [Lib.cell_of_heap h1]
            simpa using hq
          have hcurl : (u8s (encH l.length true d ++ (ents (l.take j) ++ List.replicate (6 * (K - j)) 0))).length = 5 + 6 * K := by
            simp [encH, be_len, ents_len]; omega
          have hr := run_copy_row (P := Tryz.prog) w7.drew 35 35 3 5 g (5 + 6 * j) (6 * (K - j)) (6 * (K - j)) ⟨wr.heap.size + 1, 0, none⟩ 6 6 _ 5 (u8s (ent (E, I))) Tryz.underlying35 (by kernel_rfl) (show w7.drew.heap[g]? = _ from hX7.blk) (by rw [hlen]; exact (Nat.min_eq_left (by omega)).symm) hcl (by rw [hlen]; simp only [List.size_toArray]; rw [hcurl]; omega) (by simp [Value.oneCell'])
          refine ⟨w7.drew.setRow g (splice (u8s (encH l.length true d ++ (ents (l.take j) ++ List.replicate (6 * (K - j)) 0))) (5 + 6 * j) (u8s (ent (E, I)))).toArray, ?_, setRow_heap_at (show w7.drew.heap[g]? = _ from hX7.blk), below_setRow hX7.bel.drew (Nat.le_refl _) _⟩
          rw [hr, hlen]
          simp only [splice, hlen, List.append_assoc]
          rfl
        have HX8 : EnL w2 g l (j + 1) K true d w8 := by
          refine ⟨hbel8, ?_⟩
          rw [hb8]
          congr 2
          rw [take_of_drop Hd.out, ents_app]
          have hrep : List.replicate (6 * (K - j)) (0 : Int) = List.replicate 6 0 ++ List.replicate (6 * (K - (j + 1))) 0 := by rw [← rep_add]; congr 1; omega
          rw [hrep]
          have hsp := splice_mid (u8s (encH l.length true d ++ ents (l.take j))) (u8s (List.replicate 6 0)) (u8s (List.replicate (6 * (K - (j + 1))) 0)) (u8s (ent (E, I))) (5 + 6 * j) (by simp [encH, be_len, ents_len]; omega) (by simp [ent_len])
          have e1 : u8s (encH l.length true d ++ (ents (l.take j) ++ (List.replicate 6 0 ++ List.replicate (6 * (K - (j + 1))) 0))) = u8s (encH l.length true d ++ ents (l.take j)) ++ (u8s (List.replicate 6 0) ++ u8s (List.replicate (6 * (K - (j + 1))) 0)) := by simp
          have e2 : u8s (encH l.length true d ++ ((ents (l.take j) ++ ents [(E, I)]) ++ List.replicate (6 * (K - (j + 1))) 0)) = u8s (encH l.length true d ++ ents (l.take j)) ++ (u8s (ent (E, I)) ++ u8s (List.replicate (6 * (K - (j + 1))) 0)) := by simp [ents]
          rw [e1, e2, hsp]
        have Hb8 := Lib.hid HX8
        clear hT6 hg2 Hp6 hp7 hT7 sa1 sa2 z0 z1 hd hb8 hbel8 HX8 Hp7 hX7
        go_wp2_with fail
        go_region
        go_wp2
        go_roundw
        case rel => exact ⟨j + 1, by omega, by go_num, Hb8.out⟩
        case measure => simp [intOf]; omega
      · obtain rfl : j = l.length := by omega
        have hb := hX.blk
        have hxx : encH l.length true d ++ (ents (l.take l.length) ++ List.replicate (6 * (K - l.length)) 0) = encL l true d K := by
          rw [List.take_length]; simp [encH, encL]
        rw [hxx] at hb
        have hB9 := HB2.out.trans (hX.bel.mono (Nat.le_of_lt hr0))
        have hle : l.length ≤ K := by omega
        go_wp2
        go_ret2
        refine ⟨some ⟨g, 0, none⟩, 5 + 6 * K, by rw [encL_len _ _ _ _ hle]; rfl, hB9, ?_, by rw [encL_len _ _ _ _ hle]; omega, by omega⟩
        exact reads_blkN (cs := u8s (encL l true d K)) hb (by simp)
  | false =>
    go_upto_region 8 with fail
    rw [show w3 = w4 by have := Hw4.out; simpa using this.symm]
    clear c0 c1 c2 k2 f2 Hw4
    obtain ⟨_, c0, c1, c2⟩ := HE4.out
    have hT4 := HE4.out
    go_region_held3 (fun w' => EnT w2 g w.heap.size l.length c A false d w')
      (with_reducible (first | exact EnT.drew hT4 | exact EnT.grow (by assumption) hg2))
      ((go_at_call 29; refine (write16_at _ g 2 _ 3 5 _ _ _ (by exact Hp4.out) rfl (by omega) d (by omega) rfl).mono ?_; rintro e w5 ⟨rfl, hp5, hg2⟩))
    have hE5 : EnT w2 g w.heap.size l.length c A false d w5 := by assumption
    clear hT4 hg2 Hp4 HE4 hs2 c0 c1 c2
    have hX5 : EnL w2 g l 0 K false d w5 := by
      refine ⟨hE5.1.1, ?_⟩
      rw [PQR] at hp5
      rw [hp5]
      simp [encH, ents]
    obtain ⟨hX0, c0, c1, c2⟩ := hE5
    have hr0 := hX0.2.2.out.1
    clear hp5 hX0
    have hlw : w.heap.size < w5.heap.size := Nat.lt_of_lt_of_le hr0 (Nat.le_of_lt hX5.lt)
    go_wp2_with fail
    go_loopw [45] (fun i wr => ∃ j : Nat, j ≤ l.length ∧ i = .int .i64 j ∧ EnL w2 g l j K false d wr) (fun i _ => l.length - (intOf i).toNat)
    case atStart => exact ⟨0, Nat.zero_le _, rfl, hX5⟩
    case round =>
      obtain ⟨j, hj, rfl, hX⟩ := hrel
      clear hX5 c0 c1 c2
      by_cases hjl : j < l.length
      · obtain ⟨b, off, E, I, rfl, hb, d1, d2, hd⟩ := htAt ((HR.out.below HB2.out).below' hX.bel (Nat.le_of_lt hr0)) hjl
        have ho := Hall.out _ (List.mem_of_mem_drop (by rw [hd.out]; exact List.mem_cons_self))
        obtain ⟨⟨e1, e2⟩, e3, e4⟩ := okH_iff.1 ho
        have hbw : b < wr.heap.size := by have := hX.lt; omega
        have hXa := (hX.al (.cells #[.int .i64 E, .int .i64 I] 34 (0, 0))).al (.cells #[.int .u8 0, .int .u8 0, .int .u8 0, .int .u8 0, .int .u8 0, .int .u8 0] 65 (0, 0))
        have hgw := hX.lt
        have hq : PQR ((wr.alloc (.cells #[.int .i64 E, .int .i64 I] 34 (0, 0))).alloc (.cells #[.int .u8 0, .int .u8 0, .int .u8 0, .int .u8 0, .int .u8 0, .int .u8 0] 65 (0, 0))) (wr.heap.size + 1) 65 [] (List.replicate 4 (Value.int .u8 0)) (List.replicate 2 (Value.int .u8 0)) := alloc2_new _ _ _
        have hT : LpT w2 g l j K false d wr.heap.size (wr.heap.size + 1) E I ((wr.alloc (.cells #[.int .i64 E, .int .i64 I] 34 (0, 0))).alloc (.cells #[.int .u8 0, .int .u8 0, .int .u8 0, .int .u8 0, .int .u8 0, .int .u8 0] 65 (0, 0))) :=
          ⟨⟨hXa, hgw, by omega, by simp; omega⟩, Lib.cell_of_heap (alloc_blk (alloc1_new wr _)) 0, Lib.cell_of_heap (alloc_blk (alloc1_new wr _)) 1⟩
        have Hq := Lib.hid hq
        have hcE : IntKind.u32.wrap E = E := by simp [IntKind.wrap, IntKind.bits, IntKind.signed]; omega
        have sa1 := sa_h (wr.heap.size + 1)
        have sa2 := sa_l (wr.heap.size + 1)
        have sa3 := sa_all (wr.heap.size + 1)
        clear ho hX hXa hq
        go_wp2_with fail
        go_region_held3 (fun w' => LpT w2 g l j K false d wr.heap.size (wr.heap.size + 1) E I w')
          (with_reducible (first | exact LpT.drew hT | exact LpT.grow (by assumption) hg2))
          ((go_at_call 30; refine (write32_at _ (wr.heap.size + 1) 4 _ 0 65 [] _ _ (by exact Hq.out) rfl (by omega) E (by omega) rfl).mono ?_; rintro e w6 ⟨rfl, hp6, hg2⟩))
        have hp6' : PQR w6 (wr.heap.size + 1) 65 (u8s (be 4 E)) (List.replicate 2 (Value.int .u8 0)) [] := by
          rw [PQR] at hp6 ⊢; rw [hp6]; simp
        have hT6 : LpT w2 g l j K false d wr.heap.size (wr.heap.size + 1) E I w6 := by assumption
        have Hp6 := Lib.hid hp6'
        have hz := hT6
        obtain ⟨_, z0, z1⟩ := hz
        clear hT hg2 hp6 hp6' Hq d1 d2
        go_wp2_with fail
        go_region_held3 (fun w' => LpT w2 g l j K false d wr.heap.size (wr.heap.size + 1) E I w')
          (with_reducible (first | exact LpT.drew hT6 | exact LpT.grow (by assumption) hg2))
          ((go_at_call 31; refine (writeI_at _ (wr.heap.size + 1) 2 _ 4 65 _ _ _ (by exact Hp6.out) rfl (by omega) I (by omega) rfl).mono ?_; rintro e w7 ⟨rfl, hp7, hg2⟩))
        have hT7 : LpT w2 g l j K false d wr.heap.size (wr.heap.size + 1) E I w7 := by assumption
        have hX7 := hT7.1.1
        have hL7 := hX7.lt
        have Hp7 := Lib.hid hp7
        have Hd := Lib.hid hd.out
        have hm1 : IntKind.i64.wrap (6 * (j : Int)) = 6 * (j : Int) := IntWalk.i64_in _ (by omega)
        have hm2 : IntKind.i64.wrap (5 + 6 * (j : Int)) = 5 + 6 * (j : Int) := IntWalk.i64_in _ (by omega)
        have hs3 : ∀ W : World, (Instr.sliceAt 35 (.slice (some ⟨g, 0, none⟩) (5 + 6 * K) (5 + 6 * K)) (some (.int .i64 (5 + 6 * (j : Int)))) none none).run Tryz.prog W = .ok (.slice (some ⟨g, 5 + 6 * j, none⟩) (6 * (K - j)) (6 * (K - j))) W := fun W => by
          have := sl_l g 0 (5 + 6 * K) (5 + 6 * K) (5 + 6 * (j : Int)) (6 * (K - j)) (6 * (K - j)) (by omega) (by omega) (by omega) (by omega) (by omega) W
          rw [show 0 + (5 + 6 * (j : Int)).toNat = 5 + 6 * j by omega] at this
          exact this
        obtain ⟨w8, hcp, hb8, hbel8⟩ : ∃ w8, (Builtin.copy_ #[35, 35] 3 #[.slice (some ⟨g, 5 + 6 * j, none⟩) (6 * (K - j)) (6 * (K - j)), .slice (some ⟨wr.heap.size + 1, 0, none⟩) 6 6]).run Tryz.prog w7.drew = .ok (.int .i64 6) w8 ∧
            w8.heap[g]? = some (.cells (splice (u8s (encH l.length false d ++ (ents (l.take j) ++ List.replicate (6 * (K - j)) 0))) (5 + 6 * j) (u8s (ent (E, I)))).toArray 5 (0, 0)) ∧ Below g w2 w8 := by
          have hlen : (u8s (ent (E, I))).length = 6 := by simp [ent_len]
          have hcl : ∀ q v, (u8s (ent (E, I)))[q]? = some v → w7.drew.cell? ((⟨wr.heap.size + 1, 0, none⟩ : Addr).add q) = some v := by
            intro q v hq
            rw [add_lit]
            have h1 : w7.drew.heap[wr.heap.size + 1]? = some (.cells (u8s (ent (E, I))).toArray 65 (0, 0)) := by
              have := Hp7.out
              rw [PQR, List.append_nil] at this
              have h2 : w7.drew.heap[wr.heap.size + 1]? = some (.cells (u8s (be 4 E) ++ u8s (be 2 I)).toArray 65 (0, 0)) := this
              rw [h2]; simp [ent]
            rw [Lib.cell_of_heap h1]
            simpa using hq
          have hcurl : (u8s (encH l.length false d ++ (ents (l.take j) ++ List.replicate (6 * (K - j)) 0))).length = 5 + 6 * K := by
            simp [encH, be_len, ents_len]; omega
          have hr := run_copy_row (P := Tryz.prog) w7.drew 35 35 3 5 g (5 + 6 * j) (6 * (K - j)) (6 * (K - j)) ⟨wr.heap.size + 1, 0, none⟩ 6 6 _ 5 (u8s (ent (E, I))) Tryz.underlying35 (by kernel_rfl) (show w7.drew.heap[g]? = _ from hX7.blk) (by rw [hlen]; exact (Nat.min_eq_left (by omega)).symm) hcl (by rw [hlen]; simp only [List.size_toArray]; rw [hcurl]; omega) (by simp [Value.oneCell'])
          refine ⟨w7.drew.setRow g (splice (u8s (encH l.length false d ++ (ents (l.take j) ++ List.replicate (6 * (K - j)) 0))) (5 + 6 * j) (u8s (ent (E, I)))).toArray, ?_, setRow_heap_at (show w7.drew.heap[g]? = _ from hX7.blk), below_setRow hX7.bel.drew (Nat.le_refl _) _⟩
          rw [hr, hlen]
          simp only [splice, hlen, List.append_assoc]
          rfl
        have HX8 : EnL w2 g l (j + 1) K false d w8 := by
          refine ⟨hbel8, ?_⟩
          rw [hb8]
          congr 2
          rw [take_of_drop Hd.out, ents_app]
          have hrep : List.replicate (6 * (K - j)) (0 : Int) = List.replicate 6 0 ++ List.replicate (6 * (K - (j + 1))) 0 := by rw [← rep_add]; congr 1; omega
          rw [hrep]
          have hsp := splice_mid (u8s (encH l.length false d ++ ents (l.take j))) (u8s (List.replicate 6 0)) (u8s (List.replicate (6 * (K - (j + 1))) 0)) (u8s (ent (E, I))) (5 + 6 * j) (by simp [encH, be_len, ents_len]; omega) (by simp [ent_len])
          have e1 : u8s (encH l.length false d ++ (ents (l.take j) ++ (List.replicate 6 0 ++ List.replicate (6 * (K - (j + 1))) 0))) = u8s (encH l.length false d ++ ents (l.take j)) ++ (u8s (List.replicate 6 0) ++ u8s (List.replicate (6 * (K - (j + 1))) 0)) := by simp
          have e2 : u8s (encH l.length false d ++ ((ents (l.take j) ++ ents [(E, I)]) ++ List.replicate (6 * (K - (j + 1))) 0)) = u8s (encH l.length false d ++ ents (l.take j)) ++ (u8s (ent (E, I)) ++ u8s (List.replicate (6 * (K - (j + 1))) 0)) := by simp [ents]
          rw [e1, e2, hsp]
        have Hb8 := Lib.hid HX8
        clear hT6 hg2 Hp6 hp7 hT7 sa1 sa2 z0 z1 hd hb8 hbel8 HX8 Hp7 hX7
        go_wp2_with fail
        go_region
        go_wp2
        go_roundw
        case rel => exact ⟨j + 1, by omega, by go_num, Hb8.out⟩
        case measure => simp [intOf]; omega
      · obtain rfl : j = l.length := by omega
        have hb := hX.blk
        have hxx : encH l.length false d ++ (ents (l.take l.length) ++ List.replicate (6 * (K - l.length)) 0) = encL l false d K := by
          rw [List.take_length]; simp [encH, encL]
        rw [hxx] at hb
        have hB9 := HB2.out.trans (hX.bel.mono (Nat.le_of_lt hr0))
        have hle : l.length ≤ K := by omega
        go_wp2
        go_ret2
        refine ⟨some ⟨g, 0, none⟩, 5 + 6 * K, by rw [encL_len _ _ _ _ hle]; rfl, hB9, ?_, by rw [encL_len _ _ _ _ hle]; omega, by omega⟩
        exact reads_blkN (cs := u8s (encL l false d K)) hb (by simp)
theorem encode_any (w : World) (A : Option Addr) (c : Nat) (l : List Hit) (h : Reads w w.heap.size 2 A l.length (hits l)) (hl : l.length ≤ 9223372036854775807) (o : Bool) (d k : Int) :
    Calls Tryz.prog 10 #[repV A l.length c o d, .int .i64 k] w (RetSl w 1 (u8s (encR l o d k)) (encR l o d k).length (encE l o d k)) := by
  by_cases he : encE l o d k = 0
  · exact encode_yes w A c l h hl o d k he
  · exact encode_no w A c l h hl o d k he
end Go.Proofs.YtaainkjgnljihaaGreatDoor
