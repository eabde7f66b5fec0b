/- Rows of bits: Shift and Back of the reference. -/
import Derived.Test.YtibnegheabhbdaaDoorB3
namespace Go.Proofs.YtibnegheabhbdaaDoor
open Go.RowKit
theorem zeros_made (z : Value) (n : Nat) : madeCells #[z] n = (List.replicate n z).toArray := by
  apply Array.ext
  · simp [madeCells]
  · intro i h1 h2
    simp [madeCells, Nat.mod_one]
def shL (l : List Nat) (v : Bool) : List Nat := if chkB l.length = 0 then rowOf l.length (fun i => if i = 0 then v else rbit l (i - 1)) else []
def shO (l : List Nat) : Bool := if chkB l.length = 0 then rbit l (64 * l.length - 1) else false
def bkL (l : List Nat) (v : Bool) : List Nat := if chkB l.length = 0 then rowOf l.length (fun i => if i = 64 * l.length - 1 then v else rbit l (i + 1)) else []
def bkO (l : List Nat) : Bool := if chkB l.length = 0 then rbit l 0 else false
/-- what comes back: a row, a bit, an error -/
def RetSh (w : World) (l : List Nat) (b : Bool) (er : Int) (e : Ending) (w' : World) : Prop :=
  ∃ A c, e = .returned (.tuple #[.slice A l.length c, .bool b, .int .i64 er]) ∧ Below w.heap.size w w' ∧ Reads w' w'.heap.size 1 A l.length (u64s l) ∧ l.length ≤ c ∧ c ≤ 9223372036854775807
theorem RetSh.no {w w' : World} {l : List Nat} {b : Bool} {er : Int} (hb : Below w.heap.size w w') (hl : l = []) (hbb : b = false) : RetSh w l b er (.returned (.tuple #[.slice none 0 0, .bool false, .int .i64 er])) w' := by
  subst hl hbb
  exact ⟨none, 0, rfl, hb, Reads.none_, Nat.le_refl _, by omega⟩
theorem zeros_w (n : Nat) : W64 (List.replicate n 0) := fun x hx => by rw [(List.mem_replicate.1 hx).2]; omega
theorem zeros_bit (n i : Nat) : rbit (List.replicate n 0) i = false := by
  unfold rbit
  have : (List.replicate n 0).getD (i / 64) 0 = 0 := by
    rw [List.getD_eq_getElem?_getD, List.getElem?_replicate]
    split <;> rfl
  rw [this, Nat.zero_testBit]
/-- a row whose first bits are set -/
structure Upto (n i : Nat) (f : Nat → Bool) (m : List Nat) : Prop where
  len : m.length = n
  w : W64 m
  bit : ∀ j, j < 64 * n → rbit m j = if j < i then f j else false
theorem Upto.start (n : Nat) (f : Nat → Bool) : Upto n 0 f (List.replicate n 0) := ⟨by simp, zeros_w n, fun j _ => by rw [zeros_bit, if_neg (by omega)]⟩
theorem Upto.step {n i : Nat} {f : Nat → Bool} {m : List Nat} (h : Upto n i f m) (hi : i < 64 * n) : Upto n (i + 1) f (setB m i (f i)) := by
  refine ⟨by rw [setB_len, h.len], setB_w h.w i _ (by rw [h.len]; exact hi), fun j hj => ?_⟩
  rw [setB_bit (by rw [h.len]; exact hi), h.bit j hj]
  by_cases e : j = i
  · rw [if_pos e, if_pos (by omega), e]
  · rw [if_neg e]
    by_cases e2 : j < i
    · rw [if_pos e2, if_pos (by omega)]
    · rw [if_neg e2, if_neg (by omega)]
theorem Upto.done {n : Nat} {f : Nat → Bool} {m : List Nat} (h : Upto n (64 * n) f m) : m = rowOf n f :=
  row_eq h.w h.len fun i hi => by rw [h.bit i hi, if_pos hi]
theorem mk64 (n : Nat) (hn : n ≤ 100) (W : World) : (Instr.makeSlice 22 (.int .i64 (n : Int)) (.int .i64 (n : Int))).run Tryd.prog W = .ok (.slice (some ⟨W.heap.size, 0, none⟩) n n) (W.alloc (.cells (madeCells #[.int .u64 0] n) 55)) :=
  run_mk1 u64El rfl .i64 .i64 n n (Nat.le_refl _) (by omega) (by omega) W
theorem zeros_rd (w : World) (n : Nat) : Reads (w.alloc (.cells (madeCells #[.int .u64 0] n) 55)) (w.alloc (.cells (madeCells #[.int .u64 0] n) 55)).heap.size 1 (some ⟨w.heap.size, 0, none⟩) n (u64s (List.replicate n 0)) := by
  refine reads_blkN (t := 55) ?_ (by simp)
  rw [zeros_made, show u64s (List.replicate n 0) = List.replicate n (.int .u64 0) by simp [u64s, u64V]]
  exact alloc1_new _ _
/-- the row of a loop -/
structure RowAt (w : World) (n j : Nat) (f : Nat → Bool) (m : List Nat) (A : Option Addr) (c : Nat) (w' : World) : Prop where
  bel : Below w.heap.size w w'
  rd : Reads w' w'.heap.size 1 A n (u64s m)
  cap : n ≤ c ∧ c ≤ 9223372036854775807
  up : Upto n j f m
/-- a row that comes back from with -/
theorem RowAt.of {w w1 w2 : World} {n j : Nat} {f : Nat → Bool} {m : List Nat} {A A' : Option Addr} {c c' : Nat} (h : RowAt w n j f m A c w1) (hj : j < 64 * n) (ho : w2.ownsRow w1.heap.size 55 1 (.slice A' (setB m j (f j)).length c') (setB m j (f j)).length (u64s (setB m j (f j)))) (hb : Below w1.heap.size w1 w2) :
    RowAt w n (j + 1) f (setB m j (f j)) A' c' w2 := by
  have hU := h.up.step hj
  obtain ⟨_, _, he, hr1, hc1, hm1⟩ := own_sl ho
  injection he with e1 e2 e3
  subst e1 e3
  rw [hU.len] at hr1 hc1
  exact ⟨bt h.bel hb, hr1, ⟨hc1, hm1⟩, hU⟩
set_option maxRecDepth 100000 in
set_option maxHeartbeats 2000000 in
theorem rshift_ (w : World) (A : Option Addr) (c : Nat) (l : List Nat) (h : Reads w w.heap.size 1 A l.length (u64s l)) (hw : W64 l) (hl : l.length ≤ 9223372036854775807) (v : Bool) :
    Calls Tryd.prog 14 #[.slice A l.length c, .bool v] w (RetSh w (shL l v) (shO l) (chkB l.length)) := by
  obtain ⟨x, hx⟩ : ∃ x, x = chkB l.length := ⟨_, rfl⟩
  have Hx := Lib.hid hx
  rw [← hx]
  by_cases h0 : x = 0
  · subst h0
    obtain ⟨h1, h8⟩ := chkB_ok.1 hx.symm
    have HL := Lib.hid (show shL l v = rowOf l.length (fun i => if i = 0 then v else rbit l (i - 1)) from if_pos hx.symm)
    have HO := Lib.hid (show shO l = rbit l (64 * l.length - 1) from if_pos hx.symm)
    have hg := Lib.hid (fun w1 (hb : Below w.heap.size w w1) i hi => get_ w1 A c l (h.go hb) (by omega) hw i hi)
    have hmk := mk64 l.length (by omega)
    have hU0 := (Upto.start l.length (fun i => if i = 0 then v else rbit l (i - 1))).step (by omega)
    rw [if_pos rfl] at hU0
    have hwi := with_ (w.alloc (.cells (madeCells #[.int .u64 0] l.length) 55)) (some ⟨w.heap.size, 0, none⟩) l.length (List.replicate l.length 0) (by rw [List.length_replicate]; exact zeros_rd w _) (by rw [List.length_replicate]; omega) (zeros_w _) 0 (by rw [List.length_replicate]; omega) v
    rw [List.length_replicate] at hwi
    have Hwi : Hid (Calls Tryd.prog 43 #[.slice (some ⟨w.heap.size, 0, none⟩) l.length l.length, .int .i64 0, .bool v] (w.alloc (.cells (madeCells #[.int .u64 0] l.length) 55)) (RetRow (w.alloc (.cells (madeCells #[.int .u64 0] l.length) 55)) (setB (List.replicate l.length 0) 0 v))) := Lib.hid hwi
    have hn : IntKind.i64.wrap (64 * (l.length : Int)) = 64 * (l.length : Int) := IntWalk.i64_in _ (by omega)
    clear hx h hw hwi
    go_enter Tryd.func14, Tryd.ntmps14
    go_wp2_with fail
    (with_reducible refine (rcheck_ _ A c l.length hl 0 Hx).mono ?_); rintro e w' ⟨rfl, rfl⟩
    go_wp2_with fail
    (with_reducible refine (Hwi.out).mono ?_); rintro e w1 ⟨A1, c1, rfl, ho1, hb1⟩
    have hB1 := bt (ba (Below.refl w.heap.size w) _) hb1
    obtain ⟨_, _, he, hr1, hc1, hm1⟩ := own_sl ho1
    injection he with e1 e2 e3
    clear e2
    subst e1 e3
    have hlen := hU0.len
    rw [hlen] at hr1 hc1 ⊢
    have hR0 : RowAt w l.length 1 (fun i => if i = 0 then v else rbit l (i - 1)) _ A1 c1 w1 := ⟨hB1, hr1, ⟨hc1, hm1⟩, hU0⟩
    obtain ⟨f, hf⟩ : ∃ f : Nat → Bool, f = (fun i => if i = 0 then v else rbit l (i - 1)) := ⟨_, rfl⟩
    rw [← hf] at hR0
    have Hf := Lib.hid hf
    clear hb1 ho1 hmk Hwi hr1 hc1 hm1 hU0 hB1 hlen hf
    go_wp2_with fail
    go_loopw [9, 10] (fun vv i wr => ∃ (q : Nat) (m : List Nat) (A' : Option Addr) (c' : Nat), q < 64 * l.length ∧ i = .int .i64 ((q : Int) + 1) ∧ vv = .slice A' l.length c' ∧ RowAt w l.length (q + 1) f m A' c' wr) (fun _ i _ => 64 * l.length - (intOf i).toNat)
    case atStart => exact ⟨0, _, A1, c1, by omega, rfl, rfl, hR0⟩
    case round =>
      obtain ⟨q, m, A', c', hq, rfl, rfl, hR⟩ := hrel
      clear hR0
      by_cases hql : q + 1 < 64 * l.length
      · have hfq : f (q + 1) = rbit l q := by rw [Hf.out]; simp
        have hgq := hg.out wr hR.bel q (by omega)
        have hwq := with_ wr A' c' m (by rw [hR.up.len]; exact hR.rd) (by rw [hR.up.len]; omega) hR.up.w (q + 1) (by rw [hR.up.len]; exact hql) (f (q + 1))
        rw [hR.up.len] at hwq
        rw [← hfq] at hgq
        have Hgq := Lib.hid hgq
        have Hwq : Hid (Calls Tryd.prog 43 #[.slice A' l.length c', .int .i64 ((q : Int) + 1), .bool (f (q + 1))] wr (RetRow wr (setB m (q + 1) (f (q + 1))))) := Lib.hid hwq
        have hqn : (q : Int) + 1 - 1 = q := by omega
        have hlen2 : (setB m (q + 1) (f (q + 1))).length = l.length := by rw [setB_len, hR.up.len]
        have HR := Lib.hid hR
        have Hl2 := Lib.hid hlen2
        clear hfq hgq hwq hR hlen2
        go_wp2_with fail
        (with_reducible refine (Hgq.out).mono ?_); rintro e w2 ⟨rfl, rfl⟩
        go_wp2_with fail
        (with_reducible refine (Hwq.out).mono ?_); rintro e w2 ⟨A2, c2, rfl, ho2, hb2⟩
        have hR2 := HR.out.of hql ho2 hb2
        rw [Hl2.out]
        clear ho2 hb2 HR Hgq Hwq hqn
        go_wp2
        go_roundw
        case rel => exact ⟨q + 1, _, A2, c2, by omega, by go_num, rfl, hR2⟩
        case measure => simp [intOf]; omega
      · have hqe : q + 1 = 64 * l.length := by omega
        have hD := (show RowAt w l.length (64 * l.length) f m A' c' wr by rw [← hqe]; exact hR).up.done
        have hgl := hg.out wr hR.bel (64 * l.length - 1) (by omega)
        rw [show ((64 * l.length - 1 : Nat) : Int) = 64 * (l.length : Int) - 1 by omega] at hgl
        have Hgl := Lib.hid hgl
        have HR := Lib.hid hR
        have HD := Lib.hid hD
        have Hm := Lib.hid hR.up.len
        clear hgl hD hR hqe
        go_wp2_with fail
        (with_reducible refine (Hgl.out).mono ?_); rintro e w2 ⟨rfl, rfl⟩
        go_wp2
        go_ret3
        rw [HL.out, HO.out, ← Hf.out, ← HD.out]
        exact ⟨A', c', by rw [Hm.out]; rfl, HR.out.bel, by rw [Hm.out]; exact HR.out.rd, by rw [Hm.out]; exact HR.out.cap.1, HR.out.cap.2⟩
  · have HL := Lib.hid (show shL l v = [] from if_neg (by rw [← hx]; exact h0))
    have HO := Lib.hid (show shO l = false from if_neg (by rw [← hx]; exact h0))
    have e1 : (x != 0) = true := by simpa using h0
    clear hx h0 h
    go_enter Tryd.func14, Tryd.ntmps14
    go_wp2_with fail
    (with_reducible refine (rcheck_ _ A c l.length hl x Hx).mono ?_); rintro e w' ⟨rfl, rfl⟩
    go_wp2
    go_ret3
    exact RetSh.no (Below.refl _ _) HL.out HO.out
/-- a row whose last bit and whose first bits are set -/
structure UptoB (n i : Nat) (f : Nat → Bool) (m : List Nat) : Prop where
  len : m.length = n
  w : W64 m
  bit : ∀ j, j < 64 * n → rbit m j = if j < i ∨ j = 64 * n - 1 then f j else false
theorem UptoB.start (n : Nat) (f : Nat → Bool) (hn : 1 ≤ n) : UptoB n 0 f (setB (List.replicate n 0) (64 * n - 1) (f (64 * n - 1))) := by
  refine ⟨by rw [setB_len]; simp, setB_w (zeros_w n) _ _ (by simp; omega), fun j hj => ?_⟩
  rw [setB_bit (by simp; omega), zeros_bit]
  by_cases e : j = 64 * n - 1
  · rw [if_pos e, if_pos (.inr e), e]
  · rw [if_neg e, if_neg (by omega)]
theorem UptoB.step {n i : Nat} {f : Nat → Bool} {m : List Nat} (h : UptoB n i f m) (hi : i < 64 * n) : UptoB n (i + 1) f (setB m i (f i)) := by
  refine ⟨by rw [setB_len, h.len], setB_w h.w i _ (by rw [h.len]; exact hi), fun j hj => ?_⟩
  rw [setB_bit (by rw [h.len]; exact hi), h.bit j hj]
  by_cases e : j = i
  · rw [if_pos e, if_pos (.inl (by omega)), e]
  · rw [if_neg e]
    by_cases e2 : j < i ∨ j = 64 * n - 1
    · rw [if_pos e2, if_pos (by omega)]
    · rw [if_neg e2, if_neg (by omega)]
theorem UptoB.done {n : Nat} {f : Nat → Bool} {m : List Nat} (h : UptoB n (64 * n - 1) f m) : m = rowOf n f :=
  row_eq h.w h.len fun i hi => by rw [h.bit i hi, if_pos (by omega)]
structure RowAtB (w : World) (n j : Nat) (f : Nat → Bool) (m : List Nat) (A : Option Addr) (c : Nat) (w' : World) : Prop where
  bel : Below w.heap.size w w'
  rd : Reads w' w'.heap.size 1 A n (u64s m)
  cap : n ≤ c ∧ c ≤ 9223372036854775807
  up : UptoB n j f m
theorem RowAtB.of {w w1 w2 : World} {n j : Nat} {f : Nat → Bool} {m : List Nat} {A A' : Option Addr} {c c' : Nat} (h : RowAtB w n j f m A c w1) (hj : j < 64 * n) (ho : w2.ownsRow w1.heap.size 55 1 (.slice A' (setB m j (f j)).length c') (setB m j (f j)).length (u64s (setB m j (f j)))) (hb : Below w1.heap.size w1 w2) :
    RowAtB w n (j + 1) f (setB m j (f j)) A' c' w2 := by
  have hU := h.up.step hj
  obtain ⟨_, _, he, hr1, hc1, hm1⟩ := own_sl ho
  injection he with e1 e2 e3
  subst e1 e3
  rw [hU.len] at hr1 hc1
  exact ⟨bt h.bel hb, hr1, ⟨hc1, hm1⟩, hU⟩
set_option maxRecDepth 100000 in
set_option maxHeartbeats 2000000 in
theorem rback_ (w : World) (A : Option Addr) (c : Nat) (l : List Nat) (h : Reads w w.heap.size 1 A l.length (u64s l)) (hw : W64 l) (hl : l.length ≤ 9223372036854775807) (v : Bool) :
    Calls Tryd.prog 16 #[.slice A l.length c, .bool v] w (RetSh w (bkL l v) (bkO l) (chkB l.length)) := by
  obtain ⟨x, hx⟩ : ∃ x, x = chkB l.length := ⟨_, rfl⟩
  have Hx := Lib.hid hx
  rw [← hx]
  by_cases h0 : x = 0
  · subst h0
    obtain ⟨h1, h8⟩ := chkB_ok.1 hx.symm
    have HL := Lib.hid (show bkL l v = rowOf l.length (fun i => if i = 64 * l.length - 1 then v else rbit l (i + 1)) from if_pos hx.symm)
    have HO := Lib.hid (show bkO l = rbit l 0 from if_pos hx.symm)
    have hg := Lib.hid (fun w1 (hb : Below w.heap.size w w1) i hi => get_ w1 A c l (h.go hb) (by omega) hw i hi)
    have hmk := mk64 l.length (by omega)
    have hU0 := UptoB.start l.length (fun i => if i = 64 * l.length - 1 then v else rbit l (i + 1)) h1
    rw [if_pos rfl] at hU0
    have hwi := with_ (w.alloc (.cells (madeCells #[.int .u64 0] l.length) 55)) (some ⟨w.heap.size, 0, none⟩) l.length (List.replicate l.length 0) (by rw [List.length_replicate]; exact zeros_rd w _) (by rw [List.length_replicate]; omega) (zeros_w _) (64 * l.length - 1) (by rw [List.length_replicate]; omega) v
    rw [List.length_replicate, show ((64 * l.length - 1 : Nat) : Int) = 64 * (l.length : Int) - 1 by omega] at hwi
    have Hwi := Lib.hid hwi
    have hn : IntKind.i64.wrap (64 * (l.length : Int)) = 64 * (l.length : Int) := IntWalk.i64_in _ (by omega)
    clear hx h hw hwi
    go_enter Tryd.func16, Tryd.ntmps16
    go_wp2_with fail
    (with_reducible refine (rcheck_ _ A c l.length hl 0 Hx).mono ?_); rintro e w' ⟨rfl, rfl⟩
    go_wp2_with fail
    (with_reducible refine (Hwi.out).mono ?_); rintro e w1 ⟨A1, c1, rfl, ho1, hb1⟩
    have hB1 := bt (ba (Below.refl w.heap.size w) _) hb1
    obtain ⟨_, _, he, hr1, hc1, hm1⟩ := own_sl ho1
    injection he with e1 e2 e3
    clear e2
    subst e1 e3
    have hlen := hU0.len
    rw [hlen] at hr1 hc1 ⊢
    have hR0 : RowAtB w l.length 0 (fun i => if i = 64 * l.length - 1 then v else rbit l (i + 1)) _ A1 c1 w1 := ⟨hB1, hr1, ⟨hc1, hm1⟩, hU0⟩
    obtain ⟨f, hf⟩ : ∃ f : Nat → Bool, f = (fun i => if i = 64 * l.length - 1 then v else rbit l (i + 1)) := ⟨_, rfl⟩
    rw [← hf] at hR0
    have Hf := Lib.hid hf
    clear hb1 ho1 hmk Hwi hr1 hc1 hm1 hU0 hB1 hlen hf
    go_wp2_with fail
    go_loopw [9, 10] (fun vv i wr => ∃ (q : Nat) (m : List Nat) (A' : Option Addr) (c' : Nat), q + 1 ≤ 64 * l.length ∧ i = .int .i64 q ∧ vv = .slice A' l.length c' ∧ RowAtB w l.length q f m A' c' wr) (fun _ i _ => 64 * l.length - (intOf i).toNat)
    case atStart => exact ⟨0, _, A1, c1, by omega, rfl, rfl, hR0⟩
    case round =>
      obtain ⟨q, m, A', c', hq, rfl, rfl, hR⟩ := hrel
      clear hR0
      by_cases hql : q + 1 < 64 * l.length
      · have hfq : f q = rbit l (q + 1) := by rw [Hf.out]; simp; omega
        have hgq := hg.out wr hR.bel (q + 1) (by omega)
        have hwq := with_ wr A' c' m (by rw [hR.up.len]; exact hR.rd) (by rw [hR.up.len]; omega) hR.up.w q (by rw [hR.up.len]; omega) (f q)
        rw [hR.up.len] at hwq
        rw [← hfq] at hgq
        have Hgq : Hid (Calls Tryd.prog 44 #[.slice A l.length c, .int .i64 ((q : Int) + 1)] wr fun e w' => e = .returned (.bool (f q)) ∧ wr = w') := Lib.hid hgq
        have Hwq := Lib.hid hwq
        have hlen2 : (setB m q (f q)).length = l.length := by rw [setB_len, hR.up.len]
        have HR := Lib.hid hR
        have Hl2 := Lib.hid hlen2
        clear hfq hgq hwq hR hlen2
        go_wp2_with fail
        (with_reducible refine (Hgq.out).mono ?_); rintro e w2 ⟨rfl, rfl⟩
        go_wp2_with fail
        (with_reducible refine (Hwq.out).mono ?_); rintro e w2 ⟨A2, c2, rfl, ho2, hb2⟩
        have hR2 := HR.out.of (by omega) ho2 hb2
        rw [Hl2.out]
        clear ho2 hb2 HR Hgq Hwq
        go_wp2
        go_roundw
        case rel => exact ⟨q + 1, _, A2, c2, by omega, by go_num, rfl, hR2⟩
        case measure => simp [intOf]; omega
      · have hqe : q = 64 * l.length - 1 := by omega
        have hD := (show RowAtB w l.length (64 * l.length - 1) f m A' c' wr by rw [← hqe]; exact hR).up.done
        have hgl := hg.out wr hR.bel 0 (by omega)
        have Hgl : Hid (Calls Tryd.prog 44 #[.slice A l.length c, .int .i64 0] wr fun e w' => e = .returned (.bool (rbit l 0)) ∧ wr = w') := Lib.hid hgl
        have HR := Lib.hid hR
        have HD := Lib.hid hD
        have Hm := Lib.hid hR.up.len
        clear hgl hD hR hqe
        go_wp2_with fail
        (with_reducible refine (Hgl.out).mono ?_); rintro e w2 ⟨rfl, rfl⟩
        go_wp2
        go_ret3
        rw [HL.out, HO.out, ← Hf.out, ← HD.out]
        exact ⟨A', c', by rw [Hm.out]; rfl, HR.out.bel, by rw [Hm.out]; exact HR.out.rd, by rw [Hm.out]; exact HR.out.cap.1, HR.out.cap.2⟩
  · have HL := Lib.hid (show bkL l v = [] from if_neg (by rw [← hx]; exact h0))
    have HO := Lib.hid (show bkO l = false from if_neg (by rw [← hx]; exact h0))
    have e1 : (x != 0) = true := by simpa using h0
    clear hx h0 h
    go_enter Tryd.func16, Tryd.ntmps16
    go_wp2_with fail
    (with_reducible refine (rcheck_ _ A c l.length hl x Hx).mono ?_); rintro e w' ⟨rfl, rfl⟩
    go_wp2
    go_ret3
    exact RetSh.no (Below.refl _ _) HL.out HO.out
end Go.Proofs.YtibnegheabhbdaaDoor
