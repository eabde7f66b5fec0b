/- Reports: what Decode answers, in plain words; numbers read from a part of some bytes. -/
import Derived.Test.YtokcbdaoofjbgaaDoorR14
namespace Go.Proofs.YtokcbdaoofjbgaaDoor
open Go.RowKit
/-- the number of n bytes from lo on -/
def rdNum (B : List Int) (lo n : Nat) : Int := numV ((B.drop lo).take n)
theorem numF_bd : ∀ (l : List Int) (n b : Int), Bytes l → 0 ≤ n → n < b → 0 ≤ numF n l ∧ numF n l < b * 256 ^ l.length
  | [], n, b, _, h0, h1 => by simp [numF]; exact ⟨h0, h1⟩
  | x :: r, n, b, hx, h0, h1 => by
    obtain ⟨x0, x1⟩ := hx x List.mem_cons_self
    have := numF_bd r (256 * n + x) (b * 256) (fun y hy => hx y (List.mem_cons_of_mem _ hy)) (by omega) (by omega)
    rw [numF, List.length_cons, Int.pow_succ]
    refine ⟨this.1, ?_⟩
    have h2 := this.2
    rw [Int.mul_assoc] at h2
    rw [Int.mul_comm (256 ^ r.length) 256]
    exact h2
theorem Bytes.part {B : List Int} (h : Bytes B) (lo n : Nat) : Bytes ((B.drop lo).take n) := fun x hx => h x (List.mem_of_mem_drop (List.mem_of_mem_take hx))
theorem rdNum_bd {B : List Int} (h : Bytes B) (lo n : Nat) (hn : lo + n ≤ B.length) : 0 ≤ rdNum B lo n ∧ rdNum B lo n < 256 ^ n := by
  have := numF_bd _ 0 1 (h.part lo n) (by omega) (by omega)
  have hl : ((B.drop lo).take n).length = n := by simp; omega
  rw [hl, Int.one_mul] at this
  exact this
theorem rd2 {B : List Int} (h : Bytes B) (lo : Nat) (hn : lo + 2 ≤ B.length) : 0 ≤ rdNum B lo 2 ∧ rdNum B lo 2 ≤ 65535 := by
  have := rdNum_bd h lo 2 hn
  rw [show (256 : Int) ^ 2 = 65536 by decide] at this
  omega
theorem rd4 {B : List Int} (h : Bytes B) (lo : Nat) (hn : lo + 4 ≤ B.length) : 0 ≤ rdNum B lo 4 ∧ rdNum B lo 4 ≤ 4294967295 := by
  have := rdNum_bd h lo 4 hn
  rw [show (256 : Int) ^ 4 = 4294967296 by decide] at this
  omega
theorem rd_mid {w : World} {Bk g off : Nat} {l : List Int} (h : Reads w Bk 1 (some ⟨g, off, none⟩) l.length (u8s l)) {lo n : Nat} (hn : lo + n ≤ l.length) :
    Reads w Bk 1 (some ⟨g, off + lo, none⟩) ((l.drop lo).take n).length (u8s ((l.drop lo).take n)) := by
  refine ⟨by simp, fun hp => ?_⟩
  have hp : 0 < n := by simp at hp; omega
  obtain ⟨b, o, e, hb, hc⟩ := h.2 (by omega)
  injection e with e
  injection e with e1 e2
  subst e1 e2
  refine ⟨g, off + lo, rfl, hb, fun j u hu => ?_⟩
  have hj : j < n := by
    rcases Nat.lt_or_ge j n with hh | hh
    · exact hh
    · rw [List.getElem?_map, List.getElem?_take, if_neg (by omega)] at hu
      cases hu
  rw [List.getElem?_map, List.getElem?_take, if_pos hj, List.getElem?_drop] at hu
  have := hc (lo + j) u (by rw [List.getElem?_map]; exact hu)
  rwa [← Nat.add_assoc] at this
theorem read_at (w : World) (g off lo n c a : Nat) (B : List Int) (h : Reads w w.heap.size 1 (some ⟨g, off, none⟩) B.length (u8s B)) (hx : Bytes B) (hn : lo + n ≤ B.length) (hn6 : n ≤ 6) (ha : a = off + lo) :
    Calls Tryd.prog 36 #[.slice (some ⟨g, a, none⟩) n c] w fun e w' => e = .returned (.int .i64 (rdNum B lo n)) ∧ w = w' := by
  subst ha
  have hl : ((B.drop lo).take n).length = n := by simp; omega
  have := read_ w (some ⟨g, off + lo, none⟩) c _ (rd_mid h hn) (hx.part lo n) (by omega) _ (Lib.hid rfl)
  rw [hl] at this
  exact this
theorem rnumber_at (w : World) (g off lo n c a : Nat) (B : List Int) (h : Reads w w.heap.size 1 (some ⟨g, off, none⟩) B.length (u8s B)) (hx : Bytes B) (hn : lo + n ≤ B.length) (hn6 : n ≤ 6) (ha : a = off + lo) :
    Calls Tryd.prog 37 #[.slice (some ⟨g, a, none⟩) n c] w fun e w' => e = .returned (.int .i64 (rdNum B lo n)) ∧ w = w' := by
  subst ha
  have hl : ((B.drop lo).take n).length = n := by simp; omega
  have := rnumber_ w (some ⟨g, off + lo, none⟩) c _ (rd_mid h hn) (hx.part lo n) (by omega) _ (Lib.hid rfl)
  rw [hl] at this
  exact this
/-- b[lo:hi] of bytes -/
theorem sl_lh (g off N C : Nat) (lo hi : Int) (n m : Nat) (h0 : 0 ≤ lo) (h1 : lo ≤ hi) (h2 : hi ≤ (C : Int)) (hn : hi - lo = n) (hm : (C : Int) - lo = m) (hpos : 0 < m) (W : World) :
    (Instr.sliceAt 41 (.slice (some ⟨g, off, none⟩) N C) (some (.int .i64 lo)) (some (.int .i64 hi)) none).run Tryd.prog W = .ok (.slice (some ⟨g, off + lo.toNat, none⟩) n m) W := by
  have he : Tryd.prog.elem 41 = 5 := by kernel_rfl
  have ht : Tryd.prog.underlying 41 = some (.slice (Tryd.prog.elem 41)) := by rw [he]; exact Tryd.underlying41
  obtain ⟨i, hi', _, hs, _⟩ := info_parts u8El.hi
  rw [run_sliceAt_slice W _ _ _ _ _ ht, run_slice_lh W _ _ N C ht .i64 .i64 lo hi h0 h1 h2, he]
  have hz : ((sizeOf 5).run Tryd.prog W) = .ok 1 W := by simp [sizeOf, typeInfo, hi', hs]
  rw [hz]
  have e1 : hi.toNat - lo.toNat = n := by omega
  have e2 : C - lo.toNat = m := by omega
  have e3 : ¬ (C = lo.toNat) := by omega
  simp [Result.andThen, sliced, e1, e2, e3, add_lit]
/-- b[:hi] of bytes -/
theorem sl_h (g off N C : Nat) (hi : Int) (n : Nat) (h1 : 0 ≤ hi) (h2 : hi ≤ (C : Int)) (hn : hi = n) (hpos : 0 < C) (W : World) :
    (Instr.sliceAt 41 (.slice (some ⟨g, off, none⟩) N C) none (some (.int .i64 hi)) none).run Tryd.prog W = .ok (.slice (some ⟨g, off, none⟩) n C) W := by
  have he : Tryd.prog.elem 41 = 5 := by kernel_rfl
  have ht : Tryd.prog.underlying 41 = some (.slice (Tryd.prog.elem 41)) := by rw [he]; exact Tryd.underlying41
  obtain ⟨i, hi', _, hs, _⟩ := info_parts u8El.hi
  rw [run_sliceAt_slice W _ _ _ _ _ ht, run_slice_h W _ _ N C ht .i64 hi h1 h2, he]
  have hz : ((sizeOf 5).run Tryd.prog W) = .ok 1 W := by simp [sizeOf, typeInfo, hi', hs]
  rw [hz]
  have e1 : hi.toNat = n := by omega
  have e3 : ¬ (C = 0) := by omega
  simp [Result.andThen, sliced, e1, e3, add_zero_]
/-! what Decode answers -/
def hitB (B : List Int) (i : Nat) : Hit := (rdNum B (5 + 6 * i) 4, rdNum B (5 + 6 * i + 4) 2)
def decF (B : List Int) (m : Int) : Nat → Nat → List Hit → List Hit × Int × Int
  | 0, _, l => (l, 0, 0)
  | n + 1, i, l =>
    if m ≤ i then (if hitB B i = (0, 0) then decF B m n (i + 1) l else ([], 5 + 6 * (i : Int), 6))
    else if hitErr (lastP none l) (hitB B i) = 0 then decF B m n (i + 1) (l ++ [hitB B i]) else ([], 5 + 6 * (i : Int), 6)
structure Dec where
  l : List Hit
  o : Bool
  d : Int
  at_ : Int
  er : Int
def noDec (at_ er : Int) : Dec := ⟨[], false, 0, at_, er⟩
def overB (B : List Int) : Bool := decide (B.getD 2 0 = 1)
def decQ (B : List Int) (q : List Hit × Int × Int) : Dec := if q.2.2 = 0 then ⟨q.1, overB B, rdNum B 3 2, 0, 0⟩ else noDec q.2.1 q.2.2
def decR (B : List Int) (k : Int) : Dec :=
  if capK k = false then noDec (-1) 7
  else if (B.length : Int) ≠ 5 + 6 * k then noDec (-1) 3
  else if k < rdNum B 0 2 then noDec 0 6
  else if 1 < B.getD 2 0 then noDec 2 6
  else if flgB (overB B) (rdNum B 3 2) (rdNum B 0 2) k = false then noDec 3 6
  else decQ B (decF B (rdNum B 0 2) k.toNat 0 [])
theorem wrgF_app (i : Nat) (p : Option Hit) (l m : List Hit) : wrgF i p (l ++ m) = if wE p l = 0 then wrgF (i + l.length) (lastP p l) m else wrgF i p l := by
  induction l generalizing i p with
  | nil => rfl
  | cons x r ih =>
    rw [List.cons_append, wrgF, wE, lastP, wrgF]
    by_cases e : hitErr p x = 0
    · rw [if_pos e, if_pos e, if_pos e, ih, List.length_cons, show i + 1 + r.length = i + (r.length + 1) by omega]
    · rw [if_neg e, if_neg e, if_neg e, if_neg e]
theorem wrg_snoc {l : List Hit} (h : wE none l = 0) (x : Hit) : wrg (l ++ [x]) = if hitErr (lastP none l) x = 0 then (-1, 0) else ((l.length : Int), hitErr (lastP none l) x) := by
  unfold wrg
  rw [wrgF_app, if_pos h, wrgF, Nat.zero_add]
  rfl
theorem prevH_snoc (l : List Hit) (x : Hit) : prevH (l ++ [x]) l.length = lastP none l := by
  unfold prevH
  rw [lastP_get]
  by_cases h : l.length = 0
  · rw [if_pos h, if_pos h]
  · rw [if_neg h, if_neg h, List.getElem?_append_left (by omega)]
theorem hitAt_snoc (l : List Hit) (x : Hit) : hitAt (l ++ [x]) l.length = x := by simp [hitAt]
/-- Decode's loop at entry i -/
structure DecRel (B : List Int) (m : Int) (K i : Nat) (l : List Hit) : Prop where
  go : decF B m (K - i) i l = decF B m K 0 []
  len : (l.length : Int) = min (i : Int) m
  ok : wE none l = 0
section
variable {B : List Int} {m : Int} {K i : Nat} {l : List Hit}
theorem DecRel.start (B : List Int) (m : Int) (K : Nat) (hm : 0 ≤ m) : DecRel B m K 0 [] := ⟨rfl, by simp; omega, rfl⟩
theorem DecRel.zero (h : DecRel B m K i l) (hi : i < K) (hm : m ≤ i) (hz : hitB B i = (0, 0)) : DecRel B m K (i + 1) l := by
  refine ⟨?_, by rw [h.len]; omega, h.ok⟩
  rw [← h.go, show K - i = (K - (i + 1)) + 1 by omega, decF, if_pos hm, if_pos hz]
theorem DecRel.zero_no (h : DecRel B m K i l) (hi : i < K) (hm : m ≤ i) (hz : hitB B i ≠ (0, 0)) : decF B m K 0 [] = ([], 5 + 6 * (i : Int), 6) := by
  rw [← h.go, show K - i = (K - (i + 1)) + 1 by omega, decF, if_pos hm, if_neg hz]
theorem DecRel.hit (h : DecRel B m K i l) (hi : i < K) (hm : ¬ m ≤ i) (hz : hitErr (lastP none l) (hitB B i) = 0) : DecRel B m K (i + 1) (l ++ [hitB B i]) := by
  refine ⟨?_, by rw [List.length_append, Int.natCast_add, h.len]; simp; omega, ?_⟩
  · rw [← h.go, show K - i = (K - (i + 1)) + 1 by omega, decF, if_neg hm, if_pos hz]
  · rw [wE_app, if_pos h.ok, wE, if_pos hz]; rfl
theorem DecRel.hit_no (h : DecRel B m K i l) (hi : i < K) (hm : ¬ m ≤ i) (hz : hitErr (lastP none l) (hitB B i) ≠ 0) : decF B m K 0 [] = ([], 5 + 6 * (i : Int), 6) := by
  rw [← h.go, show K - i = (K - (i + 1)) + 1 by omega, decF, if_neg hm, if_neg hz]
theorem DecRel.done (h : DecRel B m K K l) : decF B m K 0 [] = (l, 0, 0) := by rw [← h.go, Nat.sub_self, decF]
end
/-- what comes back from Decode -/
def RetDec (w : World) (q : Dec) (e : Ending) (w' : World) : Prop :=
  ∃ A c, e = .returned (.tuple #[repV A q.l.length c q.o q.d, .int .i64 q.at_, .int .i64 q.er]) ∧ Below w.heap.size w w' ∧ Reads w' w'.heap.size 2 A q.l.length (hits q.l) ∧ q.l.length ≤ c ∧ c ≤ 9223372036854775807
theorem RetDec.no {w w' : World} {q : Dec} {a er : Int} (hq : q = noDec a er) (hb : Below w.heap.size w w') : RetDec w q (.returned (.tuple #[repV none 0 0 false 0, .int .i64 a, .int .i64 er])) w' := by
  subst hq
  exact ⟨none, 0, rfl, hb, Reads.none_, Nat.le_refl _, by omega⟩
end Go.Proofs.YtokcbdaoofjbgaaDoor
