/- Shape, Total, the comparisons, of the script and of its reference. -/
import Derived.Test.YtoogemdcmnjpnaaDoorS1
import Derived.Deep.RegionHeld3
namespace Go.Proofs.YtoogemdcmnjpnaaDoor
open Go.RowKit

abbrev Sh := Int × Int
def shK (p : Sh) : Value := .int .i64 p.1
def shL (p : Sh) : Value := .int .i64 p.2
abbrev shs (l : List Sh) : List Value := flat2 shK shL l
def shp (l : List Sc) : List Sh := l.map fun x => (x.1, (x.2.size : Int))
def shape (l : List Sc) : List Sh := if (chk l).2 = 0 then shp l else []
theorem shp_length (l : List Sc) : (shp l).length = l.length := by simp [shp]
theorem chk_len {l : List Sc} (h : (chk l).2 = 0) : l.length ≤ 200 := by
  rcases Nat.lt_or_ge 200 l.length with hl | hl
  · unfold chk at h; rw [if_pos hl] at h; simp at h
  · exact hl
theorem shape_pos {l : List Sc} (h : (chk l).2 = 0) : shape l = shp l := if_pos h
theorem shape_neg {l : List Sc} (h : (chk l).2 ≠ 0) : shape l = [] := if_neg h
/-- what comes back: a slice that reads as xs, and an error -/
def RetSl (w : World) (size : Nat) (xs : List Value) (n : Nat) (err : Int) (e : Ending) (w' : World) : Prop :=
  ∃ A c, e = .returned (.tuple #[.slice A n c, .int .i64 err]) ∧ Below w.heap.size w w' ∧ Reads w' w'.heap.size size A n xs ∧ n ≤ c ∧ c ≤ 9223372036854775807
theorem RetSl.of_own {w w' : World} {size n k : Nat} {xs ys : List Value} {err err' : Int} {base : Nat} {e : TypeId} {v : Value} (h : w'.ownsRow base e size v k ys) (hb : Below w.heap.size w w') (he : err = err') (hn : k = n) (hx : ys = xs) :
    RetSl w size xs n err (.returned (.tuple #[v, .int .i64 err'])) w' := by
  subst hn hx he
  obtain ⟨A, c, rfl, hr, hc, hm⟩ := own_sl h
  exact ⟨A, c, rfl, hb, hr, hc, hm⟩
theorem RetSl.nil {w w' : World} {size n : Nat} {xs : List Value} {err : Int} (hb : Below w.heap.size w w') (hx : xs = []) (hn : n = 0) : RetSl w size xs n err (.returned (.tuple #[.slice none 0 0, .int .i64 err])) w' := by
  subst hx hn
  exact ⟨none, 0, rfl, hb, Reads.none_, Nat.le_refl _, by omega⟩
theorem shEl : Elem Tryd.prog 36 49 (.agg #[.int .i64 0, .int .i64 0]) 2 16 := ⟨Tryd.underlying36, by kernel_rfl, rfl, by decide⟩
theorem scEl : Elem Tryd.prog 22 47 (.agg #[.int .i64 0, .string ⟨#[]⟩]) 2 24 := ⟨Tryd.underlying22, by kernel_rfl, rfl, by decide⟩

def ShapeRel (l : List Sc) (w wr : World) (v : Value) (k : Nat) : Prop := wr.ownsRow w.heap.size 49 2 v k (shs (shp (l.take k)))
theorem ShapeRel.next {l : List Sc} {w wr : World} {v : Value} {k : Nat} {K : Int} {s : ByteArray} (hd : Hid (l.drop k = (K, s) :: l.drop (k + 1)))
    (h : wr.ownsRow w.heap.size 49 2 v (k + 1) (shs (shp (l.take k)) ++ [.int .i64 K, .int .i64 (s.size : Int)])) : ShapeRel l w wr v (k + 1) := by
  unfold ShapeRel
  rw [take_of_drop hd.out]
  unfold shp
  rw [List.map_append, shs, flat2_append]
  exact h

set_option maxRecDepth 100000 in
set_option maxHeartbeats 400000 in
theorem sshape_any (w : World) (B : Nat) (A : Option Addr) (c : Nat) (l : List Sc) (h : Reads w B 2 A l.length (scs l)) (hB : B ≤ w.heap.size) (hl : l.length ≤ 9223372036854775807) (hs : Sizes l) :
    Calls Tryd.prog 22 #[.slice A l.length c] w (RetSl w 2 (shs (shape l)) (shape l).length (chk l).2) := by
  by_cases h0 : (chk l).2 = 0
  · have e0 : ((chk l).2 != 0) = false := by simp [h0]
    have h200 := chk_len h0
    have H0 := Lib.hid h0
    clear h0
    go_enter Tryd.func22, Tryd.ntmps22
    go_wp2_with ((with_reducible refine (scheck_any _ B _ _ l h hB hl hs).mono ?_); rintro e w1 ⟨rfl, hb1⟩)
    go_loopw [6, 19] (fun v i wr => ∃ k : Nat, k ≤ l.length ∧ i = .int .i64 k ∧ Below w.heap.size w wr ∧ ShapeRel l w wr v k) (fun _ i _ => l.length - (intOf i).toNat)
    case atStart => exact ⟨0, Nat.zero_le _, rfl, hb1, World.ownsRow_nil _ _ _ _⟩
    case round =>
      obtain ⟨k, hk, rfl, hbl, hr⟩ := hrel
      by_cases hlt : k < l.length
      · obtain ⟨b, off, K, s, rfl, hb, c1, c2, hx, hd⟩ := scAt (h.below' hbl hB) hlt hs
        have hb2 := hbl.size
        unfold ShapeRel at hr
        go_wp2_with (at_builtin; refine wpList_app shEl rfl (.tmp 23) (.tmp 30) rfl rfl k (shs (shp (l.take k))) rfl rfl w ?own ?bel [.int .i64 K, .int .i64 (s.size : Int)] ?new rfl ?one (by decide) ?by1 ?by2 ?_)
        case own => exact (hr.alloc _).alloc _
        case bel => exact (hbl.alloc hb2 _).alloc (by simp; omega) _
        case new => exact alloc2_new _ _ _
        case one => simp [Value.oneCell']
        case by1 => omega
        case by2 => omega
        intro g cap w2 hown hb3 _
        have hr2 := ShapeRel.next hd hown
        clear hown hr
        go_wp2
        go_roundw
        case rel => exact ⟨k + 1, by omega, by go_num, hb3, hr2⟩
        case measure => simp [intOf]; omega
      · go_wp2
        go_ret2
        refine RetSl.of_own hr hbl H0.out ?_ ?_
        · rw [shape_pos H0.out, shp_length]; omega
        · rw [shape_pos H0.out, List.take_of_length_le (by omega)]
  · have e0 : ((chk l).2 != 0) = true := by simp [h0]
    have H0 := Lib.hid (shape_neg h0)
    clear h0
    go_enter Tryd.func22, Tryd.ntmps22
    go_wp2_with ((with_reducible refine (scheck_any _ B _ _ l h hB hl hs).mono ?_); rintro e w1 ⟨rfl, hb1⟩)
    go_ret2
    exact RetSl.nil hb1 (by rw [H0.out]; rfl) (by rw [H0.out]; rfl)

set_option maxRecDepth 100000 in
set_option maxHeartbeats 400000 in
theorem rshape_any (w : World) (B : Nat) (A : Option Addr) (c : Nat) (l : List Sc) (h : Reads w B 2 A l.length (scs l)) (hB : B ≤ w.heap.size) (hl : l.length ≤ 9223372036854775807) (hs : Sizes l) :
    Calls Tryd.prog 23 #[.slice A l.length c] w (RetSl w 2 (shs (shape l)) (shape l).length (chk l).2) := by
  by_cases h0 : (chk l).2 = 0
  · have e0 : ((chk l).2 != 0) = false := by simp [h0]
    have h200 := chk_len h0
    have H0 := Lib.hid h0
    clear h0
    go_enter Tryd.func23, Tryd.ntmps23
    go_wp2_with ((with_reducible refine (rcheck_any _ B _ _ l h hB hl hs).mono ?_); rintro e w1 ⟨rfl, hb1⟩)
    go_loopw [6, 7] (fun v i wr => ∃ k : Nat, k ≤ l.length ∧ i = .int .i64 k ∧ Below w.heap.size w wr ∧ ShapeRel l w wr v k) (fun _ i _ => l.length - (intOf i).toNat)
    case atStart => exact ⟨0, Nat.zero_le _, rfl, hb1, World.ownsRow_nil _ _ _ _⟩
    case round =>
      obtain ⟨k, hk, rfl, hbl, hr⟩ := hrel
      by_cases hlt : k < l.length
      · obtain ⟨b, off, K, s, rfl, hb, d1, d2, hx, hd⟩ := scAt h hlt hs
        have hb2 := hbl.size
        have c1 := (hbl.cell (p := ⟨b, off + k * 2, none⟩) (by simp; omega)).trans d1
        have c2 := (hbl.cell (p := ⟨b, off + k * 2 + 1, none⟩) (by simp; omega)).trans d2
        have hi1 : (k : Int) < (l.length : Int) := by omega
        have hi0 : (0 : Int) ≤ (k : Int) := by omega
        unfold ShapeRel at hr
        go_wp2_with fail
        go_region_held3 (fun w' => w'.cell? ⟨b, off + k * 2, none⟩ = some (.int .i64 K) ∧ w'.cell? ⟨b, off + k * 2 + 1, none⟩ = some (.string s))
          (first | go_keep | exact ⟨(hb3.cell (p := ⟨b, off + k * 2, none⟩) (by simp; omega)).trans d1, (hb3.cell (p := ⟨b, off + k * 2 + 1, none⟩) (by simp; omega)).trans d2⟩)
          ((refine step_app shEl rfl (.tmp 22) (.tmp 35) rfl rfl k (shs (shp (l.take k))) rfl rfl w (by exact hr.alloc _) (by exact (hbl.alloc hb2 _).drew) [.int .i64 K, .int .i64 (s.size : Int)] (by exact alloc1_new _ _) rfl (by simp [Value.oneCell']) (by decide) (by omega) (by omega) ?_; intro g cap w2 hown hb3 hgr))
        have hr2 := ShapeRel.next hd hown
        clear hown hr
        go_wp2
        go_roundw
        case rel => exact ⟨k + 1, by omega, by go_num, hb3, hr2⟩
        case measure => simp [intOf]; omega
      · go_wp2
        go_ret2
        refine RetSl.of_own hr hbl H0.out ?_ ?_
        · rw [shape_pos H0.out, shp_length]; omega
        · rw [shape_pos H0.out, List.take_of_length_le (by omega)]
  · have e0 : ((chk l).2 != 0) = true := by simp [h0]
    have H0 := Lib.hid (shape_neg h0)
    clear h0
    go_enter Tryd.func23, Tryd.ntmps23
    go_wp2_with ((with_reducible refine (rcheck_any _ B _ _ l h hB hl hs).mono ?_); rintro e w1 ⟨rfl, hb1⟩)
    go_ret2
    exact RetSl.nil hb1 (by rw [H0.out]; rfl) (by rw [H0.out]; rfl)

/-! The comparisons. -/
def CmpRel {α : Type} (l m : List α) (k : Nat) : Prop := l.take k = m.take k
theorem CmpRel.step {α : Type} {l m : List α} {k : Nat} {x y : α} (h : CmpRel l m k) (hl : Hid (l.drop k = x :: l.drop (k + 1))) (hm : Hid (m.drop k = y :: m.drop (k + 1))) (e : x = y) : CmpRel l m (k + 1) := by
  unfold CmpRel at *
  rw [take_of_drop hl.out, take_of_drop hm.out, h, e]
theorem CmpRel.stop {α : Type} {l m : List α} {k : Nat} {x y : α} (hl : Hid (l.drop k = x :: l.drop (k + 1))) (hm : Hid (m.drop k = y :: m.drop (k + 1))) (e : x ≠ y) : l ≠ m := by
  rintro rfl
  have := hl.out.symm.trans hm.out
  injection this with h1 _
  exact e h1
theorem CmpRel.done {α : Type} {l m : List α} {k : Nat} (h : CmpRel l m k) (hl : l.length ≤ k) (hm : m.length ≤ k) : l = m := by
  unfold CmpRel at h
  rwa [List.take_of_length_le hl, List.take_of_length_le hm] at h
theorem shAt {w : World} {B k : Nat} {A : Option Addr} {l : List Sh} (h : Reads w B 2 A l.length (shs l)) (hk : k < l.length) :
    ∃ b off K n, A = some ⟨b, off, none⟩ ∧ b < B ∧ w.cell? ⟨b, off + k * 2, none⟩ = some (.int .i64 K) ∧ w.cell? ⟨b, off + k * 2 + 1, none⟩ = some (.int .i64 n) ∧
      Hid (l.drop k = (K, n) :: l.drop (k + 1)) := by
  obtain ⟨b, off, e, hb, c1, c2⟩ := h.at2 rfl hk
  exact ⟨b, off, _, _, e, hb, c1, c2, List.drop_eq_getElem_cons hk⟩
theorem strAt {w : World} {B k : Nat} {A : Option Addr} {l : List ByteArray} (h : Reads w B 1 A l.length (l.map Value.string)) (hk : k < l.length) :
    ∃ b off s, A = some ⟨b, off, none⟩ ∧ b < B ∧ w.cell? ⟨b, off + k, none⟩ = some (.string s) ∧ Hid (l.drop k = s :: l.drop (k + 1)) := by
  obtain ⟨b, off, e, hb, hc⟩ := h.2 (by omega)
  exact ⟨b, off, _, e, hb, hc k _ (by rw [List.getElem?_map, List.getElem?_eq_getElem hk]; rfl), List.drop_eq_getElem_cons hk⟩
theorem ret_ne {α : Type} [DecidableEq α] {l m : List α} {b : Bool} (hb : b = false) (h : l ≠ m) : Ending.returned (.bool b) = .returned (.bool (decide (l = m))) := by
  rw [hb, decide_eq_false h]
theorem ret_eq {α : Type} [DecidableEq α] {l m : List α} {b : Bool} (hb : b = true) (h : l = m) : Ending.returned (.bool b) = .returned (.bool (decide (l = m))) := by
  rw [hb, decide_eq_true h]
theorem bytes_eq (b d : ByteArray) : (b.toList = d.toList) ↔ b = d := ⟨fun h => by rw [ByteArray.toList_eq, ByteArray.toList_eq] at h; exact ByteArray.ext (Array.toList_inj.1 h), fun h => by rw [h]⟩
theorem ret_dec {p : Prop} [Decidable p] {b : Bool} (h : (b = true) ↔ p) : Ending.returned (.bool b) = .returned (.bool (decide p)) := by
  congr 2
  rw [Bool.eq_iff_iff, h]
  simp

@[go_sem] theorem eqgSh : Tryd.prog.eqGuardType Tryd.prog.depth 49 = false := by kernel_rfl
@[go_sem] theorem eqgSc : Tryd.prog.eqGuardType Tryd.prog.depth 47 = false := by kernel_rfl
@[go_sem] theorem eqSh (a b c d : Int) (w : World) : (Op.equalIn 10000 49 (.agg #[.int .i64 a, .int .i64 b]) (.agg #[.int .i64 c, .int .i64 d])).run Tryd.prog w = .ok (decide (((a, b) : Sh) = (c, d))) w := by
  have u3 := Tryd.underlying3
  have hS : Tryd.prog.underlying 49 = some (.struct (Tryd.prog.fieldsOf 49)) := by kernel_rfl
  rw [show (10000 : Nat) = 9999 + 1 from rfl, run_equalIn_agg w 9999 49 _ _ hS (by kernel_rfl)]
  simp only [Program.fieldsOf, Tryd.underlying49]
  go_simp
  by_cases h1 : a = c <;> by_cases h2 : b = d <;> simp [h1, h2]
@[go_sem] theorem eqSc (a c : Int) (b d : ByteArray) (w : World) : (Op.equalIn 10000 47 (.agg #[.int .i64 a, .string b]) (.agg #[.int .i64 c, .string d])).run Tryd.prog w = .ok (decide (((a, b) : Sc) = (c, d))) w := by
  have u3 := Tryd.underlying3
  have hS : Tryd.prog.underlying 47 = some (.struct (Tryd.prog.fieldsOf 47)) := by kernel_rfl
  rw [show (10000 : Nat) = 9999 + 1 from rfl, run_equalIn_agg w 9999 47 _ _ hS (by kernel_rfl)]
  simp only [Program.fieldsOf, Tryd.underlying47]
  go_simp
  have e : (b.toList = d.toList) ↔ b = d := ⟨fun h => by rw [ByteArray.toList_eq, ByteArray.toList_eq] at h; exact ByteArray.ext (Array.toList_inj.1 h), fun h => by rw [h]⟩
  by_cases h1 : a = c <;> by_cases h2 : b = d <;> simp [h1, h2, e]
@[go_sem high] theorem neqSh (a b c d : Int) (w : World) : (binOp .neq 49 (.agg #[.int .i64 a, .int .i64 b]) (.agg #[.int .i64 c, .int .i64 d])).run Tryd.prog w = .ok (.bool (!(decide (((a, b) : Sh) = (c, d))))) w := by
  rw [run_neq_struct, eqSh]; rfl
@[go_sem high] theorem eqlSh (a b c d : Int) (w : World) : (binOp .eql 49 (.agg #[.int .i64 a, .int .i64 b]) (.agg #[.int .i64 c, .int .i64 d])).run Tryd.prog w = .ok (.bool (decide (((a, b) : Sh) = (c, d)))) w := by
  rw [run_eql_struct, eqSh]; rfl
@[go_sem high] theorem neqSc (a c : Int) (b d : ByteArray) (w : World) : (binOp .neq 47 (.agg #[.int .i64 a, .string b]) (.agg #[.int .i64 c, .string d])).run Tryd.prog w = .ok (.bool (!(decide (((a, b) : Sc) = (c, d))))) w := by
  rw [run_neq_struct, eqSc]; rfl
@[go_sem high] theorem eqlSc (a c : Int) (b d : ByteArray) (w : World) : (binOp .eql 47 (.agg #[.int .i64 a, .string b]) (.agg #[.int .i64 c, .string d])).run Tryd.prog w = .ok (.bool (decide (((a, b) : Sc) = (c, d)))) w := by
  rw [run_eql_struct, eqSc]; rfl
set_option maxRecDepth 100000 in
set_option maxHeartbeats 400000 in
theorem sameShape_any (w : World) (B B' : Nat) (A A' : Option Addr) (c c' : Nat) (l m : List Sh) (h : Reads w B 2 A l.length (shs l)) (h' : Reads w B' 2 A' m.length (shs m)) (hl : l.length ≤ 9223372036854775807) :
    Calls Tryd.prog 24 #[.slice A l.length c, .slice A' m.length c'] w fun e w' => e = .returned (.bool (decide (l = m))) ∧ Below w.heap.size w w' := by
  by_cases hlen : l.length = m.length
  · have e0 : ((l.length : Int) != (m.length : Int)) = false := by simp [hlen]
    have hm : m.length ≤ l.length := by omega
    have Hlen := Lib.hid hlen
    clear hlen
    go_enter Tryd.func24, Tryd.ntmps24
    go_wp2
    go_loopw [5] (fun i wr => ∃ k : Nat, k ≤ l.length ∧ i = .int .i64 k ∧ Below w.heap.size w wr ∧ (∀ p, wr.cell? p = w.cell? p) ∧ CmpRel l m k) (fun i _ => l.length - (intOf i).toNat)
    case atStart => exact ⟨0, Nat.zero_le _, rfl, Below.refl _ _, fun _ => rfl, rfl⟩
    case round =>
      obtain ⟨k, hk, rfl, hbl, hsame, hr⟩ := hrel
      by_cases hlt : k < l.length
      · obtain ⟨b, off, K, n, rfl, hb, d1, d2, hd⟩ := shAt h hlt
        obtain ⟨b', off', K', n', rfl, hb', d1', d2', hd'⟩ := shAt h' (by rw [← Hlen.out]; exact hlt)
        have c1 := (hsame ⟨b, off + k * 2, none⟩).trans d1
        have c1' := (hsame ⟨b', off' + k * 2, none⟩).trans d1'
        have c2 := (hsame ⟨b, off + k * 2 + 1, none⟩).trans d2
        have c2' := (hsame ⟨b', off' + k * 2 + 1, none⟩).trans d2'
        have Hs := Lib.hid hsame
        clear d1 d1' d2 d2' hsame
        have hi1 : (k : Int) < (l.length : Int) := by omega
        have hi1' : (k : Int) < (m.length : Int) := by rw [← Hlen.out]; omega
        have hi0 : (0 : Int) ≤ (k : Int) := by omega
        go_wp2
        go_quiet (fail)
        go_wp2
        all_goals first
          | (go_roundw
             case rel =>
               go_light
               exact ⟨k + 1, by omega, by go_num, Go.RowKit.Below.trans hbl (drewN_below _ _), fun p => Hs.out p, hr.step hd hd' (by first | (simp_all; done) | (simp_all [bytes_eq]; done))⟩
             case measure => simp [intOf]; omega)
          | (go_ret
             go_light
             exact ⟨ret_ne rfl (CmpRel.stop hd hd' (by intro he; first | (simp_all; done) | (simp_all [bytes_eq]; done))), Go.RowKit.Below.trans hbl (drewN_below _ _)⟩)
      · go_wp2
        go_ret
        exact ⟨ret_eq rfl (hr.done (by omega) (by rw [← Hlen.out]; omega)), hbl⟩
  · have e0 : ((l.length : Int) != (m.length : Int)) = true := by rw [bne_iff_ne]; omega
    have Hn := Lib.hid (show l ≠ m from fun e => hlen (by rw [e]))
    clear hlen
    go_enter Tryd.func24, Tryd.ntmps24
    go_wp2
    go_ret
    exact ⟨ret_ne rfl Hn.out, Below.refl _ _⟩

set_option maxRecDepth 100000 in
set_option maxHeartbeats 400000 in
theorem slEqual_any (w : World) (B B' : Nat) (A A' : Option Addr) (c c' : Nat) (l m : List Sh) (h : Reads w B 2 A l.length (shs l)) (h' : Reads w B' 2 A' m.length (shs m)) (hl : l.length ≤ 9223372036854775807) :
    Calls Tryd.prog 43 #[.slice A l.length c, .slice A' m.length c'] w fun e w' => e = .returned (.bool (decide (l = m))) ∧ Below w.heap.size w w' := by
  by_cases hlen : l.length = m.length
  · have e0 : ((l.length : Int) != (m.length : Int)) = false := by simp [hlen]
    have hm : m.length ≤ l.length := by omega
    have Hlen := Lib.hid hlen
    clear hlen
    go_enter Tryd.func43, Tryd.ntmps43
    go_wp2
    go_loopw [13] (fun i wr => ∃ k : Nat, k ≤ l.length ∧ i = .int .i64 k ∧ Below w.heap.size w wr ∧ (∀ p, wr.cell? p = w.cell? p) ∧ CmpRel l m k) (fun i _ => l.length - (intOf i).toNat)
    case atStart => exact ⟨0, Nat.zero_le _, rfl, Below.refl _ _, fun _ => rfl, rfl⟩
    case round =>
      obtain ⟨k, hk, rfl, hbl, hsame, hr⟩ := hrel
      by_cases hlt : k < l.length
      · obtain ⟨b, off, K, n, rfl, hb, d1, d2, hd⟩ := shAt h hlt
        obtain ⟨b', off', K', n', rfl, hb', d1', d2', hd'⟩ := shAt h' (by rw [← Hlen.out]; exact hlt)
        have c1 := (hsame ⟨b, off + k * 2, none⟩).trans d1
        have c1' := (hsame ⟨b', off' + k * 2, none⟩).trans d1'
        have c2 := (hsame ⟨b, off + k * 2 + 1, none⟩).trans d2
        have c2' := (hsame ⟨b', off' + k * 2 + 1, none⟩).trans d2'
        have Hs := Lib.hid hsame
        clear d1 d1' d2 d2' hsame
        have hi1 : (k : Int) < (l.length : Int) := by omega
        have hi1' : (k : Int) < (m.length : Int) := by rw [← Hlen.out]; omega
        have hi0 : (0 : Int) ≤ (k : Int) := by omega
        go_wp2
        go_quiet (fail)
        go_wp2
        all_goals first
          | (go_roundw
             case rel =>
               go_light
               exact ⟨k + 1, by omega, by go_num, Go.RowKit.Below.trans hbl (drewN_below _ _), fun p => Hs.out p, hr.step hd hd' (by first | (simp_all; done) | (simp_all [bytes_eq]; done))⟩
             case measure => simp [intOf]; omega)
          | (go_ret
             go_light
             exact ⟨ret_ne rfl (CmpRel.stop hd hd' (by intro he; first | (simp_all; done) | (simp_all [bytes_eq]; done))), Go.RowKit.Below.trans hbl (drewN_below _ _)⟩)
      · go_wp2
        go_ret
        exact ⟨ret_eq rfl (hr.done (by omega) (by rw [← Hlen.out]; omega)), hbl⟩
  · have e0 : ((l.length : Int) != (m.length : Int)) = true := by rw [bne_iff_ne]; omega
    have Hn := Lib.hid (show l ≠ m from fun e => hlen (by rw [e]))
    clear hlen
    go_enter Tryd.func43, Tryd.ntmps43
    go_wp2
    go_ret
    exact ⟨ret_ne rfl Hn.out, Below.refl _ _⟩

set_option maxRecDepth 100000 in
set_option maxHeartbeats 400000 in
theorem strings_any (w : World) (B B' : Nat) (A A' : Option Addr) (c c' : Nat) (l m : List ByteArray) (h : Reads w B 1 A l.length (l.map Value.string)) (h' : Reads w B' 1 A' m.length (m.map Value.string)) (hl : l.length ≤ 9223372036854775807) :
    Calls Tryd.prog 19 #[.slice A l.length c, .slice A' m.length c'] w fun e w' => e = .returned (.bool (decide (l = m))) ∧ Below w.heap.size w w' := by
  by_cases hlen : l.length = m.length
  · have e0 : ((l.length : Int) != (m.length : Int)) = false := by simp [hlen]
    have hm : m.length ≤ l.length := by omega
    have Hlen := Lib.hid hlen
    clear hlen
    go_enter Tryd.func19, Tryd.ntmps19
    go_wp2
    go_loopw [5] (fun i wr => ∃ k : Nat, k ≤ l.length ∧ i = .int .i64 k ∧ Below w.heap.size w wr ∧ (∀ p, wr.cell? p = w.cell? p) ∧ CmpRel l m k) (fun i _ => l.length - (intOf i).toNat)
    case atStart => exact ⟨0, Nat.zero_le _, rfl, Below.refl _ _, fun _ => rfl, rfl⟩
    case round =>
      obtain ⟨k, hk, rfl, hbl, hsame, hr⟩ := hrel
      by_cases hlt : k < l.length
      · obtain ⟨b, off, s, rfl, hb, d1, hd⟩ := strAt h hlt
        obtain ⟨b', off', s', rfl, hb', d1', hd'⟩ := strAt h' (by rw [← Hlen.out]; exact hlt)
        have c1 := (hsame ⟨b, off + k, none⟩).trans d1
        have c1' := (hsame ⟨b', off' + k, none⟩).trans d1'
        have Hs := Lib.hid hsame
        clear d1 d1' hsame
        have hi1 : (k : Int) < (l.length : Int) := by omega
        have hi1' : (k : Int) < (m.length : Int) := by rw [← Hlen.out]; omega
        have hi0 : (0 : Int) ≤ (k : Int) := by omega
        go_wp2
        go_quiet (fail)
        go_wp2
        all_goals first
          | (go_roundw
             case rel =>
               go_light
               exact ⟨k + 1, by omega, by go_num, Go.RowKit.Below.trans hbl (drewN_below _ _), fun p => Hs.out p, hr.step hd hd' (by first | (simp_all; done) | (simp_all [bytes_eq]; done))⟩
             case measure => simp [intOf]; omega)
          | (go_ret
             go_light
             exact ⟨ret_ne rfl (CmpRel.stop hd hd' (by intro he; first | (simp_all; done) | (simp_all [bytes_eq]; done))), Go.RowKit.Below.trans hbl (drewN_below _ _)⟩)
      · go_wp2
        go_ret
        exact ⟨ret_eq rfl (hr.done (by omega) (by rw [← Hlen.out]; omega)), hbl⟩
  · have e0 : ((l.length : Int) != (m.length : Int)) = true := by rw [bne_iff_ne]; omega
    have Hn := Lib.hid (show l ≠ m from fun e => hlen (by rw [e]))
    clear hlen
    go_enter Tryd.func19, Tryd.ntmps19
    go_wp2
    go_ret
    exact ⟨ret_ne rfl Hn.out, Below.refl _ _⟩

theorem scAt2 {w : World} {B k : Nat} {A : Option Addr} {l : List Sc} (h : Reads w B 2 A l.length (scs l)) (hk : k < l.length) :
    ∃ b off K s, A = some ⟨b, off, none⟩ ∧ b < B ∧ w.cell? ⟨b, off + k * 2, none⟩ = some (.int .i64 K) ∧ w.cell? ⟨b, off + k * 2 + 1, none⟩ = some (.string s) ∧
      Hid (l.drop k = (K, s) :: l.drop (k + 1)) := by
  obtain ⟨b, off, e, hb, c1, c2⟩ := h.at2 rfl hk
  exact ⟨b, off, _, _, e, hb, c1, c2, List.drop_eq_getElem_cons hk⟩
set_option maxRecDepth 100000 in
set_option maxHeartbeats 400000 in
theorem equal_any (w : World) (B B' : Nat) (A A' : Option Addr) (c c' : Nat) (l m : List Sc) (h : Reads w B 2 A l.length (scs l)) (h' : Reads w B' 2 A' m.length (scs m)) (hl : l.length ≤ 9223372036854775807) :
    Calls Tryd.prog 18 #[.slice A l.length c, .slice A' m.length c'] w fun e w' => e = .returned (.bool (decide (l = m))) ∧ Below w.heap.size w w' := by
  by_cases hlen : l.length = m.length
  · have e0 : ((l.length : Int) != (m.length : Int)) = false := by simp [hlen]
    have hm : m.length ≤ l.length := by omega
    have Hlen := Lib.hid hlen
    clear hlen
    go_enter Tryd.func18, Tryd.ntmps18
    go_wp2
    go_loopw [5] (fun i wr => ∃ k : Nat, k ≤ l.length ∧ i = .int .i64 k ∧ Below w.heap.size w wr ∧ (∀ p, wr.cell? p = w.cell? p) ∧ CmpRel l m k) (fun i _ => l.length - (intOf i).toNat)
    case atStart => exact ⟨0, Nat.zero_le _, rfl, Below.refl _ _, fun _ => rfl, rfl⟩
    case round =>
      obtain ⟨k, hk, rfl, hbl, hsame, hr⟩ := hrel
      by_cases hlt : k < l.length
      · obtain ⟨b, off, K, s, rfl, hb, d1, d2, hd⟩ := scAt2 h hlt
        obtain ⟨b', off', K', s', rfl, hb', d1', d2', hd'⟩ := scAt2 h' (by rw [← Hlen.out]; exact hlt)
        have c1 := (hsame ⟨b, off + k * 2, none⟩).trans d1
        have c1' := (hsame ⟨b', off' + k * 2, none⟩).trans d1'
        have c2 := (hsame ⟨b, off + k * 2 + 1, none⟩).trans d2
        have c2' := (hsame ⟨b', off' + k * 2 + 1, none⟩).trans d2'
        have Hs := Lib.hid hsame
        clear d1 d1' d2 d2' hsame
        have hi1 : (k : Int) < (l.length : Int) := by omega
        have hi1' : (k : Int) < (m.length : Int) := by rw [← Hlen.out]; omega
        have hi0 : (0 : Int) ≤ (k : Int) := by omega
        go_wp2
        go_quiet (fail)
        go_wp2
        all_goals first
          | (go_roundw
             case rel =>
               go_light
               exact ⟨k + 1, by omega, by go_num, Go.RowKit.Below.trans hbl (drewN_below _ _), fun p => Hs.out p, hr.step hd hd' (by first | (simp_all; done) | (simp_all [bytes_eq]; done))⟩
             case measure => simp [intOf]; omega)
          | (go_ret
             go_light
             exact ⟨ret_ne rfl (CmpRel.stop hd hd' (by intro he; first | (simp_all; done) | (simp_all [bytes_eq]; done))), Go.RowKit.Below.trans hbl (drewN_below _ _)⟩)
      · go_wp2
        go_ret
        exact ⟨ret_eq rfl (hr.done (by omega) (by rw [← Hlen.out]; omega)), hbl⟩
  · have e0 : ((l.length : Int) != (m.length : Int)) = true := by rw [bne_iff_ne]; omega
    have Hn := Lib.hid (show l ≠ m from fun e => hlen (by rw [e]))
    clear hlen
    go_enter Tryd.func18, Tryd.ntmps18
    go_wp2
    go_ret
    exact ⟨ret_ne rfl Hn.out, Below.refl _ _⟩

end Go.Proofs.YtoogemdcmnjpnaaDoor
