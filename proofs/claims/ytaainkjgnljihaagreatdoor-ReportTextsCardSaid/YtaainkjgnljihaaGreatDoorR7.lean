/- Numbers written into bytes, by the program. -/
import Derived.Test.YtaainkjgnljihaaGreatDoorR6
namespace Go.Proofs.YtaainkjgnljihaaGreatDoor
open Go.RowKit
/-- n bytes of a number, the higher first -/
def be : Nat → Int → List Int
  | 0, _ => []
  | n + 1, v => be n (v / 256) ++ [v % 256]
theorem be_len (n : Nat) (v : Int) : (be n v).length = n := by
  induction n generalizing v with
  | zero => rfl
  | succ n ih => simp [be, ih]
abbrev u8s (l : List Int) : List Value := l.map (Value.int .u8)
/-- block g holds P, Q and R one behind the other -/
abbrev PQR (w : World) (g : Nat) (t : TypeId) (P Q R : List Value) : Prop := w.heap[g]? = some (.cells (P ++ (Q ++ R)).toArray t (0, 0))
theorem pqr_set {w : World} {g m : Nat} {t : TypeId} {P Q T R : List Value} {u x : Value} (h : PQR w g t P (Q ++ x :: T) R) (hm : Q.length = m) : PQR (w.setCell ⟨g, P.length + m, none⟩ u) g t P (Q ++ u :: T) R := by
  have := set_same (i := P.length + m) h u
  rw [PQR, this]
  subst hm
  congr 2
  apply Array.ext'
  simp only [Array.toList_setIfInBounds]
  rw [List.set_append_right _ _ (by omega), Nat.add_sub_cancel_left, List.append_assoc, List.set_append_right _ _ (by omega), Nat.sub_self]
  simp
theorem pqr_cell {w : World} {g m : Nat} {t : TypeId} {P Q T R : List Value} {x : Value} (h : PQR w g t P (Q ++ x :: T) R) (hm : Q.length = m) : w.cell? ⟨g, P.length + m, none⟩ = some x := by
  rw [Lib.cell_of_heap h]
  subst hm
  simp
theorem pqr_frozen {w : World} {g m : Nat} {t : TypeId} {P Q R : List Value} (h : PQR w g t P Q R) : w.frozen? ⟨g, m, none⟩ = false := Lib.frozen_of_heap h m
theorem grown_set (w : World) (p : Addr) (u : Value) : w.grownBy (w.setCell p u) (some p.block) :=
  ⟨rfl, rfl, rfl, by simp [World.setCell], fun i _ hi => Go.RowKit.Below.heap_setCell w p u i (fun e => hi (by rw [e]))⟩
theorem grown_trans {a b c : World} {row : Option Nat} (h : a.grownBy b row) (k : b.grownBy c row) : a.grownBy c row :=
  ⟨k.os.trans h.os, k.tape.trans h.tape, k.output.trans h.output, Nat.le_trans h.size k.size, fun i hi hr => (k.block i (Nat.lt_of_lt_of_le hi h.size) hr).trans (h.block i hi hr)⟩
set_option maxRecDepth 100000 in
set_option maxHeartbeats 1000000 in
theorem write16 (w : World) (g n cap : Nat) (t : TypeId) (P Q R : List Value) (h : PQR w g t P Q R) (hn : Q.length = n) (hn9 : n ≤ 9) (v : Int) (hv : 0 ≤ v ∧ v ≤ 65535) :
    Calls Tryz.prog 29 #[.slice (some ⟨g, P.length, none⟩) n cap, .int .u16 v] w fun e w' => e = .returned (.tuple #[]) ∧ PQR w' g t P (u8s (be n v)) R ∧ w.grownBy w' (some g) := by
  have HQ := Lib.hid h
  clear h
  have Hn := Lib.hid hn
  clear hn
  obtain ⟨hv1, hv2⟩ := hv
  go_enter Tryz.func29, Tryz.ntmps29
  go_wp2
  go_loopw [1, 4] (fun x i wr => ∃ (m : Nat) (y : Int) (T : List Int), m ≤ n ∧ i = .int .i64 ((m : Int) - 1) ∧ x = .int .u16 y ∧ 0 ≤ y ∧ y ≤ 65535 ∧ Hid (be n v = be m y ++ T) ∧ Hid (PQR wr g t P (Q.take m ++ u8s T) R) ∧ w.grownBy wr (some g)) (fun _ i _ => (intOf i + 1).toNat)
  case atStart => exact ⟨n, v, [], Nat.le_refl _, rfl, rfl, hv1, hv2, Lib.hid (by simp), Lib.hid (by rw [← Hn.out, List.take_length]; simpa using HQ.out), World.grownBy.refl w _⟩
  case round =>
    obtain ⟨m, y, T, hm, rfl, rfl, hy1, hy2, hT, hP, hg⟩ := hrel
    by_cases hm0 : m = 0
    · subst hm0
      rw [show ((0 : Nat) : Int) - 1 = -1 from rfl]
      go_wp2
      go_end0
      refine ⟨rfl, ?_, hg⟩
      have h1 := hT.out
      have h2 := hP.out
      rw [be, List.nil_append] at h1
      rw [List.take_zero, List.nil_append] at h2
      rw [h1]; exact h2
    · obtain ⟨j, rfl⟩ : ∃ j, m = j + 1 := ⟨m - 1, by omega⟩
      rw [show ((j + 1 : Nat) : Int) - 1 = (j : Int) by omega]
      have hj : j < Q.length := by rw [Hn.out]; omega
      have hP2 : PQR wr g t P (Q.take j ++ Q[j] :: u8s T) R := by
        have := hP.out
        rw [List.take_succ_eq_append_getElem hj, List.append_assoc] at this
        exact this
      have hlj : (Q.take j).length = j := by rw [List.length_take]; omega
      have hc := pqr_cell hP2 hlj
      have hf := pqr_frozen (m := P.length + j) hP2
      have hS := Lib.hid (pqr_set (u := .int .u8 (y % 256)) hP2 hlj)
      have hT2 := Lib.hid (show be n v = be j (y / 256) ++ (y % 256 :: T) by rw [hT.out, be, List.append_assoc]; rfl)
      have hg2 := grown_trans hg (grown_set wr ⟨g, P.length + j, none⟩ (.int .u8 (y % 256)))
      clear hP hP2 hT hg
      go_wp2
      go_roundw
      case rel => exact ⟨j, y / 256, y % 256 :: T, by omega, rfl, rfl, by omega, by omega, hT2, hS, hg2⟩
      case measure => simp [intOf]
set_option maxRecDepth 100000 in
set_option maxHeartbeats 1000000 in
theorem write32 (w : World) (g n cap : Nat) (t : TypeId) (P Q R : List Value) (h : PQR w g t P Q R) (hn : Q.length = n) (hn9 : n ≤ 9) (v : Int) (hv : 0 ≤ v ∧ v ≤ 4294967295) :
    Calls Tryz.prog 30 #[.slice (some ⟨g, P.length, none⟩) n cap, .int .u32 v] w fun e w' => e = .returned (.tuple #[]) ∧ PQR w' g t P (u8s (be n v)) R ∧ w.grownBy w' (some g) := by
  have HQ := Lib.hid h
  clear h
  have Hn := Lib.hid hn
  clear hn
  obtain ⟨hv1, hv2⟩ := hv
  go_enter Tryz.func30, Tryz.ntmps30
  go_wp2
  go_loopw [1, 4] (fun x i wr => ∃ (m : Nat) (y : Int) (T : List Int), m ≤ n ∧ i = .int .i64 ((m : Int) - 1) ∧ x = .int .u32 y ∧ 0 ≤ y ∧ y ≤ 4294967295 ∧ Hid (be n v = be m y ++ T) ∧ Hid (PQR wr g t P (Q.take m ++ u8s T) R) ∧ w.grownBy wr (some g)) (fun _ i _ => (intOf i + 1).toNat)
  case atStart => exact ⟨n, v, [], Nat.le_refl _, rfl, rfl, hv1, hv2, Lib.hid (by simp), Lib.hid (by rw [← Hn.out, List.take_length]; simpa using HQ.out), World.grownBy.refl w _⟩
  case round =>
    obtain ⟨m, y, T, hm, rfl, rfl, hy1, hy2, hT, hP, hg⟩ := hrel
    by_cases hm0 : m = 0
    · subst hm0
      rw [show ((0 : Nat) : Int) - 1 = -1 from rfl]
      go_wp2
      go_end0
      refine ⟨rfl, ?_, hg⟩
      have h1 := hT.out
      have h2 := hP.out
      rw [be, List.nil_append] at h1
      rw [List.take_zero, List.nil_append] at h2
      rw [h1]; exact h2
    · obtain ⟨j, rfl⟩ : ∃ j, m = j + 1 := ⟨m - 1, by omega⟩
      rw [show ((j + 1 : Nat) : Int) - 1 = (j : Int) by omega]
      have hj : j < Q.length := by rw [Hn.out]; omega
      have hP2 : PQR wr g t P (Q.take j ++ Q[j] :: u8s T) R := by
        have := hP.out
        rw [List.take_succ_eq_append_getElem hj, List.append_assoc] at this
        exact this
      have hlj : (Q.take j).length = j := by rw [List.length_take]; omega
      have hc := pqr_cell hP2 hlj
      have hf := pqr_frozen (m := P.length + j) hP2
      have hS := Lib.hid (pqr_set (u := .int .u8 (y % 256)) hP2 hlj)
      have hT2 := Lib.hid (show be n v = be j (y / 256) ++ (y % 256 :: T) by rw [hT.out, be, List.append_assoc]; rfl)
      have hg2 := grown_trans hg (grown_set wr ⟨g, P.length + j, none⟩ (.int .u8 (y % 256)))
      clear hP hP2 hT hg
      go_wp2
      go_roundw
      case rel => exact ⟨j, y / 256, y % 256 :: T, by omega, rfl, rfl, by omega, by omega, hT2, hS, hg2⟩
      case measure => simp [intOf]
set_option maxRecDepth 100000 in
set_option maxHeartbeats 1000000 in
theorem writeI (w : World) (g n cap : Nat) (t : TypeId) (P Q R : List Value) (h : PQR w g t P Q R) (hn : Q.length = n) (hn9 : n ≤ 9) (v : Int) (hv : 0 ≤ v ∧ v ≤ 1000000) :
    Calls Tryz.prog 31 #[.slice (some ⟨g, P.length, none⟩) n cap, .int .i64 v] w fun e w' => e = .returned (.tuple #[]) ∧ PQR w' g t P (u8s (be n v)) R ∧ w.grownBy w' (some g) := by
  have HQ := Lib.hid h
  clear h
  have Hn := Lib.hid hn
  clear hn
  obtain ⟨hv1, hv2⟩ := hv
  go_enter Tryz.func31, Tryz.ntmps31
  go_wp2
  go_loopw [1, 4] (fun x i wr => ∃ (m : Nat) (y : Int) (T : List Int), m ≤ n ∧ i = .int .i64 ((m : Int) - 1) ∧ x = .int .i64 y ∧ 0 ≤ y ∧ y ≤ 1000000 ∧ Hid (be n v = be m y ++ T) ∧ Hid (PQR wr g t P (Q.take m ++ u8s T) R) ∧ w.grownBy wr (some g)) (fun _ i _ => (intOf i + 1).toNat)
  case atStart => exact ⟨n, v, [], Nat.le_refl _, rfl, rfl, hv1, hv2, Lib.hid (by simp), Lib.hid (by rw [← Hn.out, List.take_length]; simpa using HQ.out), World.grownBy.refl w _⟩
  case round =>
    obtain ⟨m, y, T, hm, rfl, rfl, hy1, hy2, hT, hP, hg⟩ := hrel
    by_cases hm0 : m = 0
    · subst hm0
      rw [show ((0 : Nat) : Int) - 1 = -1 from rfl]
      go_wp2
      go_end0
      refine ⟨rfl, ?_, hg⟩
      have h1 := hT.out
      have h2 := hP.out
      rw [be, List.nil_append] at h1
      rw [List.take_zero, List.nil_append] at h2
      rw [h1]; exact h2
    · obtain ⟨j, rfl⟩ : ∃ j, m = j + 1 := ⟨m - 1, by omega⟩
      rw [show ((j + 1 : Nat) : Int) - 1 = (j : Int) by omega]
      have hj : j < Q.length := by rw [Hn.out]; omega
      have hP2 : PQR wr g t P (Q.take j ++ Q[j] :: u8s T) R := by
        have := hP.out
        rw [List.take_succ_eq_append_getElem hj, List.append_assoc] at this
        exact this
      have hlj : (Q.take j).length = j := by rw [List.length_take]; omega
      have hc := pqr_cell hP2 hlj
      have hf := pqr_frozen (m := P.length + j) hP2
      have hS := Lib.hid (pqr_set (u := .int .u8 (y % 256)) hP2 hlj)
      have hT2 := Lib.hid (show be n v = be j (y / 256) ++ (y % 256 :: T) by rw [hT.out, be, List.append_assoc]; rfl)
      have hg2 := grown_trans hg (grown_set wr ⟨g, P.length + j, none⟩ (.int .u8 (y % 256)))
      clear hP hP2 hT hg
      go_wp2
      go_roundw
      case rel => exact ⟨j, y / 256, y % 256 :: T, by omega, rfl, rfl, by omega, by omega, hT2, hS, hg2⟩
      case measure => simp [intOf]
theorem write16_at (w : World) (g n cap off : Nat) (t : TypeId) (P Q R : List Value) (h : PQR w g t P Q R) (hn : Q.length = n) (hn9 : n ≤ 9) (v : Int) (hv : 0 ≤ v ∧ v ≤ 65535) (ho : P.length = off) :
    Calls Tryz.prog 29 #[.slice (some ⟨g, off, none⟩) n cap, .int .u16 v] w fun e w' => e = .returned (.tuple #[]) ∧ PQR w' g t P (u8s (be n v)) R ∧ w.grownBy w' (some g) := by
  subst ho; exact write16 w g n cap t P Q R h hn hn9 v hv
theorem write32_at (w : World) (g n cap off : Nat) (t : TypeId) (P Q R : List Value) (h : PQR w g t P Q R) (hn : Q.length = n) (hn9 : n ≤ 9) (v : Int) (hv : 0 ≤ v ∧ v ≤ 4294967295) (ho : P.length = off) :
    Calls Tryz.prog 30 #[.slice (some ⟨g, off, none⟩) n cap, .int .u32 v] w fun e w' => e = .returned (.tuple #[]) ∧ PQR w' g t P (u8s (be n v)) R ∧ w.grownBy w' (some g) := by
  subst ho; exact write32 w g n cap t P Q R h hn hn9 v hv
theorem writeI_at (w : World) (g n cap off : Nat) (t : TypeId) (P Q R : List Value) (h : PQR w g t P Q R) (hn : Q.length = n) (hn9 : n ≤ 9) (v : Int) (hv : 0 ≤ v ∧ v ≤ 1000000) (ho : P.length = off) :
    Calls Tryz.prog 31 #[.slice (some ⟨g, off, none⟩) n cap, .int .i64 v] w fun e w' => e = .returned (.tuple #[]) ∧ PQR w' g t P (u8s (be n v)) R ∧ w.grownBy w' (some g) := by
  subst ho; exact writeI w g n cap t P Q R h hn hn9 v hv
end Go.Proofs.YtaainkjgnljihaaGreatDoor
