/- Traces: Digest of the program and of its reference. -/
import Derived.Test.YtpgojecldmcopaaDoorT5
namespace Go.Proofs.YtpgojecldmcopaaDoor
open Go.RowKit
def byE (x : Ev) : List Int := [x.1 % 256, x.2 % 256, x.2 % 4294967296 / 256 % 256, x.2 % 4294967296 / 65536 % 256, x.2 % 4294967296 / 16777216]
def dgR (n b : Int) : Int := IntKind.u64.wrap (bits .xor .u64 n b * 1099511628211)
def dgE (n : Int) (x : Ev) : Int := (byE x).foldl dgR n
def dg (l : List Ev) : Int := l.foldl dgE 14695981039346656037
def dgP (n : Int) (x : Ev) (j : Nat) : Int := ((byE x).take j).foldl dgR n
theorem dgP_all (n : Int) (x : Ev) : dgP n x 5 = dgE n x := by
  show ((byE x).take 5).foldl dgR n = (byE x).foldl dgR n
  rw [List.take_of_length_le (by simp [byE])]
theorem dg_step {l : List Ev} {k : Nat} {x : Ev} (hd : Hid (l.drop k = x :: l.drop (k + 1))) : dg (l.take (k + 1)) = dgE (dg (l.take k)) x := by
  unfold dg
  rw [take_of_drop hd.out, List.foldl_append, List.foldl_cons, List.foldl_nil]
set_option maxRecDepth 100000 in
theorem wrap_u8 {b : Int} (h0 : 0 ≤ b) (h1 : b < 256) : IntKind.u64.wrap b = b := by
  simp only [IntKind.wrap, IntKind.bits, IntKind.signed]
  simp
  omega
theorem ixA0 (x0 x1 x2 x3 x4 : Int) (w : World) : (Instr.index 46 (.agg #[.int .u8 x0, .int .u8 x1, .int .u8 x2, .int .u8 x3, .int .u8 x4]) (.int .i64 0)).run Tryd.prog w = .ok (.int .u8 x0) w := by kernel_rfl
theorem ixA1 (x0 x1 x2 x3 x4 : Int) (w : World) : (Instr.index 46 (.agg #[.int .u8 x0, .int .u8 x1, .int .u8 x2, .int .u8 x3, .int .u8 x4]) (.int .i64 1)).run Tryd.prog w = .ok (.int .u8 x1) w := by kernel_rfl
theorem ixA2 (x0 x1 x2 x3 x4 : Int) (w : World) : (Instr.index 46 (.agg #[.int .u8 x0, .int .u8 x1, .int .u8 x2, .int .u8 x3, .int .u8 x4]) (.int .i64 2)).run Tryd.prog w = .ok (.int .u8 x2) w := by kernel_rfl
theorem ixA3 (x0 x1 x2 x3 x4 : Int) (w : World) : (Instr.index 46 (.agg #[.int .u8 x0, .int .u8 x1, .int .u8 x2, .int .u8 x3, .int .u8 x4]) (.int .i64 3)).run Tryd.prog w = .ok (.int .u8 x3) w := by kernel_rfl
theorem ixA4 (x0 x1 x2 x3 x4 : Int) (w : World) : (Instr.index 46 (.agg #[.int .u8 x0, .int .u8 x1, .int .u8 x2, .int .u8 x3, .int .u8 x4]) (.int .i64 4)).run Tryd.prog w = .ok (.int .u8 x4) w := by kernel_rfl
set_option maxRecDepth 100000 in
set_option maxHeartbeats 2000000 in
theorem digest_ (w : World) (A : Option Addr) (c : Nat) (l : List Ev) (h : Reads w w.heap.size 2 A l.length (evs l)) (hl : l.length ≤ 140737488355328) :
    Calls Tryd.prog 8 #[.slice A l.length c] w fun e w' => e = .returned (.int .u64 (dg l)) ∧ Below w.heap.size w w' := by
  go_enter Tryd.func8, Tryd.ntmps8
  go_wp2
  go_loopw [11, 3] (fun i n wr => ∃ k : Nat, k ≤ l.length ∧ i = .int .i64 k ∧ n = .int .u64 (dg (l.take k)) ∧ Below w.heap.size w wr) (fun i _ _ => l.length - (intOf i).toNat)
  case atStart => exact ⟨0, Nat.zero_le _, rfl, rfl, Below.refl _ _⟩
  case round =>
    obtain ⟨k, hk, rfl, rfl, hbl⟩ := hrel
    by_cases hlt : k < l.length
    · have hR := h.go hbl
      obtain ⟨b, off, K, a, rfl, hb, d1, d2, hd⟩ := evAt hR hlt
      have hB := ba hbl (evO (K, a))
      have hst := Lib.hid (dg_step hd)
      generalize dg (l.take k) = N at *
      clear hd
      go_wp2
      generalize wr.alloc (.cells #[.int .i32 K, .int .i32 a] 30 (0, 0)) = wq at *
      go_loopw [33, 3] (fun i n wi => ∃ j : Nat, j ≤ 5 ∧ i = .int .i64 j ∧ n = .int .u64 (dgP N (K, a) j) ∧ wi = wq) (fun i _ _ => 5 - (intOf i).toNat)
      case atStart => exact ⟨0, by omega, rfl, rfl, rfl⟩
      case round =>
        obtain ⟨j, hj, rfl, rfl, rfl⟩ := hrel
        clear d1 d2 hR h
        rcases (show j = 0 ∨ j = 1 ∨ j = 2 ∨ j = 3 ∨ j = 4 ∨ j = 5 by omega) with rfl | rfl | rfl | rfl | rfl | rfl
        · have hix := ixA0 (K % 256) (a % 256) (a % 4294967296 / 256 % 256) (a % 4294967296 / 65536 % 256) (a % 4294967296 / 16777216)
          have hst2 := Lib.hid (show dgP N (K, a) 1 = dgR (dgP N (K, a) 0) (K % 256) from rfl)
          generalize dgP N (K, a) 0 = M at *
          have hw := wrap_u8 (b := K % 256) (by omega) (by omega)
          go_wp2
          go_roundw
          case rel => exact ⟨1, by omega, rfl, by rw [hst2.out]; rfl, trivial⟩
          case measure => simp [intOf]
        · have hix := ixA1 (K % 256) (a % 256) (a % 4294967296 / 256 % 256) (a % 4294967296 / 65536 % 256) (a % 4294967296 / 16777216)
          have hst2 := Lib.hid (show dgP N (K, a) 2 = dgR (dgP N (K, a) 1) (a % 256) from rfl)
          generalize dgP N (K, a) 1 = M at *
          have hw := wrap_u8 (b := a % 256) (by omega) (by omega)
          go_wp2
          go_roundw
          case rel => exact ⟨2, by omega, rfl, by rw [hst2.out]; rfl, trivial⟩
          case measure => simp [intOf]
        · have hix := ixA2 (K % 256) (a % 256) (a % 4294967296 / 256 % 256) (a % 4294967296 / 65536 % 256) (a % 4294967296 / 16777216)
          have hst2 := Lib.hid (show dgP N (K, a) 3 = dgR (dgP N (K, a) 2) (a % 4294967296 / 256 % 256) from rfl)
          generalize dgP N (K, a) 2 = M at *
          have hw := wrap_u8 (b := a % 4294967296 / 256 % 256) (by omega) (by omega)
          go_wp2
          go_roundw
          case rel => exact ⟨3, by omega, rfl, by rw [hst2.out]; rfl, trivial⟩
          case measure => simp [intOf]
        · have hix := ixA3 (K % 256) (a % 256) (a % 4294967296 / 256 % 256) (a % 4294967296 / 65536 % 256) (a % 4294967296 / 16777216)
          have hst2 := Lib.hid (show dgP N (K, a) 4 = dgR (dgP N (K, a) 3) (a % 4294967296 / 65536 % 256) from rfl)
          generalize dgP N (K, a) 3 = M at *
          have hw := wrap_u8 (b := a % 4294967296 / 65536 % 256) (by omega) (by omega)
          go_wp2
          go_roundw
          case rel => exact ⟨4, by omega, rfl, by rw [hst2.out]; rfl, trivial⟩
          case measure => simp [intOf]
        · have hix := ixA4 (K % 256) (a % 256) (a % 4294967296 / 256 % 256) (a % 4294967296 / 65536 % 256) (a % 4294967296 / 16777216)
          have hst2 := Lib.hid (show dgP N (K, a) 5 = dgR (dgP N (K, a) 4) (a % 4294967296 / 16777216) from rfl)
          generalize dgP N (K, a) 4 = M at *
          have hw := wrap_u8 (b := a % 4294967296 / 16777216) (by omega) (by omega)
          go_wp2
          go_roundw
          case rel => exact ⟨5, by omega, rfl, by rw [hst2.out]; rfl, trivial⟩
          case measure => simp [intOf]
        · rw [dgP_all, ← hst.out]
          go_wp2
          go_roundw
          case rel => exact ⟨k + 1, by omega, by go_num, rfl, hB⟩
          case measure => simp [intOf]; omega
    · obtain rfl : k = l.length := by omega
      rw [List.take_of_length_le (Nat.le_refl _)] at *
      go_wp2
      go_ret
      exact ⟨rfl, hbl⟩
theorem shr8 (a : Int) : a % 4294967296 / 65536 = a % 4294967296 / 256 / 256 ∧ a % 4294967296 / 16777216 = a % 4294967296 / 256 / 256 / 256 := by omega
def shN (a : Int) : Nat → Int
  | 0 => a % 4294967296
  | j + 1 => shN a j / 256
theorem shN_bd (a : Int) (j : Nat) : 0 ≤ shN a j ∧ shN a j ≤ 4294967295 := by
  induction j with
  | zero => show 0 ≤ a % 4294967296 ∧ a % 4294967296 ≤ 4294967295; omega
  | succ j ih => show 0 ≤ shN a j / 256 ∧ shN a j / 256 ≤ 4294967295; omega
def shP (n : Int) (x : Ev) : Nat → Int
  | 0 => dgR n (x.1 % 256)
  | j + 1 => dgR (shP n x j) (shN x.2 j % 256)
theorem shP_all (n : Int) (x : Ev) : shP n x 4 = dgE n x := by
  obtain ⟨K, a⟩ := x
  have h1 : a % 4294967296 / 65536 = a % 4294967296 / 256 / 256 := by omega
  have h2 : a % 4294967296 / 16777216 = a % 4294967296 / 256 / 256 / 256 % 256 := by omega
  have h3 : a % 256 = a % 4294967296 % 256 := by omega
  show dgR (dgR (dgR (dgR (dgR n (K % 256)) (a % 4294967296 % 256)) (a % 4294967296 / 256 % 256)) (a % 4294967296 / 256 / 256 % 256)) (a % 4294967296 / 256 / 256 / 256 % 256) =
    dgR (dgR (dgR (dgR (dgR n (K % 256)) (a % 256)) (a % 4294967296 / 256 % 256)) (a % 4294967296 / 65536 % 256)) (a % 4294967296 / 16777216)
  rw [h1, h2, h3]
end Go.Proofs.YtpgojecldmcopaaDoor
