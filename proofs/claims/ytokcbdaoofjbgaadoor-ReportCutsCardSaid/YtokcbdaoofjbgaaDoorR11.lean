/- Numbers read from bytes: the program's read, the reference's number. -/
import Derived.Test.YtokcbdaoofjbgaaDoorR8
import Derived.Laws.BitsAllLaws
namespace Go.Proofs.YtokcbdaoofjbgaaDoor
open Go.RowKit
def numF : Int → List Int → Int
  | n, [] => n
  | n, x :: r => numF (256 * n + x) r
def numV (l : List Int) : Int := numF 0 l
abbrev Bytes (l : List Int) : Prop := ∀ x ∈ l, 0 ≤ x ∧ x ≤ 255
theorem byAt {w : World} {B k : Nat} {A : Option Addr} {l : List Int} (h : Reads w B 1 A l.length (u8s l)) (hk : k < l.length) :
    ∃ b off x, A = some ⟨b, off, none⟩ ∧ b < B ∧ w.cell? ⟨b, off + k, none⟩ = some (.int .u8 x) ∧ Hid (l.drop k = x :: l.drop (k + 1)) := by
  obtain ⟨b, off, e, hb, hc⟩ := h.2 (by omega)
  exact ⟨b, off, l[k], e, hb, hc k _ (by simp [hk]), List.drop_eq_getElem_cons hk⟩
theorem i64_or_nat (a b : Nat) (ha : a < 4611686018427387904) (hb : b < 4611686018427387904) : bits .or .i64 (a : Int) (b : Int) = ((a ||| b : Nat) : Int) := by
  have hx : a ||| b < 2 ^ 62 := Nat.or_lt_two_pow (by omega) (by omega)
  show IntKind.i64.wrap ((BitVec.ofInt 64 (a : Int) ||| BitVec.ofInt 64 (b : Int)).toNat : Int) = _
  rw [BitVec.toNat_or, ofInt_u64 a (by omega), ofInt_u64 b (by omega)]
  exact IntWalk.i64_in _ (by omega)
theorem or_byte (N x : Int) (h0 : 0 ≤ N) (h1 : N < 1099511627776) (x0 : 0 ≤ x) (x1 : x ≤ 255) : bits BinOp.or IntKind.i64 (wrap64 (N * 256)) x = 256 * N + x := by
  obtain ⟨n, rfl⟩ : ∃ n : Nat, N = n := ⟨N.toNat, by omega⟩
  obtain ⟨y, rfl⟩ : ∃ y : Nat, x = y := ⟨x.toNat, by omega⟩
  have hw : wrap64 ((n : Int) * 256) = ((256 * n : Nat) : Int) := by unfold wrap64; omega
  rw [hw, i64_or_nat _ _ (by omega) (by omega)]
  have := Nat.two_pow_add_eq_or_of_lt (i := 8) (b := y) (by omega) n
  rw [show (2 ^ 8 : Nat) = 256 by decide] at this
  rw [← this]
  omega
theorem pow_le {k : Nat} (h : k < 6) : (256 : Int) ^ k ≤ 1099511627776 := by
  match k, h with
  | 0, _ => decide
  | 1, _ => decide
  | 2, _ => decide
  | 3, _ => decide
  | 4, _ => decide
  | 5, _ => decide
theorem numF_next {N v : Int} {l : List Int} {k : Nat} {x : Int} (h : Hid (numF N (l.drop k) = v)) (hd : Hid (l.drop k = x :: l.drop (k + 1))) : Hid (numF (256 * N + x) (l.drop (k + 1)) = v) := by
  have := h.out
  rw [hd.out] at this
  exact Lib.hid this
theorem num_lt {N x : Int} {k : Nat} (h : N < 256 ^ k) (x1 : x ≤ 255) : 256 * N + x < 256 ^ (k + 1) := by
  rw [Int.pow_succ]
  generalize (256 : Int) ^ k = P at *
  omega
set_option maxRecDepth 100000 in
set_option maxHeartbeats 1000000 in
theorem read_ (w : World) (A : Option Addr) (c : Nat) (l : List Int) (h : Reads w w.heap.size 1 A l.length (u8s l)) (hx : Bytes l) (hl : l.length ≤ 6) (v : Int) (hv : Hid (v = numV l)) :
    Calls Tryd.prog 36 #[.slice A l.length c] w fun e w' => e = .returned (.int .i64 v) ∧ w = w' := by
  go_enter Tryd.func36, Tryd.ntmps36
  go_wp2
  go_loopw [3, 8] (fun n i wr => ∃ (k : Nat) (N : Int), k ≤ l.length ∧ i = .int .i64 k ∧ n = .int .i64 N ∧ 0 ≤ N ∧ N < 256 ^ k ∧ Hid (numF N (l.drop k) = numV l) ∧ w = wr) (fun _ i _ => l.length - (intOf i).toNat)
  case atStart => exact ⟨0, 0, Nat.zero_le _, rfl, rfl, by omega, by decide, Lib.hid rfl, rfl⟩
  case round =>
    obtain ⟨k, N, hk, rfl, rfl, h0, h1, hN, rfl⟩ := hrel
    by_cases hlt : k < l.length
    · obtain ⟨b, off, x, rfl, hb, d1, hd⟩ := byAt h hlt
      obtain ⟨x0, x1⟩ := hx x (List.mem_of_mem_drop (by rw [hd.out]; exact List.mem_cons_self))
      go_wp2
      rw [or_byte N x h0 (by have := pow_le (k := k) (by omega); omega) x0 x1]
      exact ⟨⟨k + 1, 256 * N + x, by omega, by go_num, rfl, by omega, num_lt h1 x1, numF_next hN hd, trivial⟩, by simp [intOf]; omega⟩
    · obtain rfl : k = l.length := by omega
      have hz := hN.out
      rw [List.drop_length] at hz
      have hz : N = v := by rw [hv.out]; exact hz
      go_wp2
      go_ret
      rw [hz]
      exact ⟨rfl, rfl⟩
end Go.Proofs.YtokcbdaoofjbgaaDoor
