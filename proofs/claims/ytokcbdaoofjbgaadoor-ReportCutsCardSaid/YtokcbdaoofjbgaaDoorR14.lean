/- Plain laws of hits appended; the reference's number. -/
import Derived.Test.YtokcbdaoofjbgaaDoorR13
import Derived.Test.YtokcbdaoofjbgaaDoorR11
namespace Go.Proofs.YtokcbdaoofjbgaaDoor
open Go.RowKit
def wE : Option Hit → List Hit → Int
  | _, [] => 0
  | p, x :: r => if hitErr p x = 0 then wE (some x) r else hitErr p x
theorem wrgF_two (i : Nat) (p : Option Hit) (l : List Hit) : (wrgF i p l).2 = wE p l := by
  induction l generalizing i p with
  | nil => rfl
  | cons x r ih =>
    rw [wrgF, wE]
    by_cases e : hitErr p x = 0
    · rw [if_pos e, if_pos e]; exact ih _ _
    · rw [if_neg e, if_neg e]
theorem wrg_two (l : List Hit) : (wrg l).2 = wE none l := wrgF_two 0 none l
def lastP : Option Hit → List Hit → Option Hit
  | p, [] => p
  | _, x :: r => lastP (some x) r
theorem lastP_get (p : Option Hit) (l : List Hit) : lastP p l = if l.length = 0 then p else l[l.length - 1]? := by
  induction l generalizing p with
  | nil => rfl
  | cons x r ih =>
    rw [lastP, ih]
    cases r with
    | nil => rfl
    | cons y s => simp
theorem wE_app (p : Option Hit) (l m : List Hit) : wE p (l ++ m) = if wE p l = 0 then wE (lastP p l) m else wE p l := by
  induction l generalizing p with
  | nil => rfl
  | cons x r ih =>
    rw [List.cons_append, wE, wE, lastP]
    by_cases e : hitErr p x = 0
    · rw [if_pos e, if_pos e, ih]
    · rw [if_neg e, if_neg e, if_neg e]
theorem hitErr_ne {p : Option Hit} {x : Hit} (h : hitErr none x = 0) (q : Hit) : hitErr (some q) x = if abv x q = true then 0 else 6 := by
  have ho : okH x = true := by
    cases ho : okH x with
    | true => rfl
    | false => rw [hitErr_range ho] at h; cases h
  cases ha : abv x q with
  | true => rw [hitErr_ok ho ha]; rfl
  | false => rw [hitErr_form ho ha]; rfl
theorem wE_behind {x : Hit} {r : List Hit} (h : wE none (x :: r) = 0) (q : Hit) : wE (some q) (x :: r) = if abv x q = true then 0 else 6 := by
  rw [wE] at h
  by_cases e : hitErr none x = 0
  · rw [if_pos e] at h
    rw [wE, hitErr_ne (p := none) e q]
    cases ha : abv x q with
    | true => simpa using h
    | false => rfl
  · rw [if_neg e] at h; exact absurd h e
/-- a prefix that is wrong stays wrong -/
theorem wE_prefix {l m : List Hit} {e : Int} (h : wE none l = e) (he : e ≠ 0) : wE none (l ++ m) = e := by
  rw [wE_app, h, if_neg he]
set_option maxRecDepth 100000 in
set_option maxHeartbeats 1000000 in
theorem rnumber_ (w : World) (A : Option Addr) (c : Nat) (l : List Int) (h : Reads w w.heap.size 1 A l.length (u8s l)) (hx : Bytes l) (hl : l.length ≤ 6) (v : Int) (hv : Hid (v = numV l)) :
    Calls Tryd.prog 37 #[.slice A l.length c] w fun e w' => e = .returned (.int .i64 v) ∧ w = w' := by
  go_enter Tryd.func37, Tryd.ntmps37
  go_wp2
  go_loopw [3, 4] (fun n i wr => ∃ (k : Nat) (N : Int), k ≤ l.length ∧ i = .int .i64 k ∧ n = .int .i64 N ∧ 0 ≤ N ∧ N < 256 ^ k ∧ Hid (numF N (l.drop k) = numV l) ∧ w = wr) (fun _ i _ => l.length - (intOf i).toNat)
  case atStart => exact ⟨0, 0, Nat.zero_le _, rfl, rfl, by omega, by decide, Lib.hid rfl, rfl⟩
  case round =>
    obtain ⟨k, N, hk, rfl, rfl, h0, h1, hN, rfl⟩ := hrel
    by_cases hlt : k < l.length
    · obtain ⟨b, off, x, rfl, hb, d1, hd⟩ := byAt h hlt
      obtain ⟨x0, x1⟩ := hx x (List.mem_of_mem_drop (by rw [hd.out]; exact List.mem_cons_self))
      have hNN : N < 1099511627776 := by have := pow_le (k := k) (by omega); omega
      have hP := num_lt h1 x1
      have h0' : 0 ≤ 256 * N + x := by omega
      have hM := numF_next hN hd
      clear h1 hN hd
      go_wp2
      go_roundw
      case rel => exact ⟨k + 1, 256 * N + x, by omega, by go_num, rfl, h0', hP, hM, by trivial⟩
      case measure => simp [intOf]; omega
    · obtain rfl : k = l.length := by omega
      have hz := hN.out
      rw [List.drop_length] at hz
      have hz : N = v := by rw [hv.out]; exact hz
      go_wp2
      go_ret
      rw [hz]
      exact ⟨rfl, rfl⟩
end Go.Proofs.YtokcbdaoofjbgaaDoor
