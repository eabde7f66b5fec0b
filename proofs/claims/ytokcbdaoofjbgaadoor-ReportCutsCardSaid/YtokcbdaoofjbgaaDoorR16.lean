/- The reference's bytes of a number. -/
import Derived.Test.YtokcbdaoofjbgaaDoorR19
namespace Go.Proofs.YtokcbdaoofjbgaaDoor
open Go.RowKit
theorem u8s_app (l m : List Int) : u8s (l ++ m) = u8s l ++ u8s m := List.map_append
/-- what comes back: a row of the call's own -/
def RetOwn (w : World) (n : Nat) (xs : List Int) (e : Ending) (w' : World) : Prop :=
  ∃ A c, e = .returned (.slice A n c) ∧ w'.ownsRow w.heap.size 5 1 (.slice A n c) n (u8s xs) ∧ Reads w' w'.heap.size 1 A n (u8s xs) ∧ Below w.heap.size w w'
theorem RetOwn.of {w w' : World} {n : Nat} {xs : List Int} {v : Value} (h : w'.ownsRow w.heap.size 5 1 v n (u8s xs)) (hb : Below w.heap.size w w') : RetOwn w n xs (.returned v) w' := by
  obtain ⟨A, c, rfl, hr, _, _⟩ := own_sl h
  exact ⟨A, c, rfl, h, hr, hb⟩
set_option maxRecDepth 100000 in
set_option maxHeartbeats 1000000 in
theorem rbytes_ (m : Nat) : ∀ (n : Int) (w : World), 0 ≤ n → n ≤ 9223372036854775807 → m ≤ 4 →
    Calls Tryd.prog 34 #[.int .i64 n, .int .i64 m] w (RetOwn w m (be m n)) := by
  induction m with
  | zero =>
    intro n w h0 h1 hm
    go_enter Tryd.func34, Tryd.ntmps34
    go_wp2
    go_ret
    exact RetOwn.of (World.ownsRow_nil _ _ _ _) (Below.refl _ _)
  | succ m ih =>
    intro n w h0 h1 hm
    have hi := ih (n / 256) w (by omega) (by omega) (by omega)
    have hw8 : IntKind.u8.wrap (n % 256) = n % 256 := by simp [IntKind.wrap, IntKind.bits, IntKind.signed]
    have Hi := Lib.hid hi
    clear ih hi
    have e0 : (((m : Int) + 1) == 0) = false := by simp; omega
    have e1 : (m : Int) + 1 - 1 = m := by omega
    rw [show ((m + 1 : Nat) : Int) = (m : Int) + 1 from rfl]
    go_enter Tryd.func34, Tryd.ntmps34
    go_wp2_with fail
    (with_reducible refine (Hi.out).mono ?_); rintro e w1 ⟨A, c, rfl, ho, _, hb⟩
    go_wp2_with (at_builtin; refine wpList_ap u8El (w0 := w) (ho.alloc _) (ba hb _) [.int .u8 (n % 256)] (by exact alloc1_new _ _) ?_)
    intro g4 cap4 w4 hO4 hb4 hg4
    clear ho hg4 hb e1 e0 hw8 Hi
    have HO := Lib.hid hO4
    clear hO4
    go_wp2
    go_ret
    refine RetOwn.of ?_ hb4
    rw [be, u8s_app]
    exact HO.out
theorem rbytes4 (n : Int) (w : World) (h0 : 0 ≤ n) (h1 : n ≤ 9223372036854775807) : Calls Tryd.prog 34 #[.int .i64 n, .int .i64 4] w (RetOwn w 4 (be 4 n)) := rbytes_ 4 n w h0 h1 (by omega)
theorem rbytes2 (n : Int) (w : World) (h0 : 0 ≤ n) (h1 : n ≤ 9223372036854775807) : Calls Tryd.prog 34 #[.int .i64 n, .int .i64 2] w (RetOwn w 2 (be 2 n)) := rbytes_ 2 n w h0 h1 (by omega)
/-- a row of a later base is left alone by what grows a row below -/
theorem own_grown_new {w w' : World} {base size n : Nat} {e : TypeId} {u v : Value} {xs : List Value} (h : w.ownsRow base e size v n xs) (hg : w.grownBy w' u.ownBlock) (hu : ∀ g, u.ownBlock = some g → g < base) : w'.ownsRow base e size v n xs := by
  refine ⟨h.1, ?_⟩
  rcases h.2 with hn | ⟨g, cap, cur, rfl, hbg, hgg, rest⟩
  · exact .inl hn
  · exact .inr ⟨g, cap, cur, rfl, hbg, grown_blk hg hgg (fun e => by have := hu g e; omega), rest⟩
theorem own_base {w : World} {base base' size n : Nat} {e : TypeId} {v : Value} {xs : List Value} (h : w.ownsRow base e size v n xs) (hb : base' ≤ base) : w.ownsRow base' e size v n xs := by
  refine ⟨h.1, ?_⟩
  rcases h.2 with hn | ⟨g, cap, cur, rfl, hbg, hgg, rest⟩
  · exact .inl hn
  · exact .inr ⟨g, cap, cur, rfl, Nat.le_trans hb hbg, hgg, rest⟩
theorem own_grown {w w' : World} {base size n : Nat} {e : TypeId} {v : Value} {xs : List Value} {row : Option Nat} (h : w.ownsRow base e size v n xs) (hg : w.grownBy w' row) (hne : v.ownBlock = none ∨ v.ownBlock ≠ row) : w'.ownsRow base e size v n xs := by
  refine ⟨h.1, ?_⟩
  rcases h.2 with hn | ⟨g, cap, cur, rfl, hbg, hgg, rest⟩
  · exact .inl hn
  · refine .inr ⟨g, cap, cur, rfl, hbg, grown_blk hg hgg (fun e => ?_), rest⟩
    rcases hne with h1 | h1
    · cases h1
    · exact h1 e.symm
theorem own_lt {w : World} {base size n : Nat} {e : TypeId} {v : Value} {xs : List Value} (h : w.ownsRow base e size v n xs) : ∀ g, v.ownBlock = some g → g < w.heap.size := fun g hg => (h.lt g hg).2
theorem u8s_one (l : List Int) : ∀ u ∈ u8s l, u.oneCell' = true := by
  intro u hu
  obtain ⟨x, _, rfl⟩ := List.mem_map.1 hu
  rfl
end Go.Proofs.YtokcbdaoofjbgaaDoor
