/- Traces' texts: the contracts as the laws use them. No condition. -/
import Derived.Test.YtpgojecldmcopaaGreatDoorT24
import Derived.Test.YtpgojecldmcopaaGreatDoorT27
import Derived.Test.YtpgojecldmcopaaGreatDoorT16
namespace Go.Proofs.YtpgojecldmcopaaGreatDoor
open Go.RowKit
theorem far_no {n : Nat} (h : Hid (false = decide (400 < n ∧ n ≤ 5000 ∨ 5100 < n))) : n ≤ 5100 := by
  have := of_decide_eq_false h.out.symm
  omega
theorem printQ (w : World) (A : Option Addr) (c : Nat) (l : List Ev) (T : ByteArray) (E : Int) (hT : Hid (prS l = T ∧ prE l = E)) (h : Reads w w.heap.size 2 A l.length (evs l)) (hc : l.length ≤ c) (ho : Ok32 l) (hl : l.length ≤ 9223372036854775807) (hP : Pow w) :
    Calls Tryz.prog 8 #[.slice A l.length c] w fun e w' => e = .returned (.tuple #[.string T, .int .i64 E]) ∧ Below w.heap.size w w' := by
  have := print_any w A c l h hc ho hl hP
  rw [hT.out.1, hT.out.2] at this
  exact this
theorem rprintQ (w : World) (A : Option Addr) (c : Nat) (l : List Ev) (T : ByteArray) (E : Int) (hT : Hid (prS l = T ∧ prE l = E)) (h : Reads w w.heap.size 2 A l.length (evs l)) (ho : Ok32 l) (hl : l.length ≤ 9223372036854775807) :
    Calls Tryz.prog 9 #[.slice A l.length c] w fun e w' => e = .returned (.tuple #[.string T, .int .i64 E]) ∧ Below w.heap.size w w' := by
  have := rprint06 w A c l h ho hl
  rw [hT.out.1, hT.out.2] at this
  exact this
abbrev RetTq (w : World) (m : List Ev) (k er : Int) (e : Ending) (w' : World) : Prop := ∃ A c, e = .returned (.tuple #[.slice A m.length c, .int .i64 k, .int .i64 er]) ∧ Below w.heap.size w w' ∧ Reads w' w'.heap.size 2 A m.length (evs m) ∧ m.length ≤ c ∧ c ≤ 9223372036854775807
theorem parseQ (s : ByteArray) (w : World) (m : List Ev) (k : Nat) (er : Int) (hq : Hid (psT s = (m, k, er))) (hM : ML w) (hR : ER w) (hs : s.size ≤ 1000000) : Calls Tryz.prog 10 #[.string s] w (RetTq w m k er) := by
  have := tparse s w hM hR hs
  rw [hq.out] at this
  exact this
theorem rparseQ (s : ByteArray) (w : World) (m : List Ev) (k : Nat) (er : Int) (hq : Hid (psT s = (m, k, er))) (hs : s.size ≤ 1000000) : Calls Tryz.prog 11 #[.string s] w (RetTq w m k er) := by
  have := rparse06 s w hs
  rw [hq.out] at this
  exact this
theorem sameQ (w : World) (B B' : Nat) (A A' : Option Addr) (c c' : Nat) (l : List Ev) (h : Reads w B 2 A l.length (evs l)) (h' : Reads w B' 2 A' l.length (evs l)) (hl : l.length ≤ 9223372036854775807) :
    Calls Tryz.prog 12 #[.slice A l.length c, .slice A' l.length c'] w fun e w' => e = .returned (.bool true) ∧ Below w.heap.size w w' := by
  have := same_any w B B' A A' c c' l l h h' hl
  rw [decide_eq_true rfl] at this
  exact this
theorem rnTx_len {x : Ev × Nat} (h : OkRn x) : (rnTx x).length ≤ 50 := by
  obtain ⟨h1, h2, h3, h4⟩ := h
  exact rnB_size ⟨x, h1, ⟨h2, by omega⟩, by omega⟩
theorem prTx_len' : ∀ (L : List (Ev × Nat)), (∀ x ∈ L, OkRn x) → (prTx L).length ≤ 50 * L.length
  | [], _ => by simp [prTx]
  | x :: r, h => by
    have h1 := rnTx_len (h x List.mem_cons_self)
    have h2 := prTx_len' r (fun y hy => h y (List.mem_cons_of_mem _ hy))
    have e : prTx (x :: r) = rnTx x ++ prTx r := by simp [prTx]
    rw [e, List.length_append, List.length_cons]
    omega
/-- Print has answered: Parse of the text is the trace -/
theorem back_of {l : List Ev} {T : ByteArray} (h : prS l = T ∧ prE l = 0) : psT T = (l, 0, 0) ∧ T.size ≤ 1000000 := by
  by_cases hck : (chkT l 65536).2 = 0
  · by_cases hn : 5000 < (runsT l).length
    · rw [(prE_many hck hn).1] at h; exact absurd h.2 (by decide)
    · have hc := chkT_zero hck
      have h1 := (prE_ok hck hn).2
      rw [h.1] at h1
      obtain ⟨_, hok⟩ := okR_of hc
      have hz : (prT l).length ≤ 50 * (runsT l).length := prTx_len' _ (runs_ok _ l (Nat.le_refl _) hok).2.1
      subst h1
      exact ⟨ps_prT hc (by omega) (by omega), by show (prT l).length ≤ _; omega⟩
  · rw [(prE_bad hck).1] at h; exact absurd h.2 hck
theorem ok_of_chk {m : List Ev} (h : chkT m 65536 = (0, 0)) : Ok32 m ∧ m.length ≤ 8388608 := by
  obtain ⟨h1, h2⟩ := okR_of h
  refine ⟨fun x hx => ?_, h1⟩
  obtain ⟨h3, h4, h5⟩ := h2 x hx
  unfold In32
  omega
/-- Parse has accepted: Print of the trace is the text -/
theorem forth_of {s : ByteArray} {m : List Ev} {k : Nat} (h : psT s = (m, k, 0)) : (prS m = s ∧ prE m = 0) ∧ chkT m 65536 = (0, 0) := by
  obtain ⟨h1, h2, h3, _⟩ := pr_psT (s := s) (by rw [h])
  rw [h] at h1 h2 h3
  simp only at h1 h2 h3
  have h4 : (chkT m 65536).2 = 0 := by rw [h2]
  obtain ⟨h5, h6⟩ := prE_ok (l := m) h4 (by omega)
  exact ⟨⟨h6.trans h1, h5⟩, h2⟩
end Go.Proofs.YtpgojecldmcopaaGreatDoor
