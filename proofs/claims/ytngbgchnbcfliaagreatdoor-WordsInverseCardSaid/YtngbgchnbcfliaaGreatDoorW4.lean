/- words.Unquote; the reference's quoted and Unquote. -/
import Derived.Test.YtngbgchnbcfliaaGreatDoorW3
import Derived.Test.YtngbgchnbcfliaaGreatDoorW2
namespace Go.Proofs.YtngbgchnbcfliaaGreatDoor
open Go.RowKit
theorem unq_le (l : List UInt8) : (unquoteL l).2 ≤ l.length := by
  match l with
  | [] => simp [unquoteL]
  | x :: r =>
    unfold unquoteL
    simp only
    by_cases hx : x = 34
    · rw [if_pos hx]
      rcases hq : unq (r.length + 1) r with _ | ⟨b, k⟩
      · simp
      · obtain ⟨h1, h2⟩ := unq_form hq
        have := congrArg List.length h1
        simp only [List.length_append, List.length_cons] at this ⊢
        omega
    · rw [if_neg hx]; simp
def uqOk (l : List UInt8) : Bool := decide ((unquoteL l).2 ≠ 0) && decide ((unquoteL l).2 = l.length)
/-- what Unquote returns -/
def uqS (l : List UInt8) : ByteArray := if uqOk l = true then ⟨(unquoteL l).1.toArray⟩ else ⟨#[]⟩
def uqE (l : List UInt8) : Int := if uqOk l = true then 0 else 6
theorem uq_yes {l : List UInt8} (h : uqOk l = true) : uqS l = ⟨(unquoteL l).1.toArray⟩ ∧ uqE l = 0 := ⟨if_pos h, if_pos h⟩
theorem uq_no {l : List UInt8} (h : uqOk l = false) : uqS l = ⟨#[]⟩ ∧ uqE l = 6 := by
  unfold uqS uqE; rw [h]; exact ⟨rfl, rfl⟩
theorem ret_us {a b : ByteArray} {k : IntKind} {x y : Int} (h : a = b) (h' : x = y) : Ending.returned (.tuple #[.string a, .int k x]) = .returned (.tuple #[.string b, .int k y]) := by rw [h, h']
theorem unquote' (s : ByteArray) (w : World) (hE : Esc w) (hsz : s.size ≤ 1099511627776) {b : List UInt8} {n : Nat} (h : Hid (unquoteL s.data.toList = (b, n))) :
    Calls Tryz.prog 39 #[.string s] w fun e w' => e = .returned (.tuple #[.string ⟨b.toArray⟩, .int .i64 (n : Int)]) ∧ Below w.heap.size w w' := by
  have := unquote s w hE hsz
  unfold unqV at this
  rw [h.out] at this
  exact this
set_option maxRecDepth 100000 in
set_option maxHeartbeats 400000 in
theorem unquoteW (s : ByteArray) (w : World) (hE : Esc w) (hsz : s.size ≤ 1099511627776) :
    Calls Tryz.prog 13 #[.string s] w fun e w' => e = .returned (.tuple #[.string (uqS s.data.toList), .int .i64 (uqE s.data.toList)]) ∧ Below w.heap.size w w' := by
  rcases hq : unquoteL s.data.toList with ⟨b, n⟩
  have hle := unq_le s.data.toList
  have hsl : s.data.toList.length = s.size := by simp
  rw [hq, hsl] at hle
  simp only at hle
  have Hq := Lib.hid hq
  by_cases hn : n = 0
  · have m1 : ((n : Int) == 0) = true := by simp [hn]
    have hR := Lib.hid (uq_no (l := s.data.toList) (by unfold uqOk; rw [hq]; simp [hn]))
    clear hq hsl hn
    go_enter Tryz.func13, Tryz.ntmps13
    go_wp2_with fail
    (with_reducible refine (unquote' s w hE hsz Hq).mono ?_); rintro e w1 ⟨rfl, hb1⟩
    go_wp2
    go_ret2
    exact ⟨ret_us (by rw [hR.out.1]) (by rw [hR.out.2]), hb1⟩
  have m1 : ((n : Int) == 0) = false := by rw [beq_eq_false_iff_ne]; omega
  by_cases hns : n = s.size
  · have m2 : s.size ≤ n := by omega
    have hR := Lib.hid (uq_yes (l := s.data.toList) (by unfold uqOk; rw [hq, hsl]; simp only [Bool.and_eq_true, decide_eq_true_eq]; exact ⟨by omega, hns⟩))
    rw [hq] at hR
    clear hq hsl hn hns
    go_enter Tryz.func13, Tryz.ntmps13
    go_wp2_with fail
    (with_reducible refine (unquote' s w hE hsz Hq).mono ?_); rintro e w1 ⟨rfl, hb1⟩
    go_wp2
    go_ret2
    exact ⟨ret_us (by rw [hR.out.1]) (by rw [hR.out.2]), hb1⟩
  · have m2 : n < s.size := by omega
    have hR := Lib.hid (uq_no (l := s.data.toList) (by unfold uqOk; rw [hq, hsl]; simp [hns]))
    clear hq hsl hn hns
    go_enter Tryz.func13, Tryz.ntmps13
    go_wp2_with fail
    (with_reducible refine (unquote' s w hE hsz Hq).mono ?_); rintro e w1 ⟨rfl, hb1⟩
    go_wp2
    go_ret2
    exact ⟨ret_us (by rw [hR.out.1]) (by rw [hR.out.2]), hb1⟩

/-- the search for the byte whose form stands here -/
def Seek (R : List UInt8) (out out' : List UInt8) (a a' : Nat) (found : Bool) (c : Nat) : Prop :=
  (found = false ∧ out' = out ∧ a' = a ∧ ∀ d, d < c → ¬ escB (UInt8.ofNat d) <+: R) ∨ (found = true ∧ ∃ d n, headQ R = some (d, n) ∧ out' = out ++ [d] ∧ a' = a + n)
theorem headQ_pre {R : List UInt8} {c : UInt8} (h : escB c <+: R) : headQ R = some (c, (escB c).length) := by
  obtain ⟨t, rfl⟩ := h
  exact headQ_esc c t
theorem headQ_nopre {R : List UInt8} (h : ∀ d, d < 256 → ¬ escB (UInt8.ofNat d) <+: R) : headQ R = none := by
  rcases hh : headQ R with _ | ⟨c, n⟩
  · rfl
  · obtain ⟨h1, _⟩ := headQ_form hh
    have hh2 := h c.toNat c.toNat_lt
    rw [UInt8.ofNat_toNat] at hh2
    exact absurd ⟨_, h1.symm⟩ hh2
theorem ext_list2 (s : ByteArray) (a b : Nat) : (s.extract a b).data.toList = (s.data.toList.drop a).take (b - a) := by
  rw [ByteArray.data_extract, Array.toList_extract]
theorem ext_pre {s f : ByteArray} {a : Nat} (h : f.data.toList <+: s.data.toList.drop a) (ha : a ≤ s.size) : a + f.size ≤ s.size ∧ s.extract a (a + f.size) = f := by
  have h1 := h.length_le
  have h2 : f.data.toList.length = f.size := by simp
  have h3 : s.data.toList.length = s.size := by simp
  rw [List.length_drop] at h1
  refine ⟨by omega, ?_⟩
  apply ByteArray.ext
  apply Array.toList_inj.1
  rw [ext_list2, show a + f.size - a = f.data.toList.length by omega]
  exact (List.prefix_iff_eq_take.1 h).symm
theorem pre_ext {s f : ByteArray} {a : Nat} (h : s.extract a (a + f.size) = f) : f.data.toList <+: s.data.toList.drop a := by
  have := congrArg (fun b : ByteArray => b.data.toList) h
  rw [ext_list2] at this
  rw [← this]
  exact List.take_prefix _ _
theorem beq_list {a b : ByteArray} : (a.toList == b.toList) = decide (a = b) := by
  have e : (a.toList = b.toList) ↔ a = b := ⟨fun h => by rw [ByteArray.toList_eq, ByteArray.toList_eq] at h; exact ByteArray.ext (Array.toList_inj.1 h), fun h => by rw [h]⟩
  rw [Bool.eq_iff_iff]
  simp [e]
end Go.Proofs.YtngbgchnbcfliaaGreatDoor
