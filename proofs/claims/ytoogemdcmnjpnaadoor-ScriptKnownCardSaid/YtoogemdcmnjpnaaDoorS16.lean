/- Plain laws of scripts: cut, join, streams, totals, shapes. No program. -/
import Derived.Test.YtoogemdcmnjpnaaDoorS15
namespace Go.Proofs.YtoogemdcmnjpnaaDoor
open Go.RowKit
theorem ext_app (s : ByteArray) (a : Nat) (h : a ≤ s.size) : s.extract 0 a ++ s.extract a s.size = s := by
  apply ByteArray.ext
  rw [ByteArray.data_append, ByteArray.data_extract, ByteArray.data_extract, Array.extract_append_extract]
  have e : s.size = s.data.size := rfl
  rw [Nat.min_eq_left (Nat.zero_le _), Nat.max_eq_right h, e, Array.extract_size]
theorem ext_size1 (s : ByteArray) (a : Nat) (h : a ≤ s.size) : (s.extract 0 a).size = a := by rw [ByteArray.size_extract]; omega
theorem ext_size2 (s : ByteArray) (a : Nat) : (s.extract a s.size).size = s.size - a := by rw [ByteArray.size_extract]; omega
theorem scErr_iff {x : Sc} : scErr x = 0 ↔ 1 ≤ x.1 ∧ x.1 ≤ 4 ∧ x.2.size ≤ 1100 ∧ (x.1 ≠ 1 → x.2.size = 0) := by
  unfold scErr
  by_cases h1 : x.1 < 1 ∨ 4 < x.1
  · rw [if_pos h1]; constructor
    · intro h; cases h
    · omega
  · rw [if_neg h1]
    by_cases h2 : 1100 < x.2.size
    · rw [if_pos h2]; constructor
      · intro h; cases h
      · omega
    · rw [if_neg h2]
      by_cases h3 : x.1 ≠ 1 ∧ x.2.size ≠ 0
      · rw [if_pos h3]; constructor
        · intro h; cases h
        · omega
      · rw [if_neg h3]; simp only [true_iff]; omega
theorem chkFrom_iff (l : List Sc) (i : Nat) : (chkFrom i l).2 = 0 ↔ ∀ x ∈ l, scErr x = 0 := by
  constructor
  · exact chkFrom_ok
  · intro h
    induction l generalizing i with
    | nil => rfl
    | cons x r ih => rw [chkFrom, if_pos (h x (by simp))]; exact ih _ fun y hy => h y (by simp [hy])
theorem chk_iff (l : List Sc) : (chk l).2 = 0 ↔ l.length ≤ 200 ∧ ∀ x ∈ l, scErr x = 0 := by
  constructor
  · intro h; exact ⟨chk_len h, chk_ok h⟩
  · intro ⟨h1, h2⟩
    unfold chk
    rw [if_neg (by omega)]
    exact (chkFrom_iff l 0).2 h2
theorem bytesOf_app (l m : List Sc) : bytesOf (l ++ m) = bytesOf l + bytesOf m := by
  induction l with
  | nil => simp [bytesOf]
  | cons x r ih => simp [bytesOf, ih]; omega
theorem split_at {l : List Sc} {k : Nat} (h : k < l.length) : l = l.take k ++ atK l k :: l.drop (k + 1) := by
  have e : atK l k = l[k] := by unfold atK; rw [List.getD_eq_getElem?_getD, List.getElem?_eq_getElem h]; rfl
  rw [e, ← List.drop_eq_getElem_cons h, List.take_append_drop]
/-- what is known where a cut comes through -/
theorem cutErr_zero {l : List Sc} {k a : Int} (h : cutErr l k a = 0) : ∃ n m : Nat, k = n ∧ a = m ∧ (chk l).2 = 0 ∧ n < l.length ∧ (atK l n).1 = 1 ∧ m ≤ (atK l n).2.size ∧ l.length < 200 := by
  unfold cutErr at h
  by_cases h0 : (chk l).2 = 0
  case neg => rw [if_pos h0] at h; exact absurd h h0
  rw [if_neg (by simpa using h0)] at h
  by_cases h1 : k < 0 ∨ (l.length : Int) ≤ k
  · rw [if_pos h1] at h; cases h
  rw [if_neg h1] at h
  by_cases h2 : (atK l k.toNat).1 = 1
  case neg => rw [if_pos h2] at h; cases h
  rw [if_neg (by simpa using h2)] at h
  by_cases h3 : a < 0 ∨ ((atK l k.toNat).2.size : Int) < a
  · rw [if_pos h3] at h; cases h
  rw [if_neg h3] at h
  by_cases h4 : l.length = 200
  · rw [if_pos h4] at h; cases h
  have := chk_len h0
  refine ⟨k.toNat, a.toNat, by omega, by omega, h0, by omega, h2, by omega, by omega⟩
theorem joinErr_zero {l : List Sc} {k : Int} (h : joinErr l k = 0) : ∃ n : Nat, k = n ∧ (chk l).2 = 0 ∧ n + 1 < l.length ∧ (atK l n).1 = 1 ∧ (atK l (n + 1)).1 = 1 ∧ (atK l n).2.size + (atK l (n + 1)).2.size ≤ 1100 := by
  unfold joinErr at h
  by_cases h0 : (chk l).2 = 0
  case neg => rw [if_pos h0] at h; exact absurd h h0
  rw [if_neg (by simpa using h0)] at h
  by_cases h1 : k < 0 ∨ (l.length : Int) - 2 < k
  · rw [if_pos h1] at h; cases h
  rw [if_neg h1] at h
  by_cases h2 : (atK l k.toNat).1 ≠ 1 ∨ (atK l (k.toNat + 1)).1 ≠ 1
  · rw [if_pos h2] at h; cases h
  rw [if_neg h2] at h
  by_cases h3 : (1100 : Int) < (atK l k.toNat).2.size + (atK l (k.toNat + 1)).2.size
  · rw [if_pos h3] at h; cases h
  refine ⟨k.toNat, by omega, h0, by omega, by omega, by omega, by omega⟩
theorem atK_mid {P R : List Sc} {x : Sc} {k : Nat} (h : P.length = k) : atK (P ++ x :: R) k = x := by
  subst h; unfold atK; simp
theorem atK_mid2 {P R : List Sc} {x y : Sc} {k : Nat} (h : P.length = k) : atK (P ++ x :: y :: R) (k + 1) = y := by
  subst h; unfold atK; rw [List.getD_eq_getElem?_getD, List.getElem?_append_right (by omega)]; simp
theorem drop_mid (P : List Sc) (x : Sc) (R : List Sc) {k : Nat} (h : P.length = k) : (P ++ x :: R).drop (k + 1) = R := by
  subst h
  induction P with
  | nil => rfl
  | cons y r ih => simp
theorem streamsFrom_swap {Q Q' : List Sc} (h : ∀ c, streamsFrom c Q = streamsFrom c Q') : ∀ (P : List Sc) (c : ByteArray), streamsFrom c (P ++ Q) = streamsFrom c (P ++ Q')
  | [], c => h c
  | x :: r, c => by
    simp only [List.cons_append, streamsFrom]
    by_cases h4 : x.1 = 4
    · rw [if_pos h4, if_pos h4]
    · rw [if_neg h4, if_neg h4]
      by_cases h3 : x.1 = 3
      · rw [if_pos h3, if_pos h3, streamsFrom_swap h r]
      · rw [if_neg h3, if_neg h3, streamsFrom_swap h r]
theorem streams_two {a b : ByteArray} {R : List Sc} (c : ByteArray) : streamsFrom c ((1, a) :: (1, b) :: R) = streamsFrom c ((1, a ++ b) :: R) := by
  simp [streamsFrom, ByteArray.append_assoc]
/-- a feed of two parts, or two feeds -/
structure Two (l c : List Sc) (n : Nat) (a b : ByteArray) : Prop where
  len : n < l.length
  one : l = l.take n ++ (1, a ++ b) :: l.drop (n + 1)
  two : c = l.take n ++ (1, a) :: (1, b) :: l.drop (n + 1)
  okl : (chk l).2 = 0
  okc : (chk c).2 = 0
theorem two_of_cut {l : List Sc} {k a : Int} (h : cutErr l k a = 0) : ∃ n m : Nat, k = n ∧ a = m ∧ m ≤ (atK l n).2.size ∧ Two l (cut l k a) n ((atK l n).2.extract 0 m) ((atK l n).2.extract m (atK l n).2.size) := by
  obtain ⟨n, m, rfl, rfl, h0, hn, h1, hm, hl⟩ := cutErr_zero h
  refine ⟨n, m, rfl, rfl, hm, hn, ?_, ?_, h0, ?_⟩
  · rw [ext_app _ _ hm, ← h1]
    exact split_at hn
  · rw [cut_pos h, cutOk, Int.toNat_natCast, Int.toNat_natCast]
  · rw [cut_pos h, cutOk, Int.toNat_natCast, Int.toNat_natCast, chk_iff]
    obtain ⟨_, hall⟩ := (chk_iff l).1 h0
    refine ⟨by simp; omega, fun x hx => ?_⟩
    have hx0 := scErr_iff.1 (hall (atK l n) (by rw [split_at hn]; simp [atK_mid (show (l.take n).length = n by simp; omega)]))
    rcases List.mem_append.1 hx with hx | hx
    · exact hall x (List.mem_of_mem_take hx)
    · rcases List.mem_cons.1 hx with rfl | hx
      · rw [scErr_iff]; simp only [ext_size1 _ _ hm]; omega
      · rcases List.mem_cons.1 hx with rfl | hx
        · rw [scErr_iff]; simp only [ext_size2]; omega
        · exact hall x (List.mem_of_mem_drop hx)
theorem two_of_join {l : List Sc} {k : Int} (h : joinErr l k = 0) : ∃ n : Nat, k = n ∧ Two (join l k) l n (atK l n).2 (atK l (n + 1)).2 := by
  obtain ⟨n, rfl, h0, hn, h1, h2, hs⟩ := joinErr_zero h
  have e1 := split_at (show n < l.length by omega)
  have e2 : l.drop (n + 1) = atK l (n + 1) :: l.drop (n + 1 + 1) := by
    have e : atK l (n + 1) = l[n + 1] := by unfold atK; rw [List.getD_eq_getElem?_getD, List.getElem?_eq_getElem hn]; rfl
    rw [e]; exact List.drop_eq_getElem_cons hn
  have ej : join l n = l.take n ++ (1, (atK l n).2 ++ (atK l (n + 1)).2) :: l.drop (n + 2) := by rw [join_pos h, joinOk, Int.toNat_natCast]
  have ht : (l.take n).length = n := by simp; omega
  obtain ⟨hl, hall⟩ := (chk_iff l).1 h0
  have htk : (join l n).take n = l.take n := by rw [ej]; exact List.take_left' ht
  have hdr : (join l n).drop (n + 1) = l.drop (n + 2) := by rw [ej]; exact drop_mid _ _ _ ht
  have e3 : atK l n = (1, (atK l n).2) := by rw [← h1]
  have e4 : atK l (n + 1) = (1, (atK l (n + 1)).2) := by rw [← h2]
  refine ⟨n, rfl, by rw [ej, List.length_append, ht, List.length_cons]; omega, ?_, ?_, ?_, h0⟩
  · rw [htk, hdr]; exact ej
  · rw [htk, hdr, ← e3, ← e4, ← e2]; exact e1
  · rw [ej, chk_iff]
    refine ⟨by rw [List.length_append, ht, List.length_cons, List.length_drop]; omega, fun x hx => ?_⟩
    rcases List.mem_append.1 hx with hx | hx
    · exact hall x (List.mem_of_mem_take hx)
    · rcases List.mem_cons.1 hx with rfl | hx
      · rw [scErr_iff]; simp only [ByteArray.size_append]; omega
      · exact hall x (List.mem_of_mem_drop hx)
theorem arr_right (x y : Array UInt8) : (x ++ y).extract x.size (x.size + y.size) = y := by
  apply Array.toList_inj.1
  simp
section
variable {l c : List Sc} {n : Nat} {a b : ByteArray}
theorem Two.streams (h : Two l c n a b) : streams c = streams l := by
  rw [streams_pos h.okl, streams_pos h.okc, h.two]
  conv => rhs; rw [h.one]
  exact streamsFrom_swap streams_two _ _
theorem Two.bytes (h : Two l c n a b) : bytesOf c = bytesOf l := by
  rw [h.two]
  conv => rhs; rw [h.one]
  simp only [bytesOf_app, bytesOf, ByteArray.size_append]
  omega
theorem Two.total (h : Two l c n a b) : total c = total l := by
  unfold Go.Proofs.YtoogemdcmnjpnaaDoor.total
  rw [if_pos h.okl, if_pos h.okc, h.bytes]
theorem Two.take_len (h : Two l c n a b) : (l.take n).length = n := by have := h.len; simp; omega
theorem Two.atl (h : Two l c n a b) : atK l n = (1, a ++ b) := by
  have := atK_mid (R := l.drop (n + 1)) (x := (1, a ++ b)) h.take_len
  rwa [← h.one] at this
theorem Two.atc (h : Two l c n a b) : atK c n = (1, a) := by
  have := atK_mid (R := (1, b) :: l.drop (n + 1)) (x := (1, a)) h.take_len
  rwa [← h.two] at this
theorem Two.atc2 (h : Two l c n a b) : atK c (n + 1) = (1, b) := by
  have := atK_mid2 (R := l.drop (n + 1)) (x := (1, a)) (y := (1, b)) h.take_len
  rwa [← h.two] at this
theorem Two.length (h : Two l c n a b) : c.length = l.length + 1 := by
  have := h.len
  rw [h.two]; simp; omega
/-- the joined script -/
theorem Two.joined (h : Two l c n a b) : joinErr c n = 0 ∧ join c n = l := by
  have hmem : ((1, a ++ b) : Sc) ∈ l := by
    have : ((1, a ++ b) : Sc) ∈ l.take n ++ (1, a ++ b) :: l.drop (n + 1) := by simp
    rwa [← h.one] at this
  have hx := scErr_iff.1 (((chk_iff l).1 h.okl).2 (1, a ++ b) hmem)
  simp only [ByteArray.size_append] at hx
  have hn := h.len
  have hl := h.length
  have e : joinErr c n = 0 := by
    unfold joinErr
    rw [if_neg (by simpa using h.okc), if_neg (by omega), Int.toNat_natCast, h.atc, h.atc2, if_neg (by simp), if_neg (by simp only; omega)]
  refine ⟨e, ?_⟩
  rw [join_pos e, joinOk, Int.toNat_natCast, h.atc, h.atc2]
  have h1 : c.take n = l.take n := by rw [h.two]; exact List.take_left' h.take_len
  have h2 : c.drop (n + 2) = l.drop (n + 1) := by
    have := drop_mid (l.take n ++ [(1, a)]) (1, b) (l.drop (n + 1)) (k := n + 1) (by rw [List.length_append, h.take_len]; rfl)
    rw [h.two]
    rw [show l.take n ++ [(1, a)] ++ (1, b) :: l.drop (n + 1) = l.take n ++ (1, a) :: (1, b) :: l.drop (n + 1) by simp] at this
    exact this
  rw [h1, h2]
  exact h.one.symm
/-- the cut script -/
theorem Two.cutted (h : Two l c n a b) (hl : l.length < 200) : cutErr l n a.size = 0 ∧ cut l n a.size = c := by
  have hn := h.len
  have e : cutErr l n a.size = 0 := by
    unfold cutErr
    rw [if_neg (by simpa using h.okl), if_neg (by omega), Int.toNat_natCast, h.atl, if_neg (by simp), if_neg (by simp only [ByteArray.size_append]; omega), if_neg (by omega)]
  refine ⟨e, ?_⟩
  rw [cut_pos e, cutOk, Int.toNat_natCast, Int.toNat_natCast, h.atl, h.two]
  have e1 : (a ++ b).extract 0 a.size = a := by
    apply ByteArray.ext
    rw [ByteArray.data_extract, ByteArray.data_append]
    show (a.data ++ b.data).extract 0 a.data.size = a.data
    simp
  have e2 : (a ++ b).extract a.size (a ++ b).size = b := by
    apply ByteArray.ext
    rw [ByteArray.data_extract, ByteArray.data_append, ByteArray.size_append]
    show (a.data ++ b.data).extract a.data.size (a.data.size + b.data.size) = b.data
    exact arr_right _ _
  simp only [e1, e2]
end
def sumSz : List ByteArray → Nat
  | [] => 0
  | s :: r => s.size + sumSz r
theorem sum_streams : ∀ (l : List Sc) (c : ByteArray), sumSz (streamsFrom c l) ≤ c.size + bytesOf l ∧ ((∀ x ∈ l, x.1 ≠ 4) → sumSz (streamsFrom c l) = c.size + bytesOf l)
  | [], c => by simp [streamsFrom, sumSz, bytesOf]
  | x :: r, c => by
    rw [streamsFrom, bytesOf]
    by_cases h4 : x.1 = 4
    · rw [if_pos h4]
      refine ⟨by simp [sumSz], fun h => absurd h4 (h x (by simp))⟩
    · rw [if_neg h4]
      by_cases h3 : x.1 = 3
      · rw [if_pos h3, sumSz]
        obtain ⟨h1, h2⟩ := sum_streams r x.2
        exact ⟨by omega, fun h => by have := h2 (fun y hy => h y (by simp [hy])); omega⟩
      · rw [if_neg h3]
        obtain ⟨h1, h2⟩ := sum_streams r (c ++ x.2)
        rw [ByteArray.size_append] at h1 h2
        exact ⟨by omega, fun h => by have := h2 (fun y hy => h y (by simp [hy])); omega⟩
theorem bytes_all : ∀ (l : List Sc), (∀ x ∈ l, scErr x = 0) → bytesOf l ≤ l.length * 1100
  | [], _ => by simp [bytesOf]
  | x :: r, h => by
    have h1 := scErr_iff.1 (h x (by simp))
    have h2 := bytes_all r (fun y hy => h y (by simp [hy]))
    rw [bytesOf, List.length_cons]
    omega
theorem bytes_le {l : List Sc} (h : (chk l).2 = 0) : bytesOf l ≤ 220000 := by
  have h1 := bytes_all l (chk_ok h)
  have h2 := chk_len h
  omega
end Go.Proofs.YtoogemdcmnjpnaaDoor
