/- slices.Grow of nil and slices.Concat, at []ScCall. -/
import Derived.Test.YtoogemdcmnjpnaaDoorS10
import Derived.Test.YtoogemdcmnjpnaaDoorApp
import Derived.Lib.AppendZeros
namespace Go.Proofs.YtoogemdcmnjpnaaDoor
open Go.RowKit
set_option maxRecDepth 100000 in
set_option maxHeartbeats 400000 in
theorem growNil (w : World) (n : Nat) (hn : n ≤ 1000000) :
    Calls Tryd.prog 59 #[.slice none 0 0, .int .i64 (n : Int)] w fun e w' => ∃ v, e = .returned v ∧ Below w.heap.size w w' ∧ w'.ownsRow w.heap.size 47 2 v 0 [] := by
  obtain ⟨i, hi, hz0, hz1, hz2⟩ := info_parts scEl.hi
  by_cases h0 : n = 0
  · subst h0
    go_enter Tryd.func59, Tryd.ntmps59
    go_wp2
    go_ret
    exact ⟨_, rfl, Below.refl _ _, World.ownsRow_nil _ _ _ _⟩
  · have hpos : 0 < n := by omega
    have hp' : (0 : Int) < (n : Int) := by omega
    have hr := Lib.run_append_nil_zeros (P := Tryd.prog) w 22 3 22 47 i _ .i64 .i64 Tryd.underlying22 Tryd.underlying3 hi hz0 n hpos (by rw [hz1]; omega) (by omega) (by rw [hz2]; omega)
    have hcap := grownCap_ge w n 0 47
    have hcap2 := grownCap_le_maxLen w n 0 47 (by unfold maxLen; omega)
    clear h0
    go_enter Tryd.func59, Tryd.ntmps59
    go_wp2_with (at_builtin; refine Lib.wpList_append_run _ rfl _ _ _ _ rfl _ _ rfl rfl _ _ hr ?_)
    go_ret
    refine ⟨_, rfl, ?_, ?_⟩
    · exact ((Below.refl _ w).drew).alloc (Nat.le_refl _) _
    · refine World.ownsRow_made w.drew (base := w.heap.size) (size := 2) (e := 47) _ _ (Nat.le_refl _) hcap2 ?_
      rw [Array.size_append, size_zeroCells, size_zeroCells]
      show n * 2 + (grownCap w n 0 _ - n) * 2 = _ * 2
      omega

abbrev Parts := List (Option Addr × Nat × List Sc)
def partV (t : Option Addr × Nat × List Sc) : Value := .slice t.1 t.2.2.length t.2.1
def lens : Parts → Nat
  | [] => 0
  | t :: r => t.2.2.length + lens r
def joins : Parts → List Sc
  | [] => []
  | t :: r => t.2.2 ++ joins r
theorem joins_len (L : Parts) : (joins L).length = lens L := by
  induction L with
  | nil => rfl
  | cons t r ih => simp [joins, lens, ih]
def LenRel (L : Parts) (m k : Nat) : Prop := m + lens (L.drop k) = lens L
def CatRel (L : Parts) (out : List Sc) (k : Nat) : Prop := out ++ joins (L.drop k) = joins L
theorem scs_one (l : List Sc) : ∀ u ∈ scs l, u.oneCell' = true := flat2_one l (fun _ => rfl) (fun _ => rfl)
theorem partAt {w : World} {B k : Nat} {A : Option Addr} {L : Parts} (h : Reads w B 1 A L.length (L.map partV)) (hk : k < L.length) :
    ∃ b off a c s, A = some ⟨b, off, none⟩ ∧ b < B ∧ w.cell? ⟨b, off + k, none⟩ = some (.slice a (List.length s) c) ∧ Hid (L.drop k = (a, c, s) :: L.drop (k + 1)) := by
  obtain ⟨b, off, e, hb, hc⟩ := h.2 (by omega)
  exact ⟨b, off, L[k].1, L[k].2.1, L[k].2.2, e, hb, hc k (partV L[k]) (by simp [hk]), List.drop_eq_getElem_cons hk⟩
set_option maxRecDepth 100000 in
set_option maxHeartbeats 800000 in
theorem concat (w : World) (A : Option Addr) (c : Nat) (L : Parts) (h : Reads w w.heap.size 1 A L.length (L.map partV)) (hr : ∀ t ∈ L, Reads w w.heap.size 2 t.1 t.2.2.length (scs t.2.2)) (hl : lens L ≤ 1000000) (hL : L.length ≤ 1000) :
    Calls Tryd.prog 44 #[.slice A L.length c] w fun e w' => ∃ v, e = .returned v ∧ Below w.heap.size w w' ∧ w'.ownsRow w.heap.size 47 2 v (joins L).length (scs (joins L)) := by
  have Hr := Lib.hid hr
  clear hr
  go_enter Tryd.func44, Tryd.ntmps44
  go_wp2
  go_loop [3, 11] (fun v i => ∃ k m : Nat, k ≤ L.length ∧ i = .int .i64 k ∧ v = .int .i64 m ∧ m ≤ 1000000 ∧ LenRel L m k) (fun _ i => L.length - (intOf i).toNat)
  case atStart => exact ⟨0, 0, Nat.zero_le _, rfl, rfl, by omega, by simp [LenRel]⟩
  case round =>
    obtain ⟨k, m, hk, rfl, rfl, hm, hrel⟩ := hrel
    by_cases hlt : k < L.length
    · obtain ⟨b, off, a1, c1, s1, rfl, hb, d1, hd⟩ := partAt h hlt
      have hm2 : LenRel L (m + s1.length) (k + 1) := by
        unfold LenRel at *
        rw [hd.out, lens] at hrel
        simp only at hrel
        omega
      have hm3 : m + s1.length ≤ 1000000 := by unfold LenRel at hm2; omega
      go_wp2
      go_round
      case rel => exact ⟨k + 1, m + s1.length, by omega, by go_num, by go_num, hm3, hm2⟩
      case measure => simp [intOf]; omega
    · clear hrel
      go_wp2_with fail
      (with_reducible refine (growNil w m hm).mono ?_); rintro e w1 ⟨v1, rfl, hb1, hown1⟩
      go_wp2
      go_loopw [6, 27] (fun v i wr => ∃ (k : Nat) (out : List Sc), k ≤ L.length ∧ i = .int .i64 k ∧ Below w.heap.size w wr ∧ wr.ownsRow w.heap.size 47 2 v out.length (scs out) ∧ CatRel L out k) (fun _ i _ => L.length - (intOf i).toNat)
      case atStart => exact ⟨0, [], Nat.zero_le _, rfl, hb1, hown1, rfl⟩
      case round =>
        clear hown1
        obtain ⟨k, out, hk, rfl, hbl, hown, hrel⟩ := hrel
        by_cases hlt : k < L.length
        · obtain ⟨b, off, a1, c1, s1, rfl, hb, d1, hd⟩ := partAt (h.below hbl) hlt
          have hm2 : CatRel L (out ++ s1) (k + 1) := by
            unfold CatRel at *
            rw [hd.out, joins] at hrel
            rw [List.append_assoc]
            exact hrel
          have hm3 : out.length + s1.length ≤ 1000000 := by
            have e := congrArg List.length hm2
            rw [joins_len, List.length_append, List.length_append] at e
            omega
          have hr1 := (Hr.out (a1, c1, s1) (List.mem_of_mem_drop (by rw [hd.out]; exact List.mem_cons_self))).below hbl
          simp only at hr1
          go_wp2_with (at_builtin; refine wpList_apr scEl hown hbl hr1 (scs_one _) ?_)
          intro v2 w2 hown2 hb2 hg2
          have hown3 : w2.ownsRow w.heap.size 47 2 v2 (out ++ s1).length (scs (out ++ s1)) := by
            rw [List.length_append, scs, flat2_append]
            exact hown2
          clear hown2
          go_wp2
          go_roundw
          case rel => exact ⟨k + 1, out ++ s1, by omega, by go_num, hb2, hown3, hm2⟩
          case measure => simp [intOf]; omega
        · have e : out = joins L := by
            unfold CatRel at hrel
            rw [List.drop_eq_nil_of_le (by omega), joins, List.append_nil] at hrel
            exact hrel
          subst e
          go_wp2
          go_ret
          exact ⟨_, rfl, hbl, hown⟩
theorem concat3 (w : World) (G : Nat) (A1 A2 A3 : Option Addr) (n1 n2 n3 c1 c2 c3 : Nat) (l1 l2 l3 : List Sc) (hG : w.heap[G]? = some (.cells #[.slice A1 n1 c1, .slice A2 n2 c2, .slice A3 n3 c3] 22 (0, 0)))
    (h1 : n1 = l1.length) (h2 : n2 = l2.length) (h3 : n3 = l3.length) (r1 : Reads w w.heap.size 2 A1 n1 (scs l1)) (r2 : Reads w w.heap.size 2 A2 n2 (scs l2)) (r3 : Reads w w.heap.size 2 A3 n3 (scs l3)) (hl : n1 + n2 + n3 ≤ 1000000) :
    Calls Tryd.prog 44 #[.slice (some ⟨G, 0, none⟩) 3 3] w fun e w' => ∃ v, e = .returned v ∧ Below w.heap.size w w' ∧ w'.ownsRow w.heap.size 47 2 v (l1 ++ (l2 ++ l3)).length (scs (l1 ++ (l2 ++ l3))) := by
  subst h1 h2 h3
  have := concat w (some ⟨G, 0, none⟩) 3 [(A1, c1, l1), (A2, c2, l2), (A3, c3, l3)] (reads_blkN (cs := [.slice A1 l1.length c1, .slice A2 l2.length c2, .slice A3 l3.length c3]) hG rfl) (by
    intro t ht
    simp only [List.mem_cons, List.not_mem_nil, or_false] at ht
    rcases ht with rfl | rfl | rfl
    · exact r1
    · exact r2
    · exact r3) (by simp only [lens]; omega) (by simp)
  simp only [joins, List.append_nil] at this
  exact this
end Go.Proofs.YtoogemdcmnjpnaaDoor
