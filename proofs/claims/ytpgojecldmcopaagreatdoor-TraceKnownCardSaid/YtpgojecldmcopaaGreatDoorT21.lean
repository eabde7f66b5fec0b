/- Traces' texts: the reference's parts, split, word; slices.Index at strings. No condition. -/
import Derived.Test.YtpgojecldmcopaaGreatDoorDig
import Derived.Test.YtpgojecldmcopaaGreatDoorShelf
import Derived.Test.YtpgojecldmcopaaGreatDoorT20
import Derived.Deep.DeepCutAuto
namespace Go.Proofs.YtpgojecldmcopaaGreatDoor
open Go.RowKit
theorem pts_end (d : UInt8) : ∀ (l cur : List UInt8), pts d cur (l ++ [d]) = pts d cur l ++ [[]]
  | [], cur => by simp [pts]
  | c :: t, cur => by
    by_cases h : c = d
    · subst h
      rw [List.cons_append, pts_hit, pts_hit, pts_end c t]; rfl
    · rw [List.cons_append, pts_other h, pts_other h, pts_end d t]
theorem drop_last10 {s : ByteArray} (h : s.data.toList.getLast? = some 10) : s.data.toList = s.data.toList.dropLast ++ [10] := by
  obtain ⟨i, e⟩ : ∃ i, s.data.toList = i ++ [10] := List.getLast?_eq_some_iff.1 h
  rw [e]; simp
theorem ext_last (s : ByteArray) : (s.extract 0 (s.size - 1)).data.toList = s.data.toList.dropLast := by
  rw [extList, List.drop_zero, List.dropLast_eq_take]; simp
theorem lnS_pts {s : ByteArray} (h : s.data.toList.getLast? = some 10) : ∃ U, ptsB 10 s = lnS s ++ [U] := by
  refine ⟨mkB [], ?_⟩
  unfold lnS ptsB
  rw [ext_last, drop_last10 h, pts_end]
  simp
theorem lnS_count {s : ByteArray} (h : s.data.toList.getLast? = some 10) : (lnS s).length = s.data.toList.count 10 := by
  unfold lnS ptsB
  rw [List.length_map, pts_len, ext_last]
  conv => rhs; rw [drop_last10 h]
  simp
theorem lnS_sz {s x : ByteArray} (h : x ∈ lnS s) : x.size ≤ s.size := by
  have := ptsB_sz h
  rw [ByteArray.size_extract] at this
  omega
set_option maxRecDepth 100000 in
theorem rword_ (K : Int) (hK : K = 1 ∨ K = 2) (w : World) : Calls Tryz.prog 26 #[.int .i32 K] w fun e w' => e = .returned (.string (kwd K)) ∧ w = w' := by
  rcases hK with rfl | rfl
  all_goals
    go_enter Tryz.func26, Tryz.ntmps26
    go_wp2
    go_ret
    exact ⟨rfl, rfl⟩
/-- the place of a word among those of the kinds -/
def idxK (x : List UInt8) : Int := if x = [] then 0 else if x = wLoad then 1 else if x = wStore then 2 else -1
theorem idxK_kind (x : List UInt8) : (kindL x = 0 ∧ idxK x < 1) ∨ (kindL x = idxK x ∧ 1 ≤ idxK x ∧ idxK x ≤ 2) := by
  unfold idxK kindL
  by_cases h0 : x = []
  · subst h0; exact .inl ⟨by decide, by decide⟩
  rw [if_neg h0]
  by_cases h1 : x = wLoad
  · rw [if_pos h1, if_pos h1]; exact .inr ⟨rfl, by omega, by omega⟩
  rw [if_neg h1, if_neg h1]
  by_cases h2 : x = wStore
  · rw [if_pos h2, if_pos h2]; exact .inr ⟨rfl, by omega, by omega⟩
  rw [if_neg h2, if_neg h2]
  exact .inl ⟨rfl, by omega⟩
def kdS : List ByteArray := [⟨#[]⟩, ⟨#[108, 111, 97, 100]⟩, ⟨#[115, 116, 111, 114, 101]⟩]
theorem bytes_eqL (x : ByteArray) (l : List UInt8) : (⟨l.toArray⟩ : ByteArray) = x ↔ x.data.toList = l := by
  constructor
  · rintro rfl; simp
  · intro h; apply ByteArray.ext; apply Array.toList_inj.1; rw [h]
theorem idxK_lib (x : ByteArray) : Lib.idxOfS kdS x = idxK x.data.toList := by
  unfold kdS Lib.idxOfS idxK
  have h0 := bytes_eqL x []
  have h1 := bytes_eqL x wLoad
  have h2 := bytes_eqL x wStore
  have e0 : (⟨#[]⟩ : ByteArray) = ⟨([] : List UInt8).toArray⟩ := rfl
  have e1 : (⟨#[108, 111, 97, 100]⟩ : ByteArray) = ⟨wLoad.toArray⟩ := rfl
  have e2 : (⟨#[115, 116, 111, 114, 101]⟩ : ByteArray) = ⟨wStore.toArray⟩ := rfl
  rw [e0, e1, e2, Lib.idxFromS, Lib.idxFromS, Lib.idxFromS, Lib.idxFromS]
  by_cases c0 : x.data.toList = []
  · rw [if_pos (h0.2 c0), if_pos c0]; rfl
  rw [if_neg fun e => c0 (h0.1 e), if_neg c0]
  by_cases c1 : x.data.toList = wLoad
  · rw [if_pos (h1.2 c1), if_pos c1]; rfl
  rw [if_neg fun e => c1 (h1.1 e), if_neg c1]
  by_cases c2 : x.data.toList = wStore
  · rw [if_pos (h2.2 c2), if_pos c2]; rfl
  rw [if_neg fun e => c2 (h2.1 e), if_neg c2]
theorem indexK (x : ByteArray) (w : World) (g : Nat) (h : w.heap[g]? = some (.cells #[.string ⟨#[]⟩, .string ⟨#[108, 111, 97, 100]⟩, .string ⟨#[115, 116, 111, 114, 101]⟩] 61 (0, 0))) {v : Int} (hv : Hid (idxK x.data.toList = v)) :
    Calls Tryz.prog 51 #[.slice (some ⟨g, 0, none⟩) 3 3, .string x] w fun e w' => e = .returned (.int .i64 v) ∧ w' = w := by
  have h1 := Tryz.slices_Index_string g 0 3 3 kdS x w (by decide) (by decide) (by
    intro j hj
    rw [Nat.zero_add, Lib.cell_of_heap h]
    have : j = 0 ∨ j = 1 ∨ j = 2 := by simp [kdS] at hj; omega
    rcases this with rfl | rfl | rfl <;> rfl)
  rw [show kdS.take 3 = kdS from rfl, idxK_lib, hv.out] at h1
  exact h1
set_option maxRecDepth 100000 in
set_option maxHeartbeats 2000000 in
theorem rparts06 (s : ByteArray) (w : World) (hs : s.size ≤ 1000000) {L : List ByteArray} (hL : Hid (ptsB 32 s = L)) :
    Calls Tryz.prog 35 #[.string s] w fun e w' => (∃ A cap, e = .returned (.slice A L.length cap) ∧ Reads w' w'.heap.size 1 A L.length (Ssb L) ∧ L.length ≤ cap) ∧ Below w.heap.size w w' := by
  have hl : Hid (ptsB 32 s = L) := hL
  go_enter Tryz.func35, Tryz.ntmps35
  go_wp2
  go_loopw [3, 4, 5] (fun v u i wr => ∃ (k : Nat) (U : ByteArray) (out : List ByteArray), k ≤ s.size ∧ i = .int .i64 k ∧ u = .string U ∧ U.size ≤ k ∧ Below w.heap.size w wr ∧ wr.ownsRow w.heap.size 9 1 v out.length (Ssb out) ∧ out.length ≤ k ∧ Hid (PbRel 32 s k U out)) (fun _ _ i _ => s.size - (intOf i).toNat)
  case atStart => exact ⟨0, ⟨#[]⟩, [], Nat.zero_le _, rfl, rfl, Nat.zero_le _, Below.refl _ _, World.ownsRow_nil _ _ _ _, Nat.zero_le _, Lib.hid (PbRel.start 32 s)⟩
  case round =>
    obtain ⟨k, U, out, hk, rfl, rfl, hU, hbl, hown, hol, hr⟩ := hrel
    by_cases hlt : k < s.size
    case neg =>
      have i1 : ¬ ((k : Int) < (s.size : Int)) := by omega
      have HE := Lib.hid (show L = out ++ [U] by rw [← hl.out]; exact hr.out.done (by omega))
      clear hr hl hL
      go_wp2_with (at_builtin; refine wpList_ap strE3 (hown.alloc _) (ba hbl _) [.string U] (alloc1_new _ _) ?_)
      intro g cap w3 hown3 hb3 hg3
      obtain ⟨A9, c9, hA9, hr9, hc9, hm9⟩ := own_sl hown3
      injection hA9 with a1 a2 a3
      subst a1 a3
      go_wp2
      go_ret
      refine ⟨⟨some ⟨g, 0, none⟩, cap, ?_, ?_, ?_⟩, hb3⟩
      · rw [HE.out, List.length_append]; rfl
      · rw [HE.out, List.length_append]
        have e : Ssb (out ++ [U]) = Ssb out ++ [.string U] := by simp
        rw [e]; exact hr9
      · rw [HE.out, List.length_append]; exact hc9
    case pos =>
    have i1 : (k : Int) < (s.size : Int) := by omega
    by_cases hc : s[k] = 32
    · have m2 : ((s[k].toNat : Int) == 32) = true := by rw [hc]; rfl
      have hr2 := Lib.hid (hr.out.hit hlt hc)
      clear hr hc hl hL
      go_wp2_with (at_builtin; refine wpList_ap strE3 (hown.alloc _) (ba hbl _) [.string U] (alloc1_new _ _) ?_)
      intro g cap w3 hown3 hb3 hg3
      go_wp2
      go_roundw
      case rel => exact ⟨k + 1, ⟨#[]⟩, out ++ [U], by omega, by go_num, rfl, Nat.zero_le _, hb3, by simpa using hown3, by simp; omega, hr2⟩
      case measure => (simp [intOf]) <;> omega
    · have m2 : ((s[k].toNat : Int) == 32) = false := by
        have := u8eqJ (c := s[k]) (d := 32)
        rw [decide_eq_false hc] at this
        exact this
      have hr2 := hr.out.other hlt hc
      obtain ⟨c8, hc8⟩ : ∃ c8, c8 = s[k] := ⟨_, rfl⟩
      rw [← hc8] at hr2
      have hr2 := Lib.hid hr2
      have hcv : (convert 49 9 (.slice (some ⟨wr.heap.size, 0, none⟩) 1 1)).run Tryz.prog (wr.alloc (.cells #[.int .u8 (s[k].toNat : Int)] 5 (0, 0))) = .ok (.string ⟨#[c8]⟩) (wr.alloc (.cells #[.int .u8 (s[k].toNat : Int)] 5 (0, 0))) := by
        have h9 := conv1 (wr.alloc (.cells #[.int .u8 (s[k].toNat : Int)] 5 (0, 0))) wr.heap.size (s[k].toNat : Int) s[k].toNat rfl s[k].toNat_lt (alloc1_new _ _)
        rw [UInt8.ofNat_toNat] at h9
        rw [hc8]; exact h9
      have hown2 := hown.alloc (.cells #[.int .u8 (s[k].toNat : Int)] 5 (0, 0))
      have m3 : ¬ (9223372036854775807 < U.size + 1) := by omega
      clear hr hc hl hL hc8
      go_wp2
      go_roundw
      case rel => exact ⟨k + 1, U ++ ⟨#[c8]⟩, out, by omega, by go_num, rfl, by rw [ByteArray.size_append]; show U.size + 1 ≤ _; omega, ba hbl _, hown2, by omega, hr2⟩
      case measure => (simp [intOf]) <;> omega
set_option maxRecDepth 100000 in
set_option maxHeartbeats 2000000 in
theorem rsplit06 (s : ByteArray) (w : World) (hs : s.size ≤ 1000000) {L : List ByteArray} (hL : Hid (∃ U, ptsB 10 s = L ++ [U])) :
    Calls Tryz.prog 34 #[.string s] w fun e w' => (∃ A cap, e = .returned (.slice A L.length cap) ∧ Reads w' w'.heap.size 1 A L.length (Ssb L) ∧ L.length ≤ cap) ∧ Below w.heap.size w w' := by
  have hl : Hid (∃ U, ptsB 10 s = L ++ [U]) := hL
  go_enter Tryz.func34, Tryz.ntmps34
  go_wp2
  go_loopw [3, 4, 5] (fun v u i wr => ∃ (k : Nat) (U : ByteArray) (out : List ByteArray), k ≤ s.size ∧ i = .int .i64 k ∧ u = .string U ∧ U.size ≤ k ∧ Below w.heap.size w wr ∧ wr.ownsRow w.heap.size 9 1 v out.length (Ssb out) ∧ out.length ≤ k ∧ Hid (PbRel 10 s k U out)) (fun _ _ i _ => s.size - (intOf i).toNat)
  case atStart => exact ⟨0, ⟨#[]⟩, [], Nat.zero_le _, rfl, rfl, Nat.zero_le _, Below.refl _ _, World.ownsRow_nil _ _ _ _, Nat.zero_le _, Lib.hid (PbRel.start 10 s)⟩
  case round =>
    obtain ⟨k, U, out, hk, rfl, rfl, hU, hbl, hown, hol, hr⟩ := hrel
    by_cases hlt : k < s.size
    case neg =>
      have i1 : ¬ ((k : Int) < (s.size : Int)) := by omega
      have HE := Lib.hid (show L = out by
        obtain ⟨V, hV⟩ := hl.out
        have h9 := hr.out.done (by omega)
        rw [h9] at hV
        exact (List.append_inj_left' hV (by simp)).symm)
      clear hr hl hL
      obtain ⟨A9, c9, hA9, hr9, hc9, hm9⟩ := own_sl hown
      subst hA9
      go_wp2
      go_ret
      refine ⟨⟨A9, c9, ?_, ?_, ?_⟩, hbl⟩
      · rw [HE.out]; rfl
      · rw [HE.out]; exact hr9
      · rw [HE.out]; exact hc9
    case pos =>
    have i1 : (k : Int) < (s.size : Int) := by omega
    by_cases hc : s[k] = 10
    · have m2 : ((s[k].toNat : Int) == 10) = true := by rw [hc]; rfl
      have hr2 := Lib.hid (hr.out.hit hlt hc)
      clear hr hc hl hL
      go_wp2_with (at_builtin; refine wpList_ap strE3 (hown.alloc _) (ba hbl _) [.string U] (alloc1_new _ _) ?_)
      intro g cap w3 hown3 hb3 hg3
      go_wp2
      go_roundw
      case rel => exact ⟨k + 1, ⟨#[]⟩, out ++ [U], by omega, by go_num, rfl, Nat.zero_le _, hb3, by simpa using hown3, by simp; omega, hr2⟩
      case measure => (simp [intOf]) <;> omega
    · have m2 : ((s[k].toNat : Int) == 10) = false := by
        have := u8eqJ (c := s[k]) (d := 10)
        rw [decide_eq_false hc] at this
        exact this
      have hr2 := hr.out.other hlt hc
      obtain ⟨c8, hc8⟩ : ∃ c8, c8 = s[k] := ⟨_, rfl⟩
      rw [← hc8] at hr2
      have hr2 := Lib.hid hr2
      have hcv : (convert 49 9 (.slice (some ⟨wr.heap.size, 0, none⟩) 1 1)).run Tryz.prog (wr.alloc (.cells #[.int .u8 (s[k].toNat : Int)] 5 (0, 0))) = .ok (.string ⟨#[c8]⟩) (wr.alloc (.cells #[.int .u8 (s[k].toNat : Int)] 5 (0, 0))) := by
        have h9 := conv1 (wr.alloc (.cells #[.int .u8 (s[k].toNat : Int)] 5 (0, 0))) wr.heap.size (s[k].toNat : Int) s[k].toNat rfl s[k].toNat_lt (alloc1_new _ _)
        rw [UInt8.ofNat_toNat] at h9
        rw [hc8]; exact h9
      have hown2 := hown.alloc (.cells #[.int .u8 (s[k].toNat : Int)] 5 (0, 0))
      have m3 : ¬ (9223372036854775807 < U.size + 1) := by omega
      clear hr hc hl hL hc8
      go_wp2
      go_roundw
      case rel => exact ⟨k + 1, U ++ ⟨#[c8]⟩, out, by omega, by go_num, rfl, by rw [ByteArray.size_append]; show U.size + 1 ≤ _; omega, ba hbl _, hown2, by omega, hr2⟩
      case measure => (simp [intOf]) <;> omega
end Go.Proofs.YtpgojecldmcopaaGreatDoor
