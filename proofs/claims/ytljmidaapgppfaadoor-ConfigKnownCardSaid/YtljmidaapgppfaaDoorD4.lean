/- Configurations' texts: parts of the reference. No condition. -/
import Derived.Test.YtljmidaapgppfaaDoorSp
import Derived.Test.YtljmidaapgppfaaDoorN16
namespace Go.Proofs.YtljmidaapgppfaaDoor
open Go.RowKit
theorem strE3 : Elem Tryd.prog 48 9 (.string ⟨#[]⟩) 1 16 := ⟨Tryd.underlying48, by kernel_rfl, rfl, by decide⟩
/-- pieces while a string is walked byte by byte -/
def PbRel (d : UInt8) (s : ByteArray) (k : Nat) (U : ByteArray) (out : List ByteArray) : Prop := ptsB d s = out ++ (pts d U.data.toList (s.data.toList.drop k)).map mkB
theorem PbRel.start (d : UInt8) (s : ByteArray) : PbRel d s 0 ⟨#[]⟩ [] := rfl
theorem PbRel.hit {d : UInt8} {s U : ByteArray} {k : Nat} {out : List ByteArray} (h : PbRel d s k U out) (hk : k < s.size) (hc : s[k] = d) : PbRel d s (k + 1) ⟨#[]⟩ (out ++ [U]) := by
  unfold PbRel at h ⊢
  rw [h, dropByte hk, hc, pts_hit, List.map_cons, mkB_back, List.append_assoc]
  rfl
theorem PbRel.other {d : UInt8} {s U : ByteArray} {k : Nat} {out : List ByteArray} (h : PbRel d s k U out) (hk : k < s.size) (hc : s[k] ≠ d) : PbRel d s (k + 1) (U ++ ⟨#[s[k]]⟩) out := by
  unfold PbRel at h ⊢
  rw [h, dropByte hk, pts_other hc, ByteArray.data_append, Array.toList_append]
theorem PbRel.done {d : UInt8} {s U : ByteArray} {k : Nat} {out : List ByteArray} (h : PbRel d s k U out) (hk : s.size ≤ k) : ptsB d s = out ++ [U] := by
  unfold PbRel at h
  have hl : s.data.toList.length = s.size := rfl
  rw [h, List.drop_eq_nil_of_le (by omega)]
  show out ++ [mkB _] = _
  rw [mkB_back]
theorem u8eqJ {c d : UInt8} : ((c.toNat : Int) == (d.toNat : Int)) = decide (c = d) := by
  rw [Bool.eq_iff_iff, beq_iff_eq, decide_eq_true_eq]
  constructor
  · intro h; apply UInt8.toNat_inj.1; omega
  · intro h; subst h; rfl
set_option maxRecDepth 100000 in
set_option maxHeartbeats 2000000 in
theorem rparts28 (s : ByteArray) (w : World) (hs : s.size ≤ 1000000) {L : List ByteArray} (hL : Hid (ptsB 32 s = L)) :
    Calls Tryd.prog 23 #[.string s] w fun e w' => (∃ A cap, e = .returned (.slice A L.length cap) ∧ Reads w' w'.heap.size 1 A L.length (Ssb L) ∧ L.length ≤ cap) ∧ Below w.heap.size w w' := by
  have hl : Hid (ptsB 32 s = L) := hL
  go_enter Tryd.func23, Tryd.ntmps23
  go_wp2
  go_loopw [3, 4, 5] (fun v u i wr => ∃ (k : Nat) (U : ByteArray) (out : List ByteArray), k ≤ s.size ∧ i = .int .i64 k ∧ u = .string U ∧ U.size ≤ k ∧ Below w.heap.size w wr ∧ wr.ownsRow w.heap.size 9 1 v out.length (Ssb out) ∧ out.length ≤ k ∧ Hid (PbRel 32 s k U out)) (fun _ _ i _ => s.size - (intOf i).toNat)
  case atStart => exact ⟨0, ⟨#[]⟩, [], Nat.zero_le _, rfl, rfl, Nat.zero_le _, Below.refl _ _, World.ownsRow_nil _ _ _ _, Nat.zero_le _, Lib.hid (PbRel.start 32 s)⟩
  case round =>
    obtain ⟨k, U, out, hk, rfl, rfl, hU, hbl, hown, hol, hr⟩ := hrel
    by_cases hlt : k < s.size
    case neg =>
      have i1 : ¬ ((k : Int) < (s.size : Int)) := by omega
      have HE := Lib.hid (show L = out ++ [U] by rw [← hl.out]; exact hr.out.done (by omega))
      clear hr hl hL
      go_wp2_with (at_builtin; refine wpList_ap strE3 (hown.alloc _) (ba hbl _) [.string U] (alloc1_new _ _) ?_)
      intro g cap w3 hown3 hb3 hg3
      obtain ⟨A9, c9, hA9, hr9, hc9, hm9⟩ := own_sl hown3
      injection hA9 with a1 a2 a3
      subst a1 a3
      go_wp2
      go_ret
      refine ⟨⟨some ⟨g, 0, none⟩, cap, ?_, ?_, ?_⟩, hb3⟩
      · rw [HE.out, List.length_append]; rfl
      · rw [HE.out, List.length_append]
        have e : Ssb (out ++ [U]) = Ssb out ++ [.string U] := by simp
        rw [e]; exact hr9
      · rw [HE.out, List.length_append]; exact hc9
    case pos =>
    have i1 : (k : Int) < (s.size : Int) := by omega
    by_cases hc : s[k] = 32
    · have m2 : ((s[k].toNat : Int) == 32) = true := by rw [hc]; rfl
      have hr2 := Lib.hid (hr.out.hit hlt hc)
      clear hr hc hl hL
      go_wp2_with (at_builtin; refine wpList_ap strE3 (hown.alloc _) (ba hbl _) [.string U] (alloc1_new _ _) ?_)
      intro g cap w3 hown3 hb3 hg3
      go_wp2
      go_roundw
      case rel => exact ⟨k + 1, ⟨#[]⟩, out ++ [U], by omega, by go_num, rfl, Nat.zero_le _, hb3, by simpa using hown3, by simp; omega, hr2⟩
      case measure => (simp [intOf]) <;> omega
    · have m2 : ((s[k].toNat : Int) == 32) = false := by
        have := u8eqJ (c := s[k]) (d := 32)
        rw [decide_eq_false hc] at this
        exact this
      have hr2 := hr.out.other hlt hc
      obtain ⟨c8, hc8⟩ : ∃ c8, c8 = s[k] := ⟨_, rfl⟩
      rw [← hc8] at hr2
      have hr2 := Lib.hid hr2
      have hcv : (convert 70 9 (.slice (some ⟨wr.heap.size, 0, none⟩) 1 1)).run Tryd.prog (wr.alloc (.cells #[.int .u8 (s[k].toNat : Int)] 5 (0, 0))) = .ok (.string ⟨#[c8]⟩) (wr.alloc (.cells #[.int .u8 (s[k].toNat : Int)] 5 (0, 0))) := by
        have h9 := conv1 (wr.alloc (.cells #[.int .u8 (s[k].toNat : Int)] 5 (0, 0))) wr.heap.size (s[k].toNat : Int) s[k].toNat rfl s[k].toNat_lt (alloc1_new _ _)
        rw [UInt8.ofNat_toNat] at h9
        rw [hc8]; exact h9
      have hown2 := hown.alloc (.cells #[.int .u8 (s[k].toNat : Int)] 5 (0, 0))
      have m3 : ¬ (9223372036854775807 < U.size + 1) := by omega
      clear hr hc hl hL hc8
      go_wp2
      go_roundw
      case rel => exact ⟨k + 1, U ++ ⟨#[c8]⟩, out, by omega, by go_num, rfl, by rw [ByteArray.size_append]; show U.size + 1 ≤ _; omega, ba hbl _, hown2, by omega, hr2⟩
      case measure => (simp [intOf]) <;> omega
end Go.Proofs.YtljmidaapgppfaaDoor
